/- What functions of the program come to on the abstract machine, and that they do so; printed by a program of mine around proofs of mine. -/
import Derived.Test.YtbnplefohfamnaaFFnExactDenoise1
set_option linter.unusedVariables false
set_option linter.unusedSimpArgs false
set_option linter.defProp false
set_option maxRecDepth 100000
set_option maxHeartbeats 1000000
namespace Go.Proofs.Ytbnplefohfamnaa.Ai
open Go
attribute [local irreducible] bodyK bodyL

def p_fuz_l2 (ba : LN) (t2 : Bool) (shift : Int) (k2_2 : Nat → Int → Bool) : Nat → Nat → Int → Bool
 | 0, _, _ => false
 | μ2 + 1, sum, k => (bif decide (((k + shift) : Int) < (ba.length : Int)) then (p_fuz_l2 ba t2 shift k2_2 μ2 (fadd .f32 sum (fmul .f32 (((ba).getD (k : Int).toNat 0)) (((ba).getD ((k + shift) : Int).toNat 0)))) (k + 1)) else (k2_2 sum k))
def p_fuz_l2_s := fun ba t2 shift k2_2 μ2 sum k => @p_fuz_l2.eq_2 ba t2 shift k2_2 sum k μ2
def p_fuz_l1 (ba : LN) : Nat → Bool → Int → Bool
 | 0, _, _ => false
 | μ + 1, t2, shift => (bif decide ((shift : Int) < (ba.length : Int)) then (p_fuz_l2 ba t2 shift (fun (sum : Nat) (k : Int) => (bif !(fle .f32 (p_f26z sum) 981668463) then false else (p_fuz_l1 ba μ t2 (shift + 2)))) (Int.toNat ((ba.length : Int) - (0 : Int)) + 1) 0 (0 : Int)) else true)
def p_fuz_l1_s := fun ba μ t2 shift => @p_fuz_l1.eq_2 ba t2 shift μ
def p_fuz (ba : LN) : Bool := ((bif !((p_f1yz (ba.length : Int) (2 : Int) (8 : Int))) then false else (bif (Int.tmod (ba.length : Int) 2 : Int) == 1 then false else (bif !((p_fvz ([ba]))) then false else (bif !(fle .f32 ((p_f26z (fsub .f32 (p_f1gz ba) 1065353216))) 981668463) then false else (p_fuz_l1 ba (Int.toNat ((ba.length : Int) - (2 : Int)) + 1) false (2 : Int)))))))
def p_fuz_eq := @p_fuz.eq_1
def T_fuz (p_Low_a : OA) (p_Low_n : Nat) (p_Low_e : Nat) (H : AHeap) (K : Bool → AHeap → Prop) : Prop := ∃ (ba : LN), IsL fF H p_Low_a p_Low_n ba ∧ ba.length < 1073741824 ∧ ((∀ H' : AHeap, Grow H H' → K (p_fuz ba) H'))
theorem T_fuz_i {p_Low_a : OA} {p_Low_n : Nat} {p_Low_e : Nat} {H : AHeap} {K : Bool → AHeap → Prop} (h : ∃ (ba : LN), IsL fF H p_Low_a p_Low_n ba ∧ ba.length < 1073741824 ∧ ((∀ H' : AHeap, Grow H H' → K (p_fuz ba) H'))) : T_fuz p_Low_a p_Low_n p_Low_e H K := h
theorem fuz_t {l : LN} (h : p_fuz l = true) : 2 ≤ l.length ∧ l.length ≤ 8 := by
 rw [p_fuz_eq] at h
 cases hw : p_f1yz (l.length : Int) 2 8
 ·rw [hw] at h; cases h
 ·have := f1yz_t hw; omega
/-! fuz: function 178 -/
def E_fuz : Env := envOf [(96, S_f1yz), (166, S_fvz), (108, S_f1gz), (150, S_f26z)]
def F_fuz : List Value → AHeap → (Value → AHeap → Prop) → Prop
 | [.agg ⟨[.slice p_Low_a p_Low_n p_Low_e]⟩], H, K => T_fuz p_Low_a p_Low_n p_Low_e H fun (r1 : Bool) (H' : AHeap) => K (.bool r1) H'
 | _, _, _ => False
def S_fuz : FSpec := { F := F_fuz, quiet := false, tame := true }
theorem fuz_vc (p_Low_a : OA) (p_Low_n : Nat) (p_Low_e : Nat) (H : AHeap) (K : Value → AHeap → Prop) : bodyL Try.prog E_fuz Try.f178 [.agg #[.slice p_Low_a p_Low_n p_Low_e]] H K =
 (Al [.slice p_Low_a p_Low_n p_Low_e] H fun b1 H1 => ∃ sc : OA, ∃ bb : Nat, ∃ tc : Nat,  rdC H1 b1 0 = some (.slice sc bb tc) ∧ T_f1yz (bb : Int) 2 8 H1 fun (r1 : Bool) (H2 : AHeap) => Br (!r1) (K (.bool false) H2) (2 ≠ (0 : Int) ∧ Br ((Int.tmod (bb : Int) 2 : Int) == 1) (K (.bool false) H2) (∃ oe : OA, ∃ je : Nat, ∃ te : Nat,  rdC H2 b1 0 = some (.slice oe je te) ∧ Al [.slice oe je te] H2 fun b2 H3 => T_fvz (some ⟨b2, 0, none⟩) 1 1 H3 fun (r2 : Bool) (H4 : AHeap) => Br (!r2) (K (.bool false) H4) (∃ re : OA, ∃ zd : Nat, ∃ ue : Nat,  rdC H4 b1 0 = some (.slice re zd ue) ∧ T_f1gz re zd ue H4 fun (r3 : Nat) (H5 : AHeap) => T_f26z (fsub .f32 r3 1065353216) H5 fun (r4 : Nat) (H6 : AHeap) => Br (!(fle .f32 r4 981668463)) (K (.bool false) H6) (loopK (exL Try.prog E_fuz (cl (cl (cr (cl (cr (cr (cr (bodyC Try.f178)))))))) 26 4 [(0, 0)]) (ud :: .pointer (some ⟨b1, 0, none⟩) :: ud :: .int .i64 (bb : Int) :: .int .i64 2 :: ud60 []) H6 (blockQ 0 (seqQ (exL Try.prog E_fuz (cr (cr (cr (cr (bodyC Try.f178))))) 4 4 []) (retK Try.prog Try.f178 K)))))))) := by kernel_rfl
abbrev fuz_P1 (b1 : Nat) (bb : Nat) (shift : Int)  : List Value := (ud :: .pointer (some ⟨b1, 0, none⟩) :: ud :: .int .i64 (bb : Int) :: .int .i64 shift :: ud60 [])
theorem fuz_r1 (b1 : Nat) (bb : Nat) (shift : Int)  (H : AHeap) (R : Post) : exL Try.prog E_fuz (cl (cl (cr (cl (cr (cr (cr (bodyC Try.f178)))))))) 26 4 [(0, 0)] (fuz_P1 b1 bb shift) H R =
 (Br (decide ((shift : Int) < (bb : Int))) (loopK (exL Try.prog E_fuz (cl (cl (cr (cl (cr (cl (cl (cr (cl (cl (cr (cl (cr (cr (cr (bodyC Try.f178)))))))))))))))) 122 4 [(2, 58), (1, 26), (0, 0)]) (ud :: .pointer (some ⟨b1, 0, none⟩) :: ud :: .int .i64 (bb : Int) :: .int .i64 shift :: .float .f32 0 :: .int .i64 0 :: ud58 []) H (blockQ 2 (seqQ (exL Try.prog E_fuz (cr (cr (cl (cl (cr (cl (cl (cr (cl (cr (cr (cr (bodyC Try.f178))))))))))))) 26 4 [(1, 26), (0, 0)]) (blockQ 1 (seqQ (exL Try.prog E_fuz (cr (cr (cl (cl (cr (cl (cr (cr (cr (bodyC Try.f178)))))))))) 26 4 [(0, 0)]) (R)))))) (R (.exit 0) (ud65 []) H)) := by kernel_rfl
def fuz_I1 (b1 : Nat) (bb : Nat) (Inv : Nat → Int → AHeap → Prop) : Nat → List Value → AHeap → Prop := fun μ tm H => ∃ (shift : Int), tm = (fuz_P1 b1 bb shift) ∧ Inv μ shift H
theorem fuz_L1 (b1 : Nat) (bb : Nat) {Q : Post} (Inv : Nat → Int → AHeap → Prop) (ν : Nat) (shift : Int)  (H : AHeap) (h0 : Inv ν shift H)
  (hs : ∀ (μ : Nat) (shift : Int)  (H : AHeap), Inv μ shift H → exL Try.prog E_fuz (cl (cl (cr (cl (cr (cr (cr (bodyC Try.f178)))))))) 26 4 [(0, 0)] (fuz_P1 b1 bb shift) H (loopQ (fuz_I1 b1 bb Inv) μ Q)) : loopK (exL Try.prog E_fuz (cl (cl (cr (cl (cr (cr (cr (bodyC Try.f178)))))))) 26 4 [(0, 0)]) (fuz_P1 b1 bb shift) H Q :=
 ⟨fuz_I1 b1 bb Inv, ν, ⟨shift, rfl, h0⟩, fun μ tm H h => by obtain ⟨shift, rfl, hI⟩ := h; exact hs μ shift  H hI⟩
theorem fuz_n1 {b1 : Nat} {bb : Nat} {Q : Post} {Inv : Nat → Int → AHeap → Prop} {μ : Nat} (μ' : Nat) {shift : Int}  {H : AHeap} (hm : μ' < μ) (hI : Inv μ' shift H) : loopQ (fuz_I1 b1 bb Inv) μ Q .normal (fuz_P1 b1 bb shift) H := ⟨μ', hm, shift, rfl, hI⟩
theorem fuz_x1_0  (H : AHeap) (K : Value → AHeap → Prop)  {I : Nat → List Value → AHeap → Prop} {μ : Nat} : loopQ I μ (blockQ 0 (seqQ (exL Try.prog E_fuz (cr (cr (cr (cr (bodyC Try.f178))))) 4 4 []) (retK Try.prog Try.f178 K))) (.exit 0) (ud65 []) H =
 (K (.bool true) H) := by kernel_rfl
theorem fuz_x1_ret (t2 : Bool) (H : AHeap) (K : Value → AHeap → Prop)  {I : Nat → List Value → AHeap → Prop} {μ : Nat} : loopQ I μ (blockQ 0 (seqQ (exL Try.prog E_fuz (cr (cr (cr (cr (bodyC Try.f178))))) 4 4 []) (retK Try.prog Try.f178 K))) .ret (ud2 (.bool t2 :: ud62 [])) H =
 (K (.bool t2) H) := by kernel_rfl
abbrev fuz_P2 (b1 : Nat) (shift : Int) (bb : Nat) (sum : Nat) (k : Int)  : List Value := (ud :: .pointer (some ⟨b1, 0, none⟩) :: ud :: .int .i64 (bb : Int) :: .int .i64 shift :: .float .f32 sum :: .int .i64 k :: ud58 [])
theorem fuz_r2 (b1 : Nat) (shift : Int) (bb : Nat) (sum : Nat) (k : Int)  (H : AHeap) (R : Post) : exL Try.prog E_fuz (cl (cl (cr (cl (cr (cl (cl (cr (cl (cl (cr (cl (cr (cr (cr (bodyC Try.f178)))))))))))))))) 122 4 [(2, 58), (1, 26), (0, 0)] (fuz_P2 b1 shift bb sum k) H R =
 (Br (decide ((IntKind.wrap .i64 (k + shift) : Int) < (bb : Int))) (∃ xg : OA, ∃ yg : Nat, ∃ zg : Nat,  rdC H b1 0 = some (.slice xg yg zg) ∧ (0 : Int) ≤ k ∧ k < (yg : Int) ∧ ∃ b3 f1, (xg : OA) = some ⟨b3, f1, none⟩ ∧ ∃ x5 : Nat,  rdC H b3 (f1 + (k : Int).toNat * 1) = some (.float .f32 x5) ∧ ∃ df : OA, ∃ se : Nat, ∃ uf : Nat,  rdC H b1 0 = some (.slice df se uf) ∧ (0 : Int) ≤ IntKind.wrap .i64 (k + shift) ∧ IntKind.wrap .i64 (k + shift) < (se : Int) ∧ ∃ b4 f2, (df : OA) = some ⟨b4, f2, none⟩ ∧ ∃ x7 : Nat,  rdC H b4 (f2 + (IntKind.wrap .i64 (k + shift) : Int).toNat * 1) = some (.float .f32 x7) ∧ R .normal (ud :: .pointer (some ⟨b1, 0, none⟩) :: ud :: .int .i64 (bb : Int) :: .int .i64 shift :: .float .f32 (fadd .f32 sum (fmul .f32 x5 x7)) :: .int .i64 (IntKind.wrap .i64 (k + 1)) :: ud58 []) H) (R (.exit 2) (ud :: .pointer (some ⟨b1, 0, none⟩) :: ud :: .int .i64 (bb : Int) :: .int .i64 shift :: .float .f32 sum :: ud59 []) H)) := by kernel_rfl
def fuz_I2 (b1 : Nat) (shift : Int) (bb : Nat) (Inv : Nat → Nat → Int → AHeap → Prop) : Nat → List Value → AHeap → Prop := fun μ tm H => ∃ (sum : Nat), ∃ (k : Int), tm = (fuz_P2 b1 shift bb sum k) ∧ Inv μ sum k H
theorem fuz_L2 (b1 : Nat) (shift : Int) (bb : Nat) {Q : Post} (Inv : Nat → Nat → Int → AHeap → Prop) (ν : Nat) (sum : Nat) (k : Int)  (H : AHeap) (h0 : Inv ν sum k H)
  (hs : ∀ (μ : Nat) (sum : Nat) (k : Int)  (H : AHeap), Inv μ sum k H → exL Try.prog E_fuz (cl (cl (cr (cl (cr (cl (cl (cr (cl (cl (cr (cl (cr (cr (cr (bodyC Try.f178)))))))))))))))) 122 4 [(2, 58), (1, 26), (0, 0)] (fuz_P2 b1 shift bb sum k) H (loopQ (fuz_I2 b1 shift bb Inv) μ Q)) : loopK (exL Try.prog E_fuz (cl (cl (cr (cl (cr (cl (cl (cr (cl (cl (cr (cl (cr (cr (cr (bodyC Try.f178)))))))))))))))) 122 4 [(2, 58), (1, 26), (0, 0)]) (fuz_P2 b1 shift bb sum k) H Q :=
 ⟨fuz_I2 b1 shift bb Inv, ν, ⟨sum, k, rfl, h0⟩, fun μ tm H h => by obtain ⟨sum, k, rfl, hI⟩ := h; exact hs μ sum k  H hI⟩
theorem fuz_n2 {b1 : Nat} {shift : Int} {bb : Nat} {Q : Post} {Inv : Nat → Nat → Int → AHeap → Prop} {μ : Nat} (μ' : Nat) {sum : Nat} {k : Int}  {H : AHeap} (hm : μ' < μ) (hI : Inv μ' sum k H) : loopQ (fuz_I2 b1 shift bb Inv) μ Q .normal (fuz_P2 b1 shift bb sum k) H := ⟨μ', hm, sum, k, rfl, hI⟩
theorem fuz_x2_2 (b1 : Nat) (shift : Int) (bb : Nat) (sum : Nat) (H : AHeap)  (R : Post) {I : Nat → List Value → AHeap → Prop} {μ : Nat} : loopQ I μ (blockQ 2 (seqQ (exL Try.prog E_fuz (cr (cr (cl (cl (cr (cl (cl (cr (cl (cr (cr (cr (bodyC Try.f178))))))))))))) 26 4 [(1, 26), (0, 0)]) (blockQ 1 (seqQ (exL Try.prog E_fuz (cr (cr (cl (cl (cr (cl (cr (cr (cr (bodyC Try.f178)))))))))) 26 4 [(0, 0)]) (R))))) (.exit 2) (ud :: .pointer (some ⟨b1, 0, none⟩) :: ud :: .int .i64 (bb : Int) :: .int .i64 shift :: .float .f32 sum :: ud59 []) H =
 (T_f26z sum H fun (r5 : Nat) (H7 : AHeap) => Br (!(fle .f32 r5 981668463)) (R .ret (ud2 (.bool false :: ud62 [])) H7) (R .normal (ud :: .pointer (some ⟨b1, 0, none⟩) :: ud :: .int .i64 (bb : Int) :: .int .i64 (IntKind.wrap .i64 (shift + 2)) :: ud60 []) H7)) := by kernel_rfl
theorem E_fuz_ok : ∀ g, FnOk Try.prog g (E_fuz g) := FnOk.envOf (by
 intro x hx
 simp only [List.mem_cons, List.not_mem_nil, or_false] at hx
 rcases hx with rfl | rfl | rfl | rfl
 ·exact f1yz_ok
 ·exact fvz_ok
 ·exact f1gz_ok
 ·exact f26z_ok)
theorem fuz_main (p_Low_a : OA) (p_Low_n : Nat) (p_Low_e : Nat) (H : AHeap) (K : Value → AHeap → Prop) (h : T_fuz p_Low_a p_Low_n p_Low_e H fun (r1 : Bool) (H' : AHeap) => K (.bool r1) H') : bodyL Try.prog E_fuz Try.f178 [.agg #[.slice p_Low_a p_Low_n p_Low_e]] H K := by
 rw [fuz_vc]
 obtain ⟨ba, i_p_Low, bd_49, hk⟩ := h
 obtain rfl := i_p_Low.eqn
 have e : (p_fuz ba) = _ := rfl
 have e := e.trans (p_fuz_eq ba)
 have g0 := Grow.refl H
 refine Al.intro (fun b_1 H_1 hb_2 hl_3 g_4 o_5 => ?_)
 have l7 := g_4.1
 have g8 := g0.trans g_4
 have l9 := g8.1
 have w48 := o_5.lt
 refine ⟨p_Low_a, ba.length, p_Low_e, (o_5.rdC _).trans rfl, ?_⟩
 refine T_f1yz_i ?_
 refine Br.intro (fun c10 => ?_) (fun c10 => ?_)
 ·have e := e.trans (cond_t c10)
  have c_10n := nf_of_t c10
  rw [e] at hk
  exact hk  H_1 g8 
 ·have e := e.trans (cond_f c10)
  have c_10n := nt_of_f c10
  have c_10n' := f1yz_t c_10n
  refine ⟨ω25, ?_⟩
  have z11 := tmod_rng (ba.length : Int) 2
  have z12 := tmod_nn (ba.length : Int) 2
  refine Br.intro (fun c13 => ?_) (fun c13 => ?_)
  ·have e := e.trans (cond_t c13)
   have c_13' := ieq_t c13
   rw [e] at hk
   exact hk  H_1 g8 
  ·have e := e.trans (cond_f c13)
   have c_13' := ieq_f c13
   refine ⟨p_Low_a, ba.length, p_Low_e, (o_5.rdC _).trans rfl, ?_⟩
   refine Al.intro (fun b_14 H_2 hb_15 hl_16 g17 o18 => ?_)
   have l20 := g17.1
   have g21 := g8.trans g17
   have l22 := g21.1
   have o23 := o_5.grow g17
   have w24 := o23.lt
   have w47 := o18.lt
   refine T_fvz_i ⟨[ba], ⟨_, o18.rdAll rfl, LLc.cons (i_p_Low.grow g21) (LLc.nil _ _)⟩, ω0, ω6, ?_⟩
   refine Br.intro (fun c_25 => ?_) (fun c_25 => ?_)
   ·have e := e.trans (cond_t c_25)
    have c_25n := nf_of_t c_25
    rw [e] at hk
    exact hk  H_2 g21 
   ·have e := e.trans (cond_f c_25)
    have c_25n := nt_of_f c_25
    refine ⟨p_Low_a, ba.length, p_Low_e, (o23.rdC _).trans rfl, ?_⟩
    refine T_f1gz_i ⟨_, (i_p_Low.grow g21), ω0, ?_⟩
    refine T_f26z_i ?_
    refine Br.intro (fun c26 => ?_) (fun c26 => ?_)
    ·have e := e.trans (cond_t c26)
     have c_26n := nf_of_t c26
     rw [e] at hk
     exact hk  H_2 g21 
    ·have e := e.trans (cond_f c26)
     have c_26n := nt_of_f c26
     refine fuz_L1 _ _ (fun (μ : Nat) (shift : Int) (H_3 : AHeap) => ∃ (t2 : Bool), H_2 = H_3 ∧ (2 : Int) ≤ shift ∧ 2 ≤ shift ∧ shift ≤ (ba.length : Int) + 2 ∧ (ba.length : Int) - shift ≤ (μ : Int) ∧ p_fuz ba = p_fuz_l1 ba (μ + 1) t2 shift) (Int.toNat ((ba.length : Int) - (2 : Int))) _ H_2 ?_ ?_
     ·exact ⟨_, rfl, ω7, ω7, ω7, ω2, e⟩
     ·intro μ shift  H_3 hI
      obtain ⟨t2, rfl, v27, v28, v29, hμ, e⟩ := hI
      rw [fuz_r1]
      have e := e.trans (p_fuz_l1_s ba μ t2 shift)
      have w30 := o23.lt
      have w31 := o18.lt
      have l_32 := g21.1
      refine Br.intro (fun c33 => ?_) (fun c33 => ?_)
      ·have e := e.trans (cond_t c33)
       have c_33' := of_decide_eq_true c33
       refine fuz_L2 _ _ _ (fun (μ2 : Nat) (sum : Nat) (k : Int) (H_4 : AHeap) => H_2 = H_4 ∧ 0 ≤ k ∧ k ≤ (ba.length : Int) ∧ (ba.length : Int) - k ≤ (μ2 : Int) ∧ p_fuz ba = p_fuz_l2 ba t2 shift (fun (sum : Nat) (k : Int) => (bif !(fle .f32 (p_f26z sum) 981668463) then false else (p_fuz_l1 ba μ t2 (shift + 2)))) (μ2 + 1) sum k) (Int.toNat ((ba.length : Int) - (0 : Int))) _ _ H_2 ?_ ?_
       ·exact ⟨rfl, ω7, ω7, ω2, e⟩
       ·intro μ2 sum k  H_4 hI
        obtain ⟨rfl, v34, v35, hμ, e⟩ := hI
        rw [fuz_r2]
        have e := e.trans (p_fuz_l2_s ba t2 shift (fun (sum : Nat) (k : Int) => (bif !(fle .f32 (p_f26z sum) 981668463) then false else (p_fuz_l1 ba μ t2 (shift + 2)))) μ2 sum k)
        have w36 := o23.lt
        have w37 := o18.lt
        have l38 := g21.1
        rw [show IntKind.wrap .i64 (k + shift) = (k + shift) from wrap64 ω2 ω2]
        refine Br.intro (fun c39 => ?_) (fun c39 => ?_)
        ·have e := e.trans (cond_t c39)
         have c_39' := of_decide_eq_true c39
         refine ⟨p_Low_a, ba.length, p_Low_e, (o23.rdC _).trans rfl, ?_⟩
         obtain ⟨b40, f_41, q42⟩ := ((i_p_Low.grow g21)).pos ω0
         refine ⟨by omega, by omega, b40, f_41, q42, ?_⟩
         refine ⟨((ba).getD (k : Int).toNat 0), (i_p_Low).rd g21 q42 ω2 _, ?_⟩
         refine ⟨p_Low_a, ba.length, p_Low_e, (o23.rdC _).trans rfl, ?_⟩
         obtain ⟨b43, f44, q45⟩ := ((i_p_Low.grow g21)).pos ω0
         refine ⟨by omega, by omega, b43, f44, q45, ?_⟩
         refine ⟨((ba).getD ((k + shift) : Int).toNat 0), (i_p_Low).rd g21 q45 ω2 _, ?_⟩
         rw [show IntKind.wrap .i64 (k + 1) = (k + 1) from wrap64 ω2 ω2]
         refine fuz_n2 (μ2 - 1) ω17 ⟨rfl, ω1, ω1, ω17, ω22⟩
        ·have e := e.trans (cond_f c39)
         have c_39' := of_decide_eq_false c39
         rw [fuz_x2_2]
         refine T_f26z_i ?_
         refine Br.intro (fun c46 => ?_) (fun c46 => ?_)
         ·have e := e.trans (cond_t c46)
          have c_46n := nf_of_t c46
          rw [fuz_x1_ret]
          rw [e] at hk
          exact hk  H_2 g21 
         ·have e := e.trans (cond_f c46)
          have c_46n := nt_of_f c46
          rw [show IntKind.wrap .i64 (shift + 2) = (shift + 2) from wrap64 ω2 ω2]
          refine fuz_n1 (μ - 1) ω17 ⟨_, rfl, ω1, ω1, ω1, ω17, ω12⟩
      ·have e := e.trans (cond_f c33)
       have c_33' := of_decide_eq_false c33
       rw [fuz_x1_0]
       rw [e] at hk
       exact hk  H_2 g21 
theorem fuz_ok : FnOk Try.prog 178 S_fuz := by
 refine FnOk.body mix_ok E_fuz_ok Try.func178 rfl ω15 ω15 ?_ ?_ ?_ ?_ ?_
 ·intro args H K K' h hk
  simp only [S_fuz] at *
  unfold F_fuz at *
  split at hk
  ·obtain ⟨ba, i_p_Low, bd_49, k⟩ := hk
   exact ⟨ba, i_p_Low, bd_49, (fun  H' gg  => h _ _ (k  H' gg ))⟩
  ·exact hk.elim
 ·intro hq; cases hq
 ·intro args H K hk
  simp only [S_fuz] at *
  unfold F_fuz at *
  split at hk
  ·obtain ⟨ba, i_p_Low, bd_49, k⟩ := hk
   exact ⟨_, _, k H (Grow.refl H)⟩
  ·exact hk.elim
 ·intro _ args H K hk
  simp only [S_fuz] at *
  unfold F_fuz at *
  split at hk
  ·obtain ⟨ba, i_p_Low, bd_49, k⟩ := hk
   exact ⟨ba, i_p_Low, bd_49, (fun  H' gg  => ⟨gg, k  H' gg ⟩)⟩
  ·exact hk.elim
 ·have mm := @fuz_main
  have ml := fun (args : List Value) (H : AHeap) (K : Value → AHeap → Prop) => bodyL_body (P := Try.prog) (env := E_fuz ) (fn := Try.f178) (args := args) (H := H) (K := K) E_fuz_ok 
  revert mm ml
  generalize bodyK Try.prog E_fuz Try.f178 = Q
  generalize bodyL Try.prog E_fuz Try.f178 = QL
  intro mm ml args H K hk
  simp only [S_fuz] at *
  unfold F_fuz at *
  split at hk
  ·exact ml _ H K (mm _ _ _ H K hk)
  ·exact hk.elim

def p_f1rz (aa : LN) : LN := (([] : LN) ++ aa)
def p_f1rz_eq := @p_f1rz.eq_1
def T_f1rz (ea : OA) (da : Nat) (ga : Nat) (H : AHeap) (K : OA → Nat → Nat → AHeap → Prop) : Prop := ∃ (aa : LN), IsL fF H ea da aa ∧ aa.length < 1073741824 ∧ ((∀ (ib : OA) (kb jb : Nat), ∀ H' : AHeap, Grow H H' → OwnS fF H' H.length ib kb jb (p_f1rz aa) → K ib kb jb H'))
theorem T_f1rz_i {ea : OA} {da : Nat} {ga : Nat} {H : AHeap} {K : OA → Nat → Nat → AHeap → Prop} (h : ∃ (aa : LN), IsL fF H ea da aa ∧ aa.length < 1073741824 ∧ ((∀ (ib : OA) (kb jb : Nat), ∀ H' : AHeap, Grow H H' → OwnS fF H' H.length ib kb jb (p_f1rz aa) → K ib kb jb H'))) : T_f1rz ea da ga H K := h
theorem f1rz_is (l : LN) : p_f1rz l = l := by rw [p_f1rz_eq]; rfl
theorem f1rz_len (l : LN) : (p_f1rz l).length = l.length := by rw [f1rz_is]
/-! f1rz: function 122 -/
def E_f1rz : Env := envOf []
def F_f1rz : List Value → AHeap → (Value → AHeap → Prop) → Prop
 | [.slice ea da ga], H, K => T_f1rz ea da ga H fun (ib : OA) (kb : Nat) (jb : Nat) (H' : AHeap) => K (.slice ib kb jb) H'
 | _, _, _ => False
def S_f1rz : FSpec := { F := F_f1rz, quiet := false, tame := true }
theorem f1rz_vc (ea : OA) (da : Nat) (ga : Nat) (H : AHeap) (K : Value → AHeap → Prop) : bodyL Try.prog E_f1rz Try.f122 [.slice ea da ga] H K =
 (Al [] H fun b1 H1 => ∃ o1 w1 : List Value, ownB H1 (some ⟨b1, 0, none⟩) 0 1 1 = some o1 ∧ rdS H1 ea (da * 1) = some w1 ∧ ((some ⟨b1, 0, none⟩ : OA) = none → 0 < (da : Nat)) ∧ (0 : Nat) + da < most ∧ Ap H1 (killB H1 (some ⟨b1, 0, none⟩) ++ [some ⟨o1 ++ w1, true⟩]) fun b2 H2 => K (.slice (some ⟨b2, 0, none⟩) (0 + da) 1) H2) := by kernel_rfl
theorem E_f1rz_ok : ∀ g, FnOk Try.prog g (E_f1rz g) := FnOk.envOf (by
 intro x hx; cases hx)
theorem f1rz_main (ea : OA) (da : Nat) (ga : Nat) (H : AHeap) (K : Value → AHeap → Prop) (h : T_f1rz ea da ga H fun (ib : OA) (kb : Nat) (jb : Nat) (H' : AHeap) => K (.slice ib kb jb) H') : bodyL Try.prog E_f1rz Try.f122 [.slice ea da ga] H K := by
 rw [f1rz_vc]
 obtain ⟨aa, i_list, bd_21, hk⟩ := h
 obtain rfl := i_list.eqn
 have e : (p_f1rz aa) = _ := rfl
 have e := e.trans (p_f1rz_eq aa)
 have g0 := Grow.refl H
 refine Al.intro (fun b_1 H_1 hb_2 hl_3 g_4 o_5 => ?_)
 have o_5 : Own H_1 b_1 ((([] : LN)).map fF) := o_5
 have l7 := g_4.1
 have g8 := g0.trans g_4
 have l9 := g8.1
 have w20 := o_5.lt
 refine ⟨_, _, o_5.ownB ω5 rfl, (isl_rdS (i_list.grow g8)), (fun h => by cases h), ω24, ?_⟩
 refine Ap.app o_5 rfl rfl (fun b_14 H_2 q18 hl_10 o11 k12 => ?_)
 have o11 := map_snoc o11
 have l15 := k12.1
 have g16 := g8.keep (b := b_1) ω2 k12
 have l17 := g16.1
 have w19 := o11.lt
 rw [e] at hk
 exact hk _ _ _ H_2 g16 (o11.ownS ω8 ω2)
theorem f1rz_ok : FnOk Try.prog 122 S_f1rz := by
 refine FnOk.body mix_ok E_f1rz_ok Try.func122 rfl ω15 ω15 ?_ ?_ ?_ ?_ ?_
 ·intro args H K K' h hk
  simp only [S_f1rz] at *
  unfold F_f1rz at *
  split at hk
  ·obtain ⟨aa, i_list, bd_21, k⟩ := hk
   exact ⟨aa, i_list, bd_21, (fun ib kb jb H' gg ow0 => h _ _ (k ib kb jb H' gg ow0))⟩
  ·exact hk.elim
 ·intro hq; cases hq
 ·intro args H K hk
  simp only [S_f1rz] at *
  unfold F_f1rz at *
  split at hk
  ·obtain ⟨aa, i_list, bd_21, k⟩ := hk
   exact liveS fun a n e H1 g o => ⟨_, _, k a n e H1 g o⟩
  ·exact hk.elim
 ·intro _ args H K hk
  simp only [S_f1rz] at *
  unfold F_f1rz at *
  split at hk
  ·obtain ⟨aa, i_list, bd_21, k⟩ := hk
   exact ⟨aa, i_list, bd_21, (fun ib kb jb H' gg ow0 => ⟨gg, k ib kb jb H' gg ow0⟩)⟩
  ·exact hk.elim
 ·have mm := @f1rz_main
  have ml := fun (args : List Value) (H : AHeap) (K : Value → AHeap → Prop) => bodyL_body (P := Try.prog) (env := E_f1rz ) (fn := Try.f122) (args := args) (H := H) (K := K) E_f1rz_ok 
  revert mm ml
  generalize bodyK Try.prog E_f1rz Try.f122 = Q
  generalize bodyL Try.prog E_f1rz Try.f122 = QL
  intro mm ml args H K hk
  simp only [S_f1rz] at *
  unfold F_f1rz at *
  split at hk
  ·exact ml _ H K (mm _ _ _ H K hk)
  ·exact hk.elim

def p_f1tz_l1 (ba : LN) : Nat → LN → Int → LN
 | 0, _, _ => []
 | μ + 1, lb, t10 => (bif decide ((t10 : Int) < (ba.length : Int)) then (bif (Int.tmod t10 2 : Int) == 1 then (p_f1tz_l1 ba μ ((lb ++ [(fneg .f32 (((ba).getD (((((ba.length : Int) - 1)) - t10) : Int).toNat 0)))])) (t10 + 1)) else (p_f1tz_l1 ba μ ((lb ++ [(((ba).getD (((((ba.length : Int) - 1)) - t10) : Int).toNat 0))])) (t10 + 1))) else lb)
def p_f1tz_l1_s := fun ba μ lb t10 => @p_f1tz_l1.eq_2 ba lb t10 μ
def p_f1tz (ba : LN) : LN := (p_f1tz_l1 ba (Int.toNat ((ba.length : Int) - (0 : Int)) + 1) ([] : LN) (0 : Int))
def p_f1tz_eq := @p_f1tz.eq_1
def T_f1tz (p_Low_a : OA) (p_Low_n : Nat) (p_Low_e : Nat) (H : AHeap) (K : OA → Nat → Nat → AHeap → Prop) : Prop := ∃ (ba : LN), IsL fF H p_Low_a p_Low_n ba ∧ ba.length < 1073741824 ∧ ((∀ (ib : OA) (kb jb : Nat), ∀ H' : AHeap, Grow H H' → OwnS fF H' H.length ib kb jb (p_f1tz ba) → K ib kb jb H'))
theorem T_f1tz_i {p_Low_a : OA} {p_Low_n : Nat} {p_Low_e : Nat} {H : AHeap} {K : OA → Nat → Nat → AHeap → Prop} (h : ∃ (ba : LN), IsL fF H p_Low_a p_Low_n ba ∧ ba.length < 1073741824 ∧ ((∀ (ib : OA) (kb jb : Nat), ∀ H' : AHeap, Grow H H' → OwnS fF H' H.length ib kb jb (p_f1tz ba) → K ib kb jb H'))) : T_f1tz p_Low_a p_Low_n p_Low_e H K := h
theorem f1tz_l1_len (l : LN) : ∀ (μ : Nat) (o : LN) (k : Int), (o.length : Int) = k → k ≤ (l.length : Int) → ((l.length : Int) - k).toNat < μ → (p_f1tz_l1 l μ o k).length = l.length := by
 intro μ
 induction μ with
 | zero => intro o k h1 h2 h3; omega
 | succ μ ih =>
  intro o k h1 h2 h3
  rw [p_f1tz_l1_s]
  by_cases h : k < (l.length : Int)
  ·rw [decide_eq_true h, cond_true]
   refine cnb (P := fun r : LN => r.length = l.length) (fun _ => ?_) (fun _ => ?_)
   ·exact ih _ _ ω31 ω2 ω2
   ·exact ih _ _ ω31 ω2 ω2
  ·rw [decide_eq_false h, cond_false]; omega
theorem f1tz_len (l : LN) : (p_f1tz l).length = l.length := by
 rw [p_f1tz_eq]; exact f1tz_l1_len l _ _ _ (by simp) ω2 ω2
/-! f1tz: function 205 -/
def E_f1tz : Env := envOf []
def F_f1tz : List Value → AHeap → (Value → AHeap → Prop) → Prop
 | [.agg ⟨[.slice p_Low_a p_Low_n p_Low_e]⟩], H, K => T_f1tz p_Low_a p_Low_n p_Low_e H fun (ib : OA) (kb : Nat) (jb : Nat) (H' : AHeap) => K (.slice ib kb jb) H'
 | _, _, _ => False
def S_f1tz : FSpec := { F := F_f1tz, quiet := false, tame := true }
theorem f1tz_vc (p_Low_a : OA) (p_Low_n : Nat) (p_Low_e : Nat) (H : AHeap) (K : Value → AHeap → Prop) : bodyL Try.prog E_f1tz Try.f205 [.agg #[.slice p_Low_a p_Low_n p_Low_e]] H K =
 (Al [.slice p_Low_a p_Low_n p_Low_e] H fun b1 H1 => Al [] H1 fun b2 H2 => ∃ sc : OA, ∃ bb : Nat, ∃ tc : Nat,  rdC H2 b1 0 = some (.slice sc bb tc) ∧ loopK (exL Try.prog E_f1tz (cl (cl (cr (cl (cr (cr (bodyC Try.f205))))))) 1546 4 [(0, 8)]) (ud :: .pointer (some ⟨b1, 0, none⟩) :: ud :: .slice (some ⟨b2, 0, none⟩) 0 1 :: ud5 (.int .i64 (bb : Int) :: .int .i64 0 :: ud23 [])) H2 (blockQ 0 (seqQ (exL Try.prog E_f1tz (cr (cr (cr (bodyC Try.f205)))) 4 4 []) (retK Try.prog Try.f205 K)))) := by kernel_rfl
abbrev f1tz_P1 (b1 : Nat) (bb : Nat) (oa : OA) (na : Nat) (pa : Nat) (t10 : Int)  : List Value := (ud :: .pointer (some ⟨b1, 0, none⟩) :: ud :: .slice oa na pa :: ud5 (.int .i64 (bb : Int) :: .int .i64 t10 :: ud23 []))
theorem f1tz_r1 (b1 : Nat) (bb : Nat) (oa : OA) (na : Nat) (pa : Nat) (t10 : Int)  (H : AHeap) (R : Post) : exL Try.prog E_f1tz (cl (cl (cr (cl (cr (cr (bodyC Try.f205))))))) 1546 4 [(0, 8)] (f1tz_P1 b1 bb oa na pa t10) H R =
 (Br (decide ((t10 : Int) < (bb : Int))) (∃ oe : OA, ∃ je : Nat, ∃ te : Nat,  rdC H b1 0 = some (.slice oe je te) ∧ ∃ re : OA, ∃ zd : Nat, ∃ ue : Nat,  rdC H b1 0 = some (.slice re zd ue) ∧ (0 : Int) ≤ IntKind.wrap .i64 ((IntKind.wrap .i64 ((zd : Int) - 1)) - t10) ∧ IntKind.wrap .i64 ((IntKind.wrap .i64 ((zd : Int) - 1)) - t10) < (je : Int) ∧ ∃ b3 f1, (oe : OA) = some ⟨b3, f1, none⟩ ∧ ∃ x4 : Nat,  rdC H b3 (f1 + (IntKind.wrap .i64 ((IntKind.wrap .i64 ((zd : Int) - 1)) - t10) : Int).toNat * 1) = some (.float .f32 x4) ∧ 2 ≠ (0 : Int) ∧ Br ((Int.tmod t10 2 : Int) == 1) (Al [.float .f32 (fneg .f32 x4)] H fun b4 H3 => ∃ o1 w1 : List Value, ownB H3 oa na pa 1 = some o1 ∧ rdS H3 (some ⟨b4, 0, none⟩) (1 * 1) = some w1 ∧ ((oa : OA) = none → 0 < (1 : Nat)) ∧ (na : Nat) + 1 < most ∧ Ap H3 (killB H3 oa ++ [some ⟨o1 ++ w1, true⟩]) fun b5 H4 => R .normal (ud :: .pointer (some ⟨b1, 0, none⟩) :: ud :: .slice (some ⟨b5, 0, none⟩) (na + 1) 1 :: ud5 (.int .i64 (bb : Int) :: .int .i64 (IntKind.wrap .i64 (t10 + 1)) :: ud23 [])) H4) (Al [.float .f32 x4] H fun b6 H5 => ∃ o2 w2 : List Value, ownB H5 oa na pa 1 = some o2 ∧ rdS H5 (some ⟨b6, 0, none⟩) (1 * 1) = some w2 ∧ ((oa : OA) = none → 0 < (1 : Nat)) ∧ (na : Nat) + 1 < most ∧ Ap H5 (killB H5 oa ++ [some ⟨o2 ++ w2, true⟩]) fun b7 H6 => R .normal (ud :: .pointer (some ⟨b1, 0, none⟩) :: ud :: .slice (some ⟨b7, 0, none⟩) (na + 1) 1 :: ud5 (.int .i64 (bb : Int) :: .int .i64 (IntKind.wrap .i64 (t10 + 1)) :: ud23 [])) H6)) (R (.exit 0) (ud3 (.slice oa na pa :: ud30 [])) H)) := by kernel_rfl
def f1tz_I1 (b1 : Nat) (bb : Nat) (Inv : Nat → OA → Nat → Nat → Int → AHeap → Prop) : Nat → List Value → AHeap → Prop := fun μ tm H => ∃ (oa : OA), ∃ (na : Nat), ∃ (pa : Nat), ∃ (t10 : Int), tm = (f1tz_P1 b1 bb oa na pa t10) ∧ Inv μ oa na pa t10 H
theorem f1tz_L1 (b1 : Nat) (bb : Nat) {Q : Post} (Inv : Nat → OA → Nat → Nat → Int → AHeap → Prop) (ν : Nat) (oa : OA) (na : Nat) (pa : Nat) (t10 : Int)  (H : AHeap) (h0 : Inv ν oa na pa t10 H)
  (hs : ∀ (μ : Nat) (oa : OA) (na : Nat) (pa : Nat) (t10 : Int)  (H : AHeap), Inv μ oa na pa t10 H → exL Try.prog E_f1tz (cl (cl (cr (cl (cr (cr (bodyC Try.f205))))))) 1546 4 [(0, 8)] (f1tz_P1 b1 bb oa na pa t10) H (loopQ (f1tz_I1 b1 bb Inv) μ Q)) : loopK (exL Try.prog E_f1tz (cl (cl (cr (cl (cr (cr (bodyC Try.f205))))))) 1546 4 [(0, 8)]) (f1tz_P1 b1 bb oa na pa t10) H Q :=
 ⟨f1tz_I1 b1 bb Inv, ν, ⟨oa, na, pa, t10, rfl, h0⟩, fun μ tm H h => by obtain ⟨oa, na, pa, t10, rfl, hI⟩ := h; exact hs μ oa na pa t10  H hI⟩
theorem f1tz_n1 {b1 : Nat} {bb : Nat} {Q : Post} {Inv : Nat → OA → Nat → Nat → Int → AHeap → Prop} {μ : Nat} (μ' : Nat) {oa : OA} {na : Nat} {pa : Nat} {t10 : Int}  {H : AHeap} (hm : μ' < μ) (hI : Inv μ' oa na pa t10 H) : loopQ (f1tz_I1 b1 bb Inv) μ Q .normal (f1tz_P1 b1 bb oa na pa t10) H := ⟨μ', hm, oa, na, pa, t10, rfl, hI⟩
theorem f1tz_x1_0 (oa : OA) (na : Nat) (pa : Nat) (H : AHeap) (K : Value → AHeap → Prop)  {I : Nat → List Value → AHeap → Prop} {μ : Nat} : loopQ I μ (blockQ 0 (seqQ (exL Try.prog E_f1tz (cr (cr (cr (bodyC Try.f205)))) 4 4 []) (retK Try.prog Try.f205 K))) (.exit 0) (ud3 (.slice oa na pa :: ud30 [])) H =
 (K (.slice oa na pa) H) := by kernel_rfl
theorem E_f1tz_ok : ∀ g, FnOk Try.prog g (E_f1tz g) := FnOk.envOf (by
 intro x hx; cases hx)
theorem f1tz_main (p_Low_a : OA) (p_Low_n : Nat) (p_Low_e : Nat) (H : AHeap) (K : Value → AHeap → Prop) (h : T_f1tz p_Low_a p_Low_n p_Low_e H fun (ib : OA) (kb : Nat) (jb : Nat) (H' : AHeap) => K (.slice ib kb jb) H') : bodyL Try.prog E_f1tz Try.f205 [.agg #[.slice p_Low_a p_Low_n p_Low_e]] H K := by
 rw [f1tz_vc]
 obtain ⟨ba, i_p_Low, bd_98, hk⟩ := h
 obtain rfl := i_p_Low.eqn
 have e : (p_f1tz ba) = _ := rfl
 have e := e.trans (p_f1tz_eq ba)
 have g0 := Grow.refl H
 refine Al.intro (fun b_1 H_1 hb_2 hl_3 g_4 o_5 => ?_)
 have l7 := g_4.1
 have g8 := g0.trans g_4
 have l9 := g8.1
 have w97 := o_5.lt
 refine Al.intro (fun b_10 H_2 hb_11 hl_12 g13 o14 => ?_)
 have o14 : Own H_2 b_10 ((([] : LN)).map fF) := o14
 have l16 := g13.1
 have g17 := g8.trans g13
 have l18 := g17.1
 have o19 := o_5.grow g13
 have w20 := o19.lt
 have w96 := o14.lt
 refine ⟨p_Low_a, ba.length, p_Low_e, (o19.rdC _).trans rfl, ?_⟩
 refine f1tz_L1 _ _ (fun (μ : Nat) (oa : OA) (na : Nat) (pa : Nat) (t10 : Int) (H_3 : AHeap) => ∃ (lb : LN), ∃ (b21 : Nat), oa = some ⟨b21, 0, none⟩ ∧ na = lb.length ∧ pa = 1 ∧ Own H_3 b21 (lb.map fF) ∧ Own H_3 b_1 ([.slice p_Low_a ba.length p_Low_e]) ∧ (b21 ≠ b_1) ∧ Grow H H_3 ∧ H.length ≤ b21 ∧ (0 : Int) ≤ t10 ∧ t10 ≤ (ba.length : Int) ∧ (lb.length : Int) ≤ t10 - (0 : Int) + 0 ∧ (ba.length : Int) - t10 ≤ (μ : Int) ∧ p_f1tz ba = p_f1tz_l1 ba (μ + 1) lb t10) (Int.toNat ((ba.length : Int) - (0 : Int))) _ _ _ _ H_2 ?_ ?_
 ·exact ⟨_, _, rfl, ω10, rfl, o14, o19, ω2, g17, ω2, ω7, ω7, ω7, ω2, e⟩
 ·intro μ oa na pa t10  H_3 hI
  obtain ⟨lb, b21, rfl, rfl, rfl, o22, o23, n24, g25, l26, v27, v28, v29, hμ, e⟩ := hI
  rw [f1tz_r1]
  have e := e.trans (p_f1tz_l1_s ba μ lb t10)
  have w30 := o23.lt
  have w31 := o22.lt
  have l_32 := g25.1
  refine Br.intro (fun c33 => ?_) (fun c33 => ?_)
  ·have e := e.trans (cond_t c33)
   have c_33' := of_decide_eq_true c33
   refine ⟨p_Low_a, ba.length, p_Low_e, (o23.rdC _).trans rfl, ?_⟩
   refine ⟨p_Low_a, ba.length, p_Low_e, (o23.rdC _).trans rfl, ?_⟩
   rw [show IntKind.wrap .i64 ((ba.length : Int) - 1) = ((ba.length : Int) - 1) from wrap64 ω2 ω2]
   rw [show IntKind.wrap .i64 ((((ba.length : Int) - 1)) - t10) = ((((ba.length : Int) - 1)) - t10) from wrap64 ω2 ω2]
   obtain ⟨b34, f35, q36⟩ := ((i_p_Low.grow g25)).pos ω0
   refine ⟨by omega, by omega, b34, f35, q36, ?_⟩
   refine ⟨((ba).getD (((((ba.length : Int) - 1)) - t10) : Int).toNat 0), (i_p_Low).rd g25 q36 ω2 _, ?_⟩
   refine ⟨ω25, ?_⟩
   have z37 := tmod_rng t10 2
   have z38 := tmod_nn t10 2
   refine Br.intro (fun c39 => ?_) (fun c39 => ?_)
   ·have e := e.trans (cond_t c39)
    have c_39' := ieq_t c39
    refine Al.intro (fun b40 H_4 hb_41 hl_42 g43 o44 => ?_)
    have o44 : Own H_4 b40 (([(fneg .f32 (((ba).getD (((((ba.length : Int) - 1)) - t10) : Int).toNat 0)))]).map fF) := o44
    have l46 := g43.1
    have g47 := g25.trans g43
    have l48 := g47.1
    have o49 := o23.grow g43
    have w50 := o49.lt
    have o51 := o22.grow g43
    have w52 := o51.lt
    have w67 := o44.lt
    refine ⟨_, _, o51.ownB ω5 rfl, (isl_rdS (o44.isL ω10)), (fun h => by cases h), ω24, ?_⟩
    refine Ap.app o51 rfl rfl (fun b57 H_5 q65 hl_53 o54 k55 => ?_)
    have o54 := map_snoc o54
    have l58 := k55.1
    have g59 := g47.keep (b := b21) ω2 k55
    have l60 := g59.1
    have o61 := o49.keep ω2 k55
    have w62 := o61.lt
    have o63 := o44.keep ω2 k55
    have w64 := o63.lt
    have w66 := o54.lt
    rw [show IntKind.wrap .i64 (t10 + 1) = (t10 + 1) from wrap64 ω2 ω2]
    refine f1tz_n1 (μ - 1) ω17 ⟨_, _, rfl, ω8, rfl, o54, o61, ω2, g59, ω2, ω1, ω1, ω1, ω17, ω12⟩
   ·have e := e.trans (cond_f c39)
    have c_39' := ieq_f c39
    refine Al.intro (fun b68 H_6 hb_69 hl_70 g71 o72 => ?_)
    have o72 : Own H_6 b68 (([(((ba).getD (((((ba.length : Int) - 1)) - t10) : Int).toNat 0))]).map fF) := o72
    have l74 := g71.1
    have g75 := g25.trans g71
    have l76 := g75.1
    have o77 := o23.grow g71
    have w78 := o77.lt
    have o79 := o22.grow g71
    have w80 := o79.lt
    have w95 := o72.lt
    refine ⟨_, _, o79.ownB ω5 rfl, (isl_rdS (o72.isL ω10)), (fun h => by cases h), ω24, ?_⟩
    refine Ap.app o79 rfl rfl (fun b85 H_7 q93 hl_81 o82 k83 => ?_)
    have o82 := map_snoc o82
    have l86 := k83.1
    have g87 := g75.keep (b := b21) ω2 k83
    have l88 := g87.1
    have o89 := o77.keep ω2 k83
    have w90 := o89.lt
    have o91 := o72.keep ω2 k83
    have w92 := o91.lt
    have w94 := o82.lt
    rw [show IntKind.wrap .i64 (t10 + 1) = (t10 + 1) from wrap64 ω2 ω2]
    refine f1tz_n1 (μ - 1) ω17 ⟨_, _, rfl, ω8, rfl, o82, o89, ω2, g87, ω2, ω1, ω1, ω1, ω17, ω12⟩
  ·have e := e.trans (cond_f c33)
   have c_33' := of_decide_eq_false c33
   rw [f1tz_x1_0]
   rw [e] at hk
   exact hk _ _ _ H_3 g25 (o22.ownS ω10 ω2)
theorem f1tz_ok : FnOk Try.prog 205 S_f1tz := by
 refine FnOk.body mix_ok E_f1tz_ok Try.func205 rfl ω15 ω15 ?_ ?_ ?_ ?_ ?_
 ·intro args H K K' h hk
  simp only [S_f1tz] at *
  unfold F_f1tz at *
  split at hk
  ·obtain ⟨ba, i_p_Low, bd_98, k⟩ := hk
   exact ⟨ba, i_p_Low, bd_98, (fun ib kb jb H' gg ow0 => h _ _ (k ib kb jb H' gg ow0))⟩
  ·exact hk.elim
 ·intro hq; cases hq
 ·intro args H K hk
  simp only [S_f1tz] at *
  unfold F_f1tz at *
  split at hk
  ·obtain ⟨ba, i_p_Low, bd_98, k⟩ := hk
   exact liveS fun a n e H1 g o => ⟨_, _, k a n e H1 g o⟩
  ·exact hk.elim
 ·intro _ args H K hk
  simp only [S_f1tz] at *
  unfold F_f1tz at *
  split at hk
  ·obtain ⟨ba, i_p_Low, bd_98, k⟩ := hk
   exact ⟨ba, i_p_Low, bd_98, (fun ib kb jb H' gg ow0 => ⟨gg, k ib kb jb H' gg ow0⟩)⟩
  ·exact hk.elim
 ·have mm := @f1tz_main
  have ml := fun (args : List Value) (H : AHeap) (K : Value → AHeap → Prop) => bodyL_body (P := Try.prog) (env := E_f1tz ) (fn := Try.f205) (args := args) (H := H) (K := K) E_f1tz_ok 
  revert mm ml
  generalize bodyK Try.prog E_f1tz Try.f205 = Q
  generalize bodyL Try.prog E_f1tz Try.f205 = QL
  intro mm ml args H K hk
  simp only [S_f1tz] at *
  unfold F_f1tz at *
  split at hk
  ·exact ml _ H K (mm _ _ _ H K hk)
  ·exact hk.elim

def p_ftz_l2 (aa : LN) (ba : LN) (gf : LN) (jf : LN) (t38 : Int) (k2_2 : Nat → Nat → Int → LN → LN → (LN × LN × Bool)) : Nat → Nat → Nat → Int → LN → LN → LN × LN × Bool
 | 0, _, _, _, _, _ => ([], [], false)
 | μ2 + 1, a, b, t44, y2_1, y2_2 => (bif decide ((t44 : Int) < (ba.length : Int)) then (p_ftz_l2 aa ba gf jf t38 k2_2 μ2 (fadd .f32 a (fmul .f32 (((ba).getD (t44 : Int).toNat 0)) (((aa).getD (Int.tmod (((2 * t38) + t44)) (aa.length : Int) : Int).toNat 0)))) (fadd .f32 b (fmul .f32 ((((p_f1tz ba)).getD (t44 : Int).toNat 0)) (((aa).getD (Int.tmod (((2 * t38) + t44)) (aa.length : Int) : Int).toNat 0)))) (t44 + 1) y2_1 y2_2) else (k2_2 a b t44 y2_1 y2_2))
def p_ftz_l2_s := fun aa ba gf jf t38 k2_2 μ2 a b t44 y2_1 y2_2 => @p_ftz_l2.eq_2 aa ba gf jf t38 k2_2 a b t44 y2_1 y2_2 μ2
def p_ftz_l1 (aa : LN) (ba : LN) : Nat → LN → LN → Int → LN × LN × Bool
 | 0, _, _, _ => ([], [], false)
 | μ + 1, gf, jf, t38 => (bif decide ((t38 : Int) < (Int.tdiv (aa.length : Int) 2)) then (p_ftz_l2 aa ba gf jf t38 (fun (a : Nat) (b : Nat) (t44 : Int) (y2_1 : LN) (y2_2 : LN) => (p_ftz_l1 aa ba μ (y2_1 ++ [a]) (y2_2 ++ [b]) (t38 + 1))) (Int.toNat ((ba.length : Int) - (0 : Int)) + 1) 0 0 (0 : Int) gf jf) else (bif !((p_fvz ([gf, jf]))) then ([], [], false) else (gf, jf, true)))
def p_ftz_l1_s := fun aa ba μ gf jf t38 => @p_ftz_l1.eq_2 aa ba gf jf t38 μ
def p_ftz (aa : LN) (ba : LN) : LN × LN × Bool := ((bif !(p_f1uz aa) then ([], [], false) else (bif (Int.tmod (aa.length : Int) 2 : Int) == 1 then ([], [], false) else (bif !(p_fuz ba) then ([], [], false) else (p_ftz_l1 aa ba (Int.toNat ((Int.tdiv (aa.length : Int) 2) - (0 : Int)) + 1) ([] : LN) ([] : LN) (0 : Int))))))
def p_ftz_eq := @p_ftz.eq_1
def T_ftz (ea : OA) (da : Nat) (ga : Nat) (p_Low_a : OA) (p_Low_n : Nat) (p_Low_e : Nat) (H : AHeap) (K : OA → Nat → Nat → OA → Nat → Nat → Bool → AHeap → Prop) : Prop := ∃ (aa : LN), ∃ (ba : LN), IsL fF H ea da aa ∧ IsL fF H p_Low_a p_Low_n ba ∧ aa.length < 1073741824 ∧ ba.length < 1073741824 ∧ ((∀ (ib : OA) (kb jb : Nat), ∀ (pf : OA) (xf vf : Nat), ∀ H' : AHeap, Grow H H' → OwnS fF H' H.length ib kb jb ((p_ftz aa ba).1) → OwnS fF H' H.length pf xf vf ((p_ftz aa ba).2.1) → SepA ib pf → K ib kb jb pf xf vf ((p_ftz aa ba).2.2) H'))
theorem T_ftz_i {ea : OA} {da : Nat} {ga : Nat} {p_Low_a : OA} {p_Low_n : Nat} {p_Low_e : Nat} {H : AHeap} {K : OA → Nat → Nat → OA → Nat → Nat → Bool → AHeap → Prop} (h : ∃ (aa : LN), ∃ (ba : LN), IsL fF H ea da aa ∧ IsL fF H p_Low_a p_Low_n ba ∧ aa.length < 1073741824 ∧ ba.length < 1073741824 ∧ ((∀ (ib : OA) (kb jb : Nat), ∀ (pf : OA) (xf vf : Nat), ∀ H' : AHeap, Grow H H' → OwnS fF H' H.length ib kb jb ((p_ftz aa ba).1) → OwnS fF H' H.length pf xf vf ((p_ftz aa ba).2.1) → SepA ib pf → K ib kb jb pf xf vf ((p_ftz aa ba).2.2) H'))) : T_ftz ea da ga p_Low_a p_Low_n p_Low_e H K := h
theorem ftz_l2_P (P : LN × LN × Bool → Prop) (h0 : P ([], [], false)) (l t o o2 : LN) (j : Int) (K : Nat → Nat → Int → LN → LN → LN × LN × Bool) : ∀ (μ a b : Nat) (i : Int) (y y2 : LN), (∀ a b i, P (K a b i y y2)) → P (p_ftz_l2 l t o o2 j K μ a b i y y2) := by
 intro μ
 induction μ with
 | zero => intro a b i y y2 hK; exact h0
 | succ μ ih =>
  intro a b i y y2 hK
  rw [p_ftz_l2_s]
  exact cnb (P := P) (fun _ => ih _ _ _ _ _ hK) (fun _ => hK _ _ _)
theorem ftz_len (l t : LN) : (p_ftz l t).1.length ≤ l.length ∧ (p_ftz l t).2.1.length ≤ l.length := by
 have z : ([] : LN).length ≤ l.length := Nat.zero_le _
 have go : l.length ≤ 128 → ∀ (μ : Nat) (o o2 : LN) (j : Int), 0 ≤ j → (o.length : Int) ≤ j → (o2.length : Int) ≤ j → o.length ≤ l.length → o2.length ≤ l.length → (p_ftz_l1 l t μ o o2 j).1.length ≤ l.length ∧ (p_ftz_l1 l t μ o o2 j).2.1.length ≤ l.length := by
  intro hl μ
  induction μ with
  | zero => intro o o2 j h0 h1 h2 h3 h4; exact ⟨z, z⟩
  | succ μ ih =>
   intro o o2 j h0 h1 h2 h3 h4
   rw [p_ftz_l1_s]
   refine cnb (P := fun r : LN × LN × Bool => r.1.length ≤ l.length ∧ r.2.1.length ≤ l.length) (fun hc => ?_) (fun _ => cnb (P := fun r : LN × LN × Bool => r.1.length ≤ l.length ∧ r.2.1.length ≤ l.length) (fun _ => ⟨z, z⟩) (fun _ => ⟨h3, h4⟩))
   have hc := of_decide_eq_true hc
   have ht : Int.tdiv (l.length : Int) 2 = (l.length : Int) / 2 := Int.tdiv_eq_ediv_of_nonneg ω2
   first | rw [ht, wrap64 ω2 ω2] at hc | rw [ht] at hc
   refine ftz_l2_P (fun r => r.1.length ≤ l.length ∧ r.2.1.length ≤ l.length) ⟨z, z⟩ _ _ _ _ _ _ _ _ _ _ _ _ (fun a b i => ?_)
   have e1 : (o ++ [a]).length = o.length + 1 := by simp
   have e2 : (o2 ++ [b]).length = o2.length + 1 := by simp
   exact ih _ _ _ ω2 ω2 ω2 ω2 ω2
 rw [p_ftz_eq]
 refine cnb (P := fun r : LN × LN × Bool => r.1.length ≤ l.length ∧ r.2.1.length ≤ l.length) (fun _ => ⟨z, z⟩) (fun hc => ?_)
 have hw := f1uz_t (nt_of_f hc)
 refine cnb (P := fun r : LN × LN × Bool => r.1.length ≤ l.length ∧ r.2.1.length ≤ l.length) (fun _ => ⟨z, z⟩) (fun _ => ?_)
 refine cnb (P := fun r : LN × LN × Bool => r.1.length ≤ l.length ∧ r.2.1.length ≤ l.length) (fun _ => ⟨z, z⟩) (fun _ => ?_)
 exact go ω2 _ _ _ _ ω32 (by simp) (by simp) (by simp) (by simp)
/-! ftz: function 179 -/
def E_ftz : Env := envOf [(105, S_f1uz), (178, S_fuz), (205, S_f1tz), (166, S_fvz)]
def F_ftz : List Value → AHeap → (Value → AHeap → Prop) → Prop
 | [.slice ea da ga, .agg ⟨[.slice p_Low_a p_Low_n p_Low_e]⟩], H, K => T_ftz ea da ga p_Low_a p_Low_n p_Low_e H fun (ib : OA) (kb : Nat) (jb : Nat) (pf : OA) (xf : Nat) (vf : Nat) (r3 : Bool) (H' : AHeap) => K (.tuple #[.slice ib kb jb, .slice pf xf vf, .bool r3]) H'
 | _, _, _ => False
def S_ftz : FSpec := { F := F_ftz, quiet := false, tame := true }
theorem ftz_vc (ea : OA) (da : Nat) (ga : Nat) (p_Low_a : OA) (p_Low_n : Nat) (p_Low_e : Nat) (H : AHeap) (K : Value → AHeap → Prop) : bodyL Try.prog E_ftz Try.f179 [.slice ea da ga, .agg #[.slice p_Low_a p_Low_n p_Low_e]] H K =
 (Al [.slice p_Low_a p_Low_n p_Low_e] H fun b1 H1 => T_f1uz ea da ga H1 fun (r1 : Bool) (H2 : AHeap) => Br (!r1) (K (.tuple #[.slice none 0 0, .slice none 0 0, .bool false]) H2) (2 ≠ (0 : Int) ∧ Br ((Int.tmod (da : Int) 2 : Int) == 1) (K (.tuple #[.slice none 0 0, .slice none 0 0, .bool false]) H2) (∃ xe : OA, ∃ ze : Nat, ∃ ye : Nat,  rdN H2 b1 0 1 = some [.slice xe ze ye] ∧ T_fuz xe ze ye H2 fun (r2 : Bool) (H3 : AHeap) => Br (!r2) (K (.tuple #[.slice none 0 0, .slice none 0 0, .bool false]) H3) (∃ af : OA, ∃ cf : Nat, ∃ bf : Nat,  rdN H3 b1 0 1 = some [.slice af cf bf] ∧ T_f1tz af cf bf H3 fun (a1 : OA) (r3 : Nat) (r4 : Nat) (H4 : AHeap) => Al [] H4 fun b2 H5 => Al [] H5 fun b3 H6 => 2 ≠ (0 : Int) ∧ loopK (exL Try.prog E_ftz (cl (cl (cr (cl (cr (cr (cr (cr (cr (bodyC Try.f179)))))))))) 412316862345 112 [(0, 1536)]) (.slice ea da ga :: ud2 (.pointer (some ⟨b1, 0, none⟩) :: ud3 (.int .i64 (da : Int) :: .slice a1 r3 r4 :: .slice (some ⟨b2, 0, none⟩) 0 1 :: .slice (some ⟨b3, 0, none⟩) 0 1 :: ud26 (.int .i64 (IntKind.wrap .i64 (Int.tdiv (da : Int) 2)) :: .int .i64 0 :: ud49 [])))) H6 (blockQ 0 (seqQ (exL Try.prog E_ftz (cr (cr (cr (cr (cr (cr (bodyC Try.f179))))))) 112 112 []) (retK Try.prog Try.f179 K))))))) := by kernel_rfl
abbrev ftz_P1 (a1 : OA) (b1 : Nat) (ea : OA) (ga : Nat) (da : Nat) (r3 : Nat) (r4 : Nat) (z1_37 : Int) (nd : OA) (od : Nat) (td : Nat) (pd : OA) (sd : Nat) (vd : Nat) (t38 : Int)  : List Value := (.slice ea da ga :: ud2 (.pointer (some ⟨b1, 0, none⟩) :: ud3 (.int .i64 (da : Int) :: .slice a1 r3 r4 :: .slice nd od td :: .slice pd sd vd :: ud26 (.int .i64 z1_37 :: .int .i64 t38 :: ud49 []))))
theorem ftz_r1 (a1 : OA) (b1 : Nat) (ea : OA) (ga : Nat) (da : Nat) (r3 : Nat) (r4 : Nat) (z1_37 : Int) (nd : OA) (od : Nat) (td : Nat) (pd : OA) (sd : Nat) (vd : Nat) (t38 : Int)  (H : AHeap) (R : Post) : exL Try.prog E_ftz (cl (cl (cr (cl (cr (cr (cr (cr (cr (bodyC Try.f179)))))))))) 412316862345 112 [(0, 1536)] (ftz_P1 a1 b1 ea ga da r3 r4 z1_37 nd od td pd sd vd t38) H R =
 (Br (decide ((t38 : Int) < z1_37)) (∃ sc : OA, ∃ bb : Nat, ∃ tc : Nat,  rdC H b1 0 = some (.slice sc bb tc) ∧ loopK (exL Try.prog E_ftz (cl (cl (cr (cl (cr (cr (cl (cl (cr (cr (cl (cl (cr (cl (cr (cr (cr (cr (cr (bodyC Try.f179)))))))))))))))))))) 31198642454409 112 [(2, 412316874633), (1, 412316862345), (0, 1536)]) (.slice ea da ga :: ud2 (.pointer (some ⟨b1, 0, none⟩) :: ud3 (.int .i64 (da : Int) :: .slice a1 r3 r4 :: .slice nd od td :: .slice pd sd vd :: .int .i64 t38 :: .float .f32 0 :: .float .f32 0 :: ud23 (.int .i64 z1_37 :: .int .i64 t38 :: ud3 (.slice sc bb tc :: .int .i64 (bb : Int) :: .int .i64 0 :: ud43 []))))) H (blockQ 2 (seqQ (exL Try.prog E_ftz (cr (cr (cr (cl (cl (cr (cr (cl (cl (cr (cl (cr (cr (cr (cr (cr (bodyC Try.f179))))))))))))))))) 412316862345 112 [(1, 412316862345), (0, 1536)]) (blockQ 1 (seqQ (exL Try.prog E_ftz (cr (cr (cr (cl (cl (cr (cl (cr (cr (cr (cr (cr (bodyC Try.f179))))))))))))) 412316862345 112 [(0, 1536)]) (R)))))) (R (.exit 0) (ud9 (.slice nd od td :: .slice pd sd vd :: ud77 [])) H)) := by kernel_rfl
def ftz_I1 (a1 : OA) (b1 : Nat) (ea : OA) (ga : Nat) (da : Nat) (r3 : Nat) (r4 : Nat) (z1_37 : Int) (Inv : Nat → OA → Nat → Nat → OA → Nat → Nat → Int → AHeap → Prop) : Nat → List Value → AHeap → Prop := fun μ tm H => ∃ (nd : OA), ∃ (od : Nat), ∃ (td : Nat), ∃ (pd : OA), ∃ (sd : Nat), ∃ (vd : Nat), ∃ (t38 : Int), tm = (ftz_P1 a1 b1 ea ga da r3 r4 z1_37 nd od td pd sd vd t38) ∧ Inv μ nd od td pd sd vd t38 H
theorem ftz_L1 (a1 : OA) (b1 : Nat) (ea : OA) (ga : Nat) (da : Nat) (r3 : Nat) (r4 : Nat) (z1_37 : Int) {Q : Post} (Inv : Nat → OA → Nat → Nat → OA → Nat → Nat → Int → AHeap → Prop) (ν : Nat) (nd : OA) (od : Nat) (td : Nat) (pd : OA) (sd : Nat) (vd : Nat) (t38 : Int)  (H : AHeap) (h0 : Inv ν nd od td pd sd vd t38 H)
  (hs : ∀ (μ : Nat) (nd : OA) (od : Nat) (td : Nat) (pd : OA) (sd : Nat) (vd : Nat) (t38 : Int)  (H : AHeap), Inv μ nd od td pd sd vd t38 H → exL Try.prog E_ftz (cl (cl (cr (cl (cr (cr (cr (cr (cr (bodyC Try.f179)))))))))) 412316862345 112 [(0, 1536)] (ftz_P1 a1 b1 ea ga da r3 r4 z1_37 nd od td pd sd vd t38) H (loopQ (ftz_I1 a1 b1 ea ga da r3 r4 z1_37 Inv) μ Q)) : loopK (exL Try.prog E_ftz (cl (cl (cr (cl (cr (cr (cr (cr (cr (bodyC Try.f179)))))))))) 412316862345 112 [(0, 1536)]) (ftz_P1 a1 b1 ea ga da r3 r4 z1_37 nd od td pd sd vd t38) H Q :=
 ⟨ftz_I1 a1 b1 ea ga da r3 r4 z1_37 Inv, ν, ⟨nd, od, td, pd, sd, vd, t38, rfl, h0⟩, fun μ tm H h => by obtain ⟨nd, od, td, pd, sd, vd, t38, rfl, hI⟩ := h; exact hs μ nd od td pd sd vd t38  H hI⟩
theorem ftz_n1 {a1 : OA} {b1 : Nat} {ea : OA} {ga : Nat} {da : Nat} {r3 : Nat} {r4 : Nat} {z1_37 : Int} {Q : Post} {Inv : Nat → OA → Nat → Nat → OA → Nat → Nat → Int → AHeap → Prop} {μ : Nat} (μ' : Nat) {nd : OA} {od : Nat} {td : Nat} {pd : OA} {sd : Nat} {vd : Nat} {t38 : Int}  {H : AHeap} (hm : μ' < μ) (hI : Inv μ' nd od td pd sd vd t38 H) : loopQ (ftz_I1 a1 b1 ea ga da r3 r4 z1_37 Inv) μ Q .normal (ftz_P1 a1 b1 ea ga da r3 r4 z1_37 nd od td pd sd vd t38) H := ⟨μ', hm, nd, od, td, pd, sd, vd, t38, rfl, hI⟩
theorem ftz_x1_0 (nd : OA) (od : Nat) (td : Nat) (pd : OA) (sd : Nat) (vd : Nat) (H : AHeap) (K : Value → AHeap → Prop)  {I : Nat → List Value → AHeap → Prop} {μ : Nat} : loopQ I μ (blockQ 0 (seqQ (exL Try.prog E_ftz (cr (cr (cr (cr (cr (cr (bodyC Try.f179))))))) 112 112 []) (retK Try.prog Try.f179 K))) (.exit 0) (ud9 (.slice nd od td :: .slice pd sd vd :: ud77 [])) H =
 (Al [.slice nd od td, .slice pd sd vd] H fun b11 H11 => T_fvz (some ⟨b11, 0, none⟩) 2 1 H11 fun (r5 : Bool) (H12 : AHeap) => Br (!r5) (K (.tuple #[.slice none 0 0, .slice none 0 0, .bool false]) H12) (K (.tuple #[.slice nd od td, .slice pd sd vd, .bool true]) H12)) := by kernel_rfl
abbrev ftz_P2 (a1 : OA) (b1 : Nat) (ea : OA) (ga : Nat) (da : Nat) (nd : OA) (td : Nat) (od : Nat) (r3 : Nat) (r4 : Nat) (t38 : Int) (pd : OA) (vd : Nat) (sd : Nat) (sc : OA) (tc : Nat) (bb : Nat) (z1_37 : Int) (a : Nat) (b : Nat) (t44 : Int)  : List Value := (.slice ea da ga :: ud2 (.pointer (some ⟨b1, 0, none⟩) :: ud3 (.int .i64 (da : Int) :: .slice a1 r3 r4 :: .slice nd od td :: .slice pd sd vd :: .int .i64 t38 :: .float .f32 a :: .float .f32 b :: ud23 (.int .i64 z1_37 :: .int .i64 t38 :: ud3 (.slice sc bb tc :: .int .i64 (bb : Int) :: .int .i64 t44 :: ud43 [])))))
theorem ftz_r2 (a1 : OA) (b1 : Nat) (ea : OA) (ga : Nat) (da : Nat) (nd : OA) (td : Nat) (od : Nat) (r3 : Nat) (r4 : Nat) (t38 : Int) (pd : OA) (vd : Nat) (sd : Nat) (sc : OA) (tc : Nat) (bb : Nat) (z1_37 : Int) (a : Nat) (b : Nat) (t44 : Int)  (H : AHeap) (R : Post) : exL Try.prog E_ftz (cl (cl (cr (cl (cr (cr (cl (cl (cr (cr (cl (cl (cr (cl (cr (cr (cr (cr (cr (bodyC Try.f179)))))))))))))))))))) 31198642454409 112 [(2, 412316874633), (1, 412316862345), (0, 1536)] (ftz_P2 a1 b1 ea ga da nd td od r3 r4 t38 pd vd sd sc tc bb z1_37 a b t44) H R =
 (Br (decide ((t44 : Int) < (bb : Int))) ((0 : Int) ≤ t44 ∧ t44 < (bb : Int) ∧ ∃ b4 f1, (sc : OA) = some ⟨b4, f1, none⟩ ∧ ∃ x2 : Nat,  rdC H b4 (f1 + (t44 : Int).toNat * 1) = some (.float .f32 x2) ∧ (da : Int) ≠ (0 : Int) ∧ (0 : Int) ≤ Int.tmod (IntKind.wrap .i64 ((IntKind.wrap .i64 (2 * t38)) + t44)) (da : Int) ∧ Int.tmod (IntKind.wrap .i64 ((IntKind.wrap .i64 (2 * t38)) + t44)) (da : Int) < (da : Int) ∧ ∃ b5 f2, (ea : OA) = some ⟨b5, f2, none⟩ ∧ ∃ x3 : Nat,  rdC H b5 (f2 + (Int.tmod (IntKind.wrap .i64 ((IntKind.wrap .i64 (2 * t38)) + t44)) (da : Int) : Int).toNat * 1) = some (.float .f32 x3) ∧ (0 : Int) ≤ t44 ∧ t44 < (r3 : Int) ∧ ∃ b6 f3, (a1 : OA) = some ⟨b6, f3, none⟩ ∧ ∃ x4 : Nat,  rdC H b6 (f3 + (t44 : Int).toNat * 1) = some (.float .f32 x4) ∧ R .normal (.slice ea da ga :: ud2 (.pointer (some ⟨b1, 0, none⟩) :: ud3 (.int .i64 (da : Int) :: .slice a1 r3 r4 :: .slice nd od td :: .slice pd sd vd :: .int .i64 t38 :: .float .f32 (fadd .f32 a (fmul .f32 x2 x3)) :: .float .f32 (fadd .f32 b (fmul .f32 x4 x3)) :: ud23 (.int .i64 z1_37 :: .int .i64 t38 :: ud3 (.slice sc bb tc :: .int .i64 (bb : Int) :: .int .i64 (IntKind.wrap .i64 (t44 + 1)) :: ud43 []))))) H) (R (.exit 2) (.slice ea da ga :: ud2 (.pointer (some ⟨b1, 0, none⟩) :: ud3 (.int .i64 (da : Int) :: .slice a1 r3 r4 :: .slice nd od td :: .slice pd sd vd :: ud :: .float .f32 a :: .float .f32 b :: ud23 (.int .i64 z1_37 :: .int .i64 t38 :: ud49 [])))) H)) := by kernel_rfl
def ftz_I2 (a1 : OA) (b1 : Nat) (ea : OA) (ga : Nat) (da : Nat) (nd : OA) (td : Nat) (od : Nat) (r3 : Nat) (r4 : Nat) (t38 : Int) (pd : OA) (vd : Nat) (sd : Nat) (sc : OA) (tc : Nat) (bb : Nat) (z1_37 : Int) (Inv : Nat → Nat → Nat → Int → AHeap → Prop) : Nat → List Value → AHeap → Prop := fun μ tm H => ∃ (a : Nat), ∃ (b : Nat), ∃ (t44 : Int), tm = (ftz_P2 a1 b1 ea ga da nd td od r3 r4 t38 pd vd sd sc tc bb z1_37 a b t44) ∧ Inv μ a b t44 H
theorem ftz_L2 (a1 : OA) (b1 : Nat) (ea : OA) (ga : Nat) (da : Nat) (nd : OA) (td : Nat) (od : Nat) (r3 : Nat) (r4 : Nat) (t38 : Int) (pd : OA) (vd : Nat) (sd : Nat) (sc : OA) (tc : Nat) (bb : Nat) (z1_37 : Int) {Q : Post} (Inv : Nat → Nat → Nat → Int → AHeap → Prop) (ν : Nat) (a : Nat) (b : Nat) (t44 : Int)  (H : AHeap) (h0 : Inv ν a b t44 H)
  (hs : ∀ (μ : Nat) (a : Nat) (b : Nat) (t44 : Int)  (H : AHeap), Inv μ a b t44 H → exL Try.prog E_ftz (cl (cl (cr (cl (cr (cr (cl (cl (cr (cr (cl (cl (cr (cl (cr (cr (cr (cr (cr (bodyC Try.f179)))))))))))))))))))) 31198642454409 112 [(2, 412316874633), (1, 412316862345), (0, 1536)] (ftz_P2 a1 b1 ea ga da nd td od r3 r4 t38 pd vd sd sc tc bb z1_37 a b t44) H (loopQ (ftz_I2 a1 b1 ea ga da nd td od r3 r4 t38 pd vd sd sc tc bb z1_37 Inv) μ Q)) : loopK (exL Try.prog E_ftz (cl (cl (cr (cl (cr (cr (cl (cl (cr (cr (cl (cl (cr (cl (cr (cr (cr (cr (cr (bodyC Try.f179)))))))))))))))))))) 31198642454409 112 [(2, 412316874633), (1, 412316862345), (0, 1536)]) (ftz_P2 a1 b1 ea ga da nd td od r3 r4 t38 pd vd sd sc tc bb z1_37 a b t44) H Q :=
 ⟨ftz_I2 a1 b1 ea ga da nd td od r3 r4 t38 pd vd sd sc tc bb z1_37 Inv, ν, ⟨a, b, t44, rfl, h0⟩, fun μ tm H h => by obtain ⟨a, b, t44, rfl, hI⟩ := h; exact hs μ a b t44  H hI⟩
theorem ftz_n2 {a1 : OA} {b1 : Nat} {ea : OA} {ga : Nat} {da : Nat} {nd : OA} {td : Nat} {od : Nat} {r3 : Nat} {r4 : Nat} {t38 : Int} {pd : OA} {vd : Nat} {sd : Nat} {sc : OA} {tc : Nat} {bb : Nat} {z1_37 : Int} {Q : Post} {Inv : Nat → Nat → Nat → Int → AHeap → Prop} {μ : Nat} (μ' : Nat) {a : Nat} {b : Nat} {t44 : Int}  {H : AHeap} (hm : μ' < μ) (hI : Inv μ' a b t44 H) : loopQ (ftz_I2 a1 b1 ea ga da nd td od r3 r4 t38 pd vd sd sc tc bb z1_37 Inv) μ Q .normal (ftz_P2 a1 b1 ea ga da nd td od r3 r4 t38 pd vd sd sc tc bb z1_37 a b t44) H := ⟨μ', hm, a, b, t44, rfl, hI⟩
theorem ftz_x2_2 (a1 : OA) (b1 : Nat) (ea : OA) (ga : Nat) (da : Nat) (nd : OA) (td : Nat) (od : Nat) (r3 : Nat) (r4 : Nat) (t38 : Int) (pd : OA) (vd : Nat) (sd : Nat) (z1_37 : Int) (a : Nat) (b : Nat) (H : AHeap)  (R : Post) {I : Nat → List Value → AHeap → Prop} {μ : Nat} : loopQ I μ (blockQ 2 (seqQ (exL Try.prog E_ftz (cr (cr (cr (cl (cl (cr (cr (cl (cl (cr (cl (cr (cr (cr (cr (cr (bodyC Try.f179))))))))))))))))) 412316862345 112 [(1, 412316862345), (0, 1536)]) (blockQ 1 (seqQ (exL Try.prog E_ftz (cr (cr (cr (cl (cl (cr (cl (cr (cr (cr (cr (cr (bodyC Try.f179))))))))))))) 412316862345 112 [(0, 1536)]) (R))))) (.exit 2) (.slice ea da ga :: ud2 (.pointer (some ⟨b1, 0, none⟩) :: ud3 (.int .i64 (da : Int) :: .slice a1 r3 r4 :: .slice nd od td :: .slice pd sd vd :: ud :: .float .f32 a :: .float .f32 b :: ud23 (.int .i64 z1_37 :: .int .i64 t38 :: ud49 [])))) H =
 (Al [.float .f32 a] H fun b7 H7 => ∃ o1 w1 : List Value, ownB H7 nd od td 1 = some o1 ∧ rdS H7 (some ⟨b7, 0, none⟩) (1 * 1) = some w1 ∧ ((nd : OA) = none → 0 < (1 : Nat)) ∧ (od : Nat) + 1 < most ∧ Ap H7 (killB H7 nd ++ [some ⟨o1 ++ w1, true⟩]) fun b8 H8 => Al [.float .f32 b] H8 fun b9 H9 => ∃ o2 w2 : List Value, ownB H9 pd sd vd 1 = some o2 ∧ rdS H9 (some ⟨b9, 0, none⟩) (1 * 1) = some w2 ∧ ((pd : OA) = none → 0 < (1 : Nat)) ∧ (sd : Nat) + 1 < most ∧ Ap H9 (killB H9 pd ++ [some ⟨o2 ++ w2, true⟩]) fun b10 H10 => R .normal (.slice ea da ga :: ud2 (.pointer (some ⟨b1, 0, none⟩) :: ud3 (.int .i64 (da : Int) :: .slice a1 r3 r4 :: .slice (some ⟨b8, 0, none⟩) (od + 1) 1 :: .slice (some ⟨b10, 0, none⟩) (sd + 1) 1 :: ud26 (.int .i64 z1_37 :: .int .i64 (IntKind.wrap .i64 (t38 + 1)) :: ud49 [])))) H10) := by kernel_rfl
theorem E_ftz_ok : ∀ g, FnOk Try.prog g (E_ftz g) := FnOk.envOf (by
 intro x hx
 simp only [List.mem_cons, List.not_mem_nil, or_false] at hx
 rcases hx with rfl | rfl | rfl | rfl
 ·exact f1uz_ok
 ·exact fuz_ok
 ·exact f1tz_ok
 ·exact fvz_ok)
theorem ftz_main (ea : OA) (da : Nat) (ga : Nat) (p_Low_a : OA) (p_Low_n : Nat) (p_Low_e : Nat) (H : AHeap) (K : Value → AHeap → Prop) (h : T_ftz ea da ga p_Low_a p_Low_n p_Low_e H fun (ib : OA) (kb : Nat) (jb : Nat) (pf : OA) (xf : Nat) (vf : Nat) (r3 : Bool) (H' : AHeap) => K (.tuple #[.slice ib kb jb, .slice pf xf vf, .bool r3]) H') : bodyL Try.prog E_ftz Try.f179 [.slice ea da ga, .agg #[.slice p_Low_a p_Low_n p_Low_e]] H K := by
 rw [ftz_vc]
 obtain ⟨aa, ba, i_list, i_p_Low, bd_214, bd_215, hk⟩ := h
 obtain rfl := i_list.eqn
 obtain rfl := i_p_Low.eqn
 have e : (p_ftz aa ba) = _ := rfl
 have e := e.trans (p_ftz_eq aa ba)
 have g0 := Grow.refl H
 refine Al.intro (fun b_1 H_1 hb_2 hl_3 g_4 o_5 => ?_)
 have l7 := g_4.1
 have g8 := g0.trans g_4
 have l9 := g8.1
 have w213 := o_5.lt
 refine T_f1uz_i ⟨_, (i_list.grow g8), ω0, fun  H_2 g10  => ?_⟩
 have l11 := g10.1
 have g12 := g8.trans g10
 have l13 := g12.1
 have o14 := o_5.grow g10
 have w15 := o14.lt
 refine Br.intro (fun c16 => ?_) (fun c16 => ?_)
 ·have e := e.trans (cond_t c16)
  have c_16n := nf_of_t c16
  rw [e] at hk
  exact hk _ _ _ _ _ _ H_2 g12 ω9 ω9 (fun x y hx hy => by cases hx)
 ·have e := e.trans (cond_f c16)
  have c_16n := nt_of_f c16
  have c_16n' := f1uz_t c_16n
  refine ⟨ω25, ?_⟩
  have z17 := tmod_rng (aa.length : Int) 2
  have z18 := tmod_nn (aa.length : Int) 2
  refine Br.intro (fun c19 => ?_) (fun c19 => ?_)
  ·have e := e.trans (cond_t c19)
   have c_19' := ieq_t c19
   rw [e] at hk
   exact hk _ _ _ _ _ _ H_2 g12 ω9 ω9 (fun x y hx hy => by cases hx)
  ·have e := e.trans (cond_f c19)
   have c_19' := ieq_f c19
   refine ⟨p_Low_a, ba.length, p_Low_e, (o14.rdN (Nat.le_of_ble_eq_true rfl)).trans rfl, ?_⟩
   refine T_fuz_i ⟨_, (i_p_Low.grow g12), ω0, fun  H_3 g20  => ?_⟩
   have l21 := g20.1
   have g22 := g12.trans g20
   have l23 := g22.1
   have o24 := o14.grow g20
   have w25 := o24.lt
   refine Br.intro (fun c26 => ?_) (fun c26 => ?_)
   ·have e := e.trans (cond_t c26)
    have c_26n := nf_of_t c26
    rw [e] at hk
    exact hk _ _ _ _ _ _ H_3 g22 ω9 ω9 (fun x y hx hy => by cases hx)
   ·have e := e.trans (cond_f c26)
    have c_26n := nt_of_f c26
    have c_26n' := fuz_t c_26n
    refine ⟨p_Low_a, ba.length, p_Low_e, (o24.rdN (Nat.le_of_ble_eq_true rfl)).trans rfl, ?_⟩
    refine T_f1tz_i ⟨_, (i_p_Low.grow g22), ω0, fun a27 n28 e29 H_4 g32 r_30 => ?_⟩
    have z31 := f1tz_len ba
    have l33 := g32.1
    have g34 := g22.trans g32
    have l35 := g34.1
    have o36 := o24.grow g32
    have w37 := o36.lt
    obtain rfl := r_30.isL.eqn
    have u38 := r_30.up
    have u39 := r_30.lo
    refine Al.intro (fun b41 H_5 hb_42 hl_43 g44 o45 => ?_)
    have o45 : Own H_5 b41 ((([] : LN)).map fF) := o45
    have l47 := g44.1
    have g48 := g34.trans g44
    have l49 := g48.1
    have o50 := o36.grow g44
    have w51 := o50.lt
    have r52 := r_30.grow g44
    have w212 := o45.lt
    refine Al.intro (fun b53 H_6 hb_54 hl_55 g56 o57 => ?_)
    have o57 : Own H_6 b53 ((([] : LN)).map fF) := o57
    have l59 := g56.1
    have g60 := g48.trans g56
    have l61 := g60.1
    have o62 := o50.grow g56
    have w63 := o62.lt
    have o64 := o45.grow g56
    have w65 := o64.lt
    have r66 := r52.grow g56
    have w211 := o57.lt
    have z67 := tdiv_nn (aa.length : Int) 2
    refine ⟨ω25, ?_⟩
    rw [show IntKind.wrap .i64 (Int.tdiv (aa.length : Int) 2) = (Int.tdiv (aa.length : Int) 2) from wrap64 ω2 ω2]
    refine ftz_L1 _ _ _ _ _ _ _ _ (fun (μ : Nat) (nd : OA) (od : Nat) (td : Nat) (pd : OA) (sd : Nat) (vd : Nat) (t38 : Int) (H_7 : AHeap) => ∃ (gf : LN), ∃ (b68 : Nat), ∃ (jf : LN), ∃ (b70 : Nat), nd = some ⟨b68, 0, none⟩ ∧ od = gf.length ∧ td = 1 ∧ Own H_7 b68 (gf.map fF) ∧ pd = some ⟨b70, 0, none⟩ ∧ sd = jf.length ∧ vd = 1 ∧ Own H_7 b70 (jf.map fF) ∧ Own H_7 b_1 ([.slice p_Low_a ba.length p_Low_e]) ∧ OwnS fF H_7 H_3.length a27 (((p_f1tz ba)).length) e29 (p_f1tz ba) ∧ (b68 ≠ b_1) ∧ (b70 ≠ b_1) ∧ (b70 ≠ b68) ∧ H_4.length ≤ H_7.length ∧ (b68 < H_3.length ∨ H_4.length ≤ b68) ∧ (b70 < H_3.length ∨ H_4.length ≤ b70) ∧ Grow H H_7 ∧ H.length ≤ b68 ∧ H.length ≤ b70 ∧ (0 : Int) ≤ t38 ∧ t38 ≤ (Int.tdiv (aa.length : Int) 2) ∧ (gf.length : Int) ≤ t38 - (0 : Int) + 0 ∧ (jf.length : Int) ≤ t38 - (0 : Int) + 0 ∧ (Int.tdiv (aa.length : Int) 2) - t38 ≤ (μ : Int) ∧ p_ftz aa ba = p_ftz_l1 aa ba (μ + 1) gf jf t38) (Int.toNat ((Int.tdiv (aa.length : Int) 2) - (0 : Int))) _ _ _ _ _ _ _ H_6 ?_ ?_
    ·exact ⟨_, _, _, _, rfl, ω10, rfl, o64, rfl, ω10, rfl, o57, o62, r66, ω2, ω2, ω2, ω2, ω2, ω2, g60, ω2, ω2, ω7, ω7, ω7, ω7, ω2, e⟩
    ·intro μ nd od td pd sd vd t38  H_7 hI
     obtain ⟨gf, b68, jf, b70, rfl, rfl, rfl, o69, rfl, rfl, rfl, o71, o72, r73, n74, n75, n76, n77, n78, n79, g80, l81, l82, v83, v84, v85, v86, hμ, e⟩ := hI
     rw [ftz_r1]
     have e := e.trans (p_ftz_l1_s aa ba μ gf jf t38)
     have w87 := o72.lt
     have w88 := o69.lt
     have w89 := o71.lt
     have l90 := g80.1
     refine Br.intro (fun c91 => ?_) (fun c91 => ?_)
     ·have e := e.trans (cond_t c91)
      have c_91' := of_decide_eq_true c91
      refine ⟨p_Low_a, ba.length, p_Low_e, (o72.rdC _).trans rfl, ?_⟩
      refine ftz_L2 _ _ _ _ _ _ _ _ _ _ _ _ _ _ _ _ _ _ (fun (μ2 : Nat) (a : Nat) (b : Nat) (t44 : Int) (H_8 : AHeap) => ∃ (y2_1 : LN), ∃ (y2_2 : LN), Own H_8 b_1 ([.slice p_Low_a ba.length p_Low_e]) ∧ Own H_8 b68 (y2_1.map fF) ∧ y2_1.length = gf.length ∧ Own H_8 b70 (y2_2.map fF) ∧ y2_2.length = jf.length ∧ OwnS fF H_8 H_3.length a27 (((p_f1tz ba)).length) e29 (p_f1tz ba) ∧ (b68 ≠ b_1) ∧ (b70 ≠ b_1) ∧ (b70 ≠ b68) ∧ H_4.length ≤ H_8.length ∧ Grow H H_8 ∧ (0 : Int) ≤ t44 ∧ t44 ≤ (ba.length : Int) ∧ (ba.length : Int) - t44 ≤ (μ2 : Int) ∧ p_ftz aa ba = p_ftz_l2 aa ba gf jf t38 (fun (a : Nat) (b : Nat) (t44 : Int) (y2_1 : LN) (y2_2 : LN) => (p_ftz_l1 aa ba μ (y2_1 ++ [a]) (y2_2 ++ [b]) (t38 + 1))) (μ2 + 1) a b t44 y2_1 y2_2) (Int.toNat ((ba.length : Int) - (0 : Int))) _ _ _ H_7 ?_ ?_
      ·exact ⟨_, _, o72, o69, ω20, o71, ω20, r73, ω2, ω2, ω2, ω2, g80, ω7, ω7, ω2, e⟩
      ·intro μ2 a b t44  H_8 hI
       obtain ⟨y2_1, y2_2, o92, o93, y94, o95, y96, r97, n98, n99, n100, n101, g102, v103, v104, hμ, e⟩ := hI
       rw [ftz_r2]
       have e := e.trans (p_ftz_l2_s aa ba gf jf t38 (fun (a : Nat) (b : Nat) (t44 : Int) (y2_1 : LN) (y2_2 : LN) => (p_ftz_l1 aa ba μ (y2_1 ++ [a]) (y2_2 ++ [b]) (t38 + 1))) μ2 a b t44 y2_1 y2_2)
       have w105 := o92.lt
       have w106 := o93.lt
       have w107 := o95.lt
       have l108 := g102.1
       refine Br.intro (fun c109 => ?_) (fun c109 => ?_)
       ·have e := e.trans (cond_t c109)
        have c_109' := of_decide_eq_true c109
        obtain ⟨b110, f111, q112⟩ := ((i_p_Low.grow g102)).pos ω0
        refine ⟨by omega, by omega, b110, f111, q112, ?_⟩
        refine ⟨((ba).getD (t44 : Int).toNat 0), (i_p_Low).rd g102 q112 ω2 _, ?_⟩
        rw [show IntKind.wrap .i64 (2 * t38) = (2 * t38) from wrap64 ω2 ω2]
        rw [show IntKind.wrap .i64 ((2 * t38) + t44) = ((2 * t38) + t44) from wrap64 ω2 ω2]
        refine ⟨ω25, ?_⟩
        have z113 := tmod_rng (((2 * t38) + t44)) (aa.length : Int)
        have z114 := tmod_nn (((2 * t38) + t44)) (aa.length : Int)
        obtain ⟨b115, f_116, q117⟩ := ((i_list.grow g102)).pos ω0
        refine ⟨by omega, by omega, b115, f_116, q117, ?_⟩
        refine ⟨((aa).getD (Int.tmod (((2 * t38) + t44)) (aa.length : Int) : Int).toNat 0), (i_list).rd g102 q117 ω2 _, ?_⟩
        obtain ⟨b118, f_119, q120⟩ := (r97.isL).pos ω0
        refine ⟨by omega, by omega, b118, f_119, q120, ?_⟩
        refine ⟨(((p_f1tz ba)).getD (t44 : Int).toNat 0), (r97.isL).rd (Grow.refl _) q120 ω2 _, ?_⟩
        rw [show IntKind.wrap .i64 (t44 + 1) = (t44 + 1) from wrap64 ω2 ω2]
        refine ftz_n2 (μ2 - 1) ω17 ⟨_, _, o92, o93, ω13, o95, ω13, r97, ω2, ω2, ω2, ω2, g102, ω1, ω1, ω17, ω22⟩
       ·have e := e.trans (cond_f c109)
        have c_109' := of_decide_eq_false c109
        rw [ftz_x2_2]
        refine Al.intro (fun b121 H_9 hb_122 hl_123 g124 o125 => ?_)
        have o125 : Own H_9 b121 (([a]).map fF) := o125
        have l127 := g124.1
        have g128 := g102.trans g124
        have l129 := g128.1
        have o130 := o92.grow g124
        have w131 := o130.lt
        have o132 := o93.grow g124
        have w133 := o132.lt
        have o134 := o95.grow g124
        have w135 := o134.lt
        have r136 := r97.grow g124
        have w192 := o125.lt
        refine ⟨_, _, o132.ownB ω5 rfl, (isl_rdS (o125.isL ω10)), (fun h => by cases h), ω24, ?_⟩
        refine Ap.app o132 rfl rfl (fun b141 H_10 q190 hl_137 o138 k139 => ?_)
        have o138 := map_snoc o138
        have l142 := k139.1
        have g143 := g128.keep (b := b68) ω2 k139
        have l144 := g143.1
        have o145 := o130.keep ω2 k139
        have w146 := o145.lt
        have o147 := o134.keep ω2 k139
        have w148 := o147.lt
        have o149 := o125.keep ω2 k139
        have w150 := o149.lt
        have r151 := r136.keep u38 ω2 k139
        have w191 := o138.lt
        refine Al.intro (fun b152 H_11 hb_153 hl_154 g155 o156 => ?_)
        have o156 : Own H_11 b152 (([b]).map fF) := o156
        have l158 := g155.1
        have g159 := g143.trans g155
        have l160 := g159.1
        have o161 := o145.grow g155
        have w162 := o161.lt
        have o163 := o147.grow g155
        have w164 := o163.lt
        have o165 := o149.grow g155
        have w166 := o165.lt
        have o167 := o138.grow g155
        have w168 := o167.lt
        have r169 := r151.grow g155
        have w189 := o156.lt
        refine ⟨_, _, o163.ownB ω5 rfl, (isl_rdS (o156.isL ω10)), (fun h => by cases h), ω24, ?_⟩
        refine Ap.app o163 rfl rfl (fun b174 H_12 q187 hl_170 o171 k172 => ?_)
        have o171 := map_snoc o171
        have l175 := k172.1
        have g176 := g159.keep (b := b70) ω2 k172
        have l177 := g176.1
        have o178 := o161.keep ω2 k172
        have w179 := o178.lt
        have o180 := o165.keep ω2 k172
        have w181 := o180.lt
        have o182 := o167.keep ω2 k172
        have w183 := o182.lt
        have o184 := o156.keep ω2 k172
        have w185 := o184.lt
        have r186 := r169.keep u38 ω2 k172
        have w188 := o171.lt
        rw [show IntKind.wrap .i64 (t38 + 1) = (t38 + 1) from wrap64 ω2 ω2]
        refine ftz_n1 (μ - 1) ω17 ⟨_, _, _, _, rfl, ω8, rfl, o182, rfl, ω8, rfl, o171, o178, r186, ω2, ω2, ω2, ω2, ω2, ω2, g176, ω2, ω2, ω1, ω1, ω1, ω1, ω17, ω12⟩
     ·have e := e.trans (cond_f c91)
      have c_91' := of_decide_eq_false c91
      rw [ftz_x1_0]
      refine Al.intro (fun b193 H_13 hb_194 hl_195 g196 o197 => ?_)
      have l199 := g196.1
      have g200 := g80.trans g196
      have l201 := g200.1
      have o202 := o72.grow g196
      have w203 := o202.lt
      have o204 := o69.grow g196
      have w205 := o204.lt
      have o206 := o71.grow g196
      have w207 := o206.lt
      have r208 := r73.grow g196
      have w210 := o197.lt
      refine T_fvz_i ⟨[gf, jf], ⟨_, o197.rdAll rfl, LLc.cons (o204.isL ω10) (LLc.cons (o206.isL ω10) (LLc.nil _ _))⟩, ω0, ω6, ?_⟩
      refine Br.intro (fun c209 => ?_) (fun c209 => ?_)
      ·have e := e.trans (cond_t c209)
       have c_209n := nf_of_t c209
       rw [e] at hk
       exact hk _ _ _ _ _ _ H_13 g200 ω9 ω9 (fun x y hx hy => by cases hx)
      ·have e := e.trans (cond_f c209)
       have c_209n := nt_of_f c209
       rw [e] at hk
       exact hk _ _ _ _ _ _ H_13 g200 (o204.ownS ω10 ω2) (o206.ownS ω10 ω2) (fun x y hx hy => by cases hx; cases hy; intro hh; dsimp only at hh; omega)
theorem ftz_ok : FnOk Try.prog 179 S_ftz := by
 refine FnOk.body mix_ok E_ftz_ok Try.func179 rfl ω15 ω15 ?_ ?_ ?_ ?_ ?_
 ·intro args H K K' h hk
  simp only [S_ftz] at *
  unfold F_ftz at *
  split at hk
  ·obtain ⟨aa, ba, i_list, i_p_Low, bd_214, bd_215, k⟩ := hk
   exact ⟨aa, ba, i_list, i_p_Low, bd_214, bd_215, (fun ib kb jb pf xf vf H' gg ow0 ow1 sp0_1 => h _ _ (k ib kb jb pf xf vf H' gg ow0 ow1 sp0_1))⟩
  ·exact hk.elim
 ·intro hq; cases hq
 ·intro args H K hk
  simp only [S_ftz] at *
  unfold F_ftz at *
  split at hk
  ·obtain ⟨aa, ba, i_list, i_p_Low, bd_214, bd_215, k⟩ := hk
   exact liveS2 fun a n e a2 n2 e2 H1 g o o2 sp => ⟨_, _, k a n e a2 n2 e2 H1 g o o2 sp⟩
  ·exact hk.elim
 ·intro _ args H K hk
  simp only [S_ftz] at *
  unfold F_ftz at *
  split at hk
  ·obtain ⟨aa, ba, i_list, i_p_Low, bd_214, bd_215, k⟩ := hk
   exact ⟨aa, ba, i_list, i_p_Low, bd_214, bd_215, (fun ib kb jb pf xf vf H' gg ow0 ow1 sp0_1 => ⟨gg, k ib kb jb pf xf vf H' gg ow0 ow1 sp0_1⟩)⟩
  ·exact hk.elim
 ·have mm := @ftz_main
  have ml := fun (args : List Value) (H : AHeap) (K : Value → AHeap → Prop) => bodyL_body (P := Try.prog) (env := E_ftz ) (fn := Try.f179) (args := args) (H := H) (K := K) E_ftz_ok 
  revert mm ml
  generalize bodyK Try.prog E_ftz Try.f179 = Q
  generalize bodyL Try.prog E_ftz Try.f179 = QL
  intro mm ml args H K hk
  simp only [S_ftz] at *
  unfold F_ftz at *
  split at hk
  ·exact ml _ H K (mm _ _ _ _ _ _ H K hk)
  ·exact hk.elim

def p_fbz_l1 (aa : LN) (ba : LN) (levels : Int) : Nat → Bool → Int → LN → (List LN) → LN × (List LN) × Bool
 | 0, _, _, _, _ => ([], [], false)
 | μ + 1, t7, t38, q1_3, q1_4 => (bif decide ((t38 : Int) < levels) then (bif !((p_ftz q1_3 ba).2.2) then ([], [], false) else (p_fbz_l1 aa ba levels μ t7 (t38 + 1) ((p_ftz q1_3 ba).1) ((q1_4 ++ [(p_ftz q1_3 ba).2.1])))) else (q1_3, q1_4, true))
def p_fbz_l1_s := fun aa ba levels μ t7 t38 q1_3 q1_4 => @p_fbz_l1.eq_2 aa ba levels t7 t38 q1_3 q1_4 μ
def p_fbz (aa : LN) (ba : LN) (levels : Int) : LN × (List LN) × Bool := ((bif !(p_f1uz aa) then ([], [], false) else (bif !(p_fuz ba) then ([], [], false) else (bif !((p_f1yz levels (1 : Int) (6 : Int))) then ([], [], false) else (bif (Int.tmod (aa.length : Int) (IntKind.wrap .i64 (1 * 2 ^ (min (levels : Int).toNat (IntKind.bits .i64)))) : Int) != 0 then ([], [], false) else (p_fbz_l1 aa ba levels (Int.toNat (levels - (0 : Int)) + 1) false (0 : Int) (p_f1rz aa) ([])))))))
def p_fbz_eq := @p_fbz.eq_1
def T_fbz (ea : OA) (da : Nat) (ga : Nat) (p_Low_a : OA) (p_Low_n : Nat) (p_Low_e : Nat) (levels : Int) (H : AHeap) (K : OA → Nat → Nat → OA → Nat → Nat → Bool → AHeap → Prop) : Prop := ∃ (aa : LN), ∃ (ba : LN), IsL fF H ea da aa ∧ IsL fF H p_Low_a p_Low_n ba ∧ aa.length < 1073741824 ∧ ba.length < 1073741824 ∧ ((∀ (mb : OA) (ob nb : Nat), ∀ (db : OA) (gb eb : Nat), ∀ H' : AHeap, Grow H H' → OwnS fF H' H.length mb ob nb ((p_fbz aa ba levels).1) → OwnLL fF H' H.length H'.length db gb eb ((p_fbz aa ba levels).2.1) → K mb ob nb db gb eb ((p_fbz aa ba levels).2.2) H'))
theorem T_fbz_i {ea : OA} {da : Nat} {ga : Nat} {p_Low_a : OA} {p_Low_n : Nat} {p_Low_e : Nat} {levels : Int} {H : AHeap} {K : OA → Nat → Nat → OA → Nat → Nat → Bool → AHeap → Prop} (h : ∃ (aa : LN), ∃ (ba : LN), IsL fF H ea da aa ∧ IsL fF H p_Low_a p_Low_n ba ∧ aa.length < 1073741824 ∧ ba.length < 1073741824 ∧ ((∀ (mb : OA) (ob nb : Nat), ∀ (db : OA) (gb eb : Nat), ∀ H' : AHeap, Grow H H' → OwnS fF H' H.length mb ob nb ((p_fbz aa ba levels).1) → OwnLL fF H' H.length H'.length db gb eb ((p_fbz aa ba levels).2.1) → K mb ob nb db gb eb ((p_fbz aa ba levels).2.2) H'))) : T_fbz ea da ga p_Low_a p_Low_n p_Low_e levels H K := h
theorem fbz_go (l t : LN) (v : Int) (hv : v ≤ 6) : ∀ (μ : Nat) (b : Bool) (i : Int) (q : LN) (ds : List LN), q.length ≤ l.length → (ds.length : Int) ≤ i → i ≤ v → (∀ y ∈ ds, y.length ≤ l.length) →
  (p_fbz_l1 l t v μ b i q ds).1.length ≤ l.length ∧ (p_fbz_l1 l t v μ b i q ds).2.1.length ≤ 6 ∧ ∀ y ∈ (p_fbz_l1 l t v μ b i q ds).2.1, y.length ≤ l.length := by
 intro μ
 induction μ with
 | zero => intro b i q ds h1 h2 h3 h4; exact ⟨Nat.zero_le _, Nat.zero_le _, fun y hy => by cases hy⟩
 | succ μ ih =>
  intro b i q ds h1 h2 h3 h4
  rw [p_fbz_l1_s]
  refine cnb (P := fun r : LN × List LN × Bool => r.1.length ≤ l.length ∧ r.2.1.length ≤ 6 ∧ ∀ y ∈ r.2.1, y.length ≤ l.length) (fun hc => ?_) (fun _ => ⟨h1, by show ds.length ≤ 6; omega, h4⟩)
  have hc := of_decide_eq_true hc
  refine cnb (P := fun r : LN × List LN × Bool => r.1.length ≤ l.length ∧ r.2.1.length ≤ 6 ∧ ∀ y ∈ r.2.1, y.length ≤ l.length) (fun _ => ⟨Nat.zero_le _, Nat.zero_le _, fun y hy => by cases hy⟩) (fun _ => ?_)
  have hr := ftz_len q t
  refine ih _ _ _ _ ω2 ω31 ω2 (fun y hy => ?_)
  rcases List.mem_append.1 hy with hy | hy
  ·exact h4 y hy
  ·rw [List.mem_singleton.1 hy]; omega
theorem fbz_all (l t : LN) (v : Int) : (p_fbz l t v).1.length ≤ l.length ∧ (p_fbz l t v).2.1.length ≤ 6 ∧ ∀ y ∈ (p_fbz l t v).2.1, y.length ≤ l.length := by
 rw [p_fbz_eq]
 refine cnb (P := fun r : LN × List LN × Bool => r.1.length ≤ l.length ∧ r.2.1.length ≤ 6 ∧ ∀ y ∈ r.2.1, y.length ≤ l.length) (fun _ => ⟨Nat.zero_le _, Nat.zero_le _, fun y hy => by cases hy⟩) (fun _ => ?_)
 refine cnb (P := fun r : LN × List LN × Bool => r.1.length ≤ l.length ∧ r.2.1.length ≤ 6 ∧ ∀ y ∈ r.2.1, y.length ≤ l.length) (fun _ => ⟨Nat.zero_le _, Nat.zero_le _, fun y hy => by cases hy⟩) (fun _ => ?_)
 refine cnb (P := fun r : LN × List LN × Bool => r.1.length ≤ l.length ∧ r.2.1.length ≤ 6 ∧ ∀ y ∈ r.2.1, y.length ≤ l.length) (fun _ => ⟨Nat.zero_le _, Nat.zero_le _, fun y hy => by cases hy⟩) (fun hc => ?_)
 have hw := f1yz_t (nt_of_f hc)
 refine cnb (P := fun r : LN × List LN × Bool => r.1.length ≤ l.length ∧ r.2.1.length ≤ 6 ∧ ∀ y ∈ r.2.1, y.length ≤ l.length) (fun _ => ⟨Nat.zero_le _, Nat.zero_le _, fun y hy => by cases hy⟩) (fun _ => ?_)
 exact fbz_go l t v hw.2 _ _ _ _ _ (by rw [f1rz_len]; exact Nat.le_refl _) (by simp) ω2 (fun y hy => by cases hy)
theorem fbz_len (l t : LN) (v : Int) : (p_fbz l t v).1.length ≤ l.length ∧ (p_fbz l t v).2.1.length ≤ 6 := ⟨(fbz_all l t v).1, (fbz_all l t v).2.1⟩
theorem fbz_big (l t : LN) (v : Int) : l.length < 1073741824 → ∀ y ∈ (p_fbz l t v).2.1, y.length < 1073741824 := fun h y hy => Nat.lt_of_le_of_lt ((fbz_all l t v).2.2 y hy) h
/-! fbz: function 128 -/
def E_fbz : Env := envOf [(105, S_f1uz), (178, S_fuz), (96, S_f1yz), (122, S_f1rz), (179, S_ftz)]
def F_fbz : List Value → AHeap → (Value → AHeap → Prop) → Prop
 | [.slice ea da ga, .agg ⟨[.slice p_Low_a p_Low_n p_Low_e]⟩, .int .i64 levels], H, K => T_fbz ea da ga p_Low_a p_Low_n p_Low_e levels H fun (mb : OA) (ob : Nat) (nb : Nat) (db : OA) (gb : Nat) (eb : Nat) (r2 : Bool) (H' : AHeap) => K (.tuple #[.agg #[.slice mb ob nb, .slice db gb eb], .bool r2]) H'
 | _, _, _ => False
def S_fbz : FSpec := { F := F_fbz, quiet := false, tame := true }
theorem fbz_vc (ea : OA) (da : Nat) (ga : Nat) (p_Low_a : OA) (p_Low_n : Nat) (p_Low_e : Nat) (levels : Int) (H : AHeap) (K : Value → AHeap → Prop) : bodyL Try.prog E_fbz Try.f128 [.slice ea da ga, .agg #[.slice p_Low_a p_Low_n p_Low_e], .int .i64 levels] H K =
 (Al [.slice p_Low_a p_Low_n p_Low_e] H fun b1 H1 => Al [.slice none 0 0, .slice none 0 0] H1 fun b2 H2 => T_f1uz ea da ga H2 fun (r1 : Bool) (H3 : AHeap) => Br (!r1) (isOwn H3 b2 ∧ (∃ l, rdN H3 b2 0 2 = some l) ∧ Lt (setN H3 b2 0 [.slice none 0 0, .slice none 0 0]) fun H4 => ∃ xe : OA, ∃ ze : Nat, ∃ ye : Nat, ∃ af : OA, ∃ cf : Nat, ∃ bf : Nat,  rdN H4 b2 0 2 = some [.slice xe ze ye, .slice af cf bf] ∧ K (.tuple #[.agg #[.slice xe ze ye, .slice af cf bf], .bool false]) H4) (∃ yf : OA, ∃ ag : Nat, ∃ zf : Nat,  rdN H3 b1 0 1 = some [.slice yf ag zf] ∧ T_fuz yf ag zf H3 fun (r2 : Bool) (H5 : AHeap) => Br (!r2) (isOwn H5 b2 ∧ (∃ l, rdN H5 b2 0 2 = some l) ∧ Lt (setN H5 b2 0 [.slice none 0 0, .slice none 0 0]) fun H6 => ∃ bg : OA, ∃ eg : Nat, ∃ dg : Nat, ∃ fg : OA, ∃ jg : Nat, ∃ ig : Nat,  rdN H6 b2 0 2 = some [.slice bg eg dg, .slice fg jg ig] ∧ K (.tuple #[.agg #[.slice bg eg dg, .slice fg jg ig], .bool false]) H6) (T_f1yz levels 1 6 H5 fun (r3 : Bool) (H7 : AHeap) => Br (!r3) (isOwn H7 b2 ∧ (∃ l, rdN H7 b2 0 2 = some l) ∧ Lt (setN H7 b2 0 [.slice none 0 0, .slice none 0 0]) fun H8 => ∃ kg : OA, ∃ mg : Nat, ∃ lg : Nat, ∃ ng : OA, ∃ pg : Nat, ∃ og : Nat,  rdN H8 b2 0 2 = some [.slice kg mg lg, .slice ng pg og] ∧ K (.tuple #[.agg #[.slice kg mg lg, .slice ng pg og], .bool false]) H8) ((0 : Int) ≤ levels ∧ IntKind.wrap .i64 (1 * 2 ^ (min (levels : Int).toNat (IntKind.bits .i64))) ≠ (0 : Int) ∧ Br ((Int.tmod (da : Int) (IntKind.wrap .i64 (1 * 2 ^ (min (levels : Int).toNat (IntKind.bits .i64)))) : Int) != 0) (isOwn H7 b2 ∧ (∃ l, rdN H7 b2 0 2 = some l) ∧ Lt (setN H7 b2 0 [.slice none 0 0, .slice none 0 0]) fun H9 => ∃ qg : OA, ∃ tg : Nat, ∃ rg : Nat, ∃ jh : OA, ∃ lh : Nat, ∃ kh : Nat,  rdN H9 b2 0 2 = some [.slice qg tg rg, .slice jh lh kh] ∧ K (.tuple #[.agg #[.slice qg tg rg, .slice jh lh kh], .bool false]) H9) (T_f1rz ea da ga H7 fun (a1 : OA) (r4 : Nat) (r5 : Nat) (H10 : AHeap) => Al [.slice none 0 0, .slice none 0 0] H10 fun b3 H11 => isOwn H11 b3 ∧ (∃ l, rdN H11 b3 0 2 = some l) ∧ Lt (setN H11 b3 0 [.slice a1 r4 r5, .slice none 0 0]) fun H12 => loopK (exL Try.prog E_fbz (cl (cl (cr (cl (cr (cr (cr (bodyC Try.f128)))))))) 412316860752 192 [(0, 320)]) (ud4 (.pointer (some ⟨b1, 0, none⟩) :: ud :: .pointer (some ⟨b2, 0, none⟩) :: ud :: .pointer (some ⟨b3, 0, none⟩) :: ud28 (.int .i64 levels :: .int .i64 0 :: ud22 []))) H12 (blockQ 0 (seqQ (exL Try.prog E_fbz (cr (cr (cr (cr (bodyC Try.f128))))) 192 192 []) (retK Try.prog Try.f128 K)))))))) := by kernel_rfl
abbrev fbz_P1 (b1 : Nat) (b2 : Nat) (b3 : Nat) (levels : Int) (t38 : Int)  : List Value := (ud4 (.pointer (some ⟨b1, 0, none⟩) :: ud :: .pointer (some ⟨b2, 0, none⟩) :: ud :: .pointer (some ⟨b3, 0, none⟩) :: ud28 (.int .i64 levels :: .int .i64 t38 :: ud22 [])))
theorem fbz_r1 (b1 : Nat) (b2 : Nat) (b3 : Nat) (levels : Int) (t38 : Int)  (H : AHeap) (R : Post) : exL Try.prog E_fbz (cl (cl (cr (cl (cr (cr (cr (bodyC Try.f128)))))))) 412316860752 192 [(0, 320)] (fbz_P1 b1 b2 b3 levels t38) H R =
 (Br (decide ((t38 : Int) < levels)) (∃ sc : OA, ∃ bb : Nat, ∃ tc : Nat,  rdC H b3 0 = some (.slice sc bb tc) ∧ ∃ ug : OA, ∃ wg : Nat, ∃ vg : Nat,  rdN H b1 0 1 = some [.slice ug wg vg] ∧ T_ftz sc bb tc ug wg vg H fun (a2 : OA) (r6 : Nat) (r7 : Nat) (a3 : OA) (r8 : Nat) (r9 : Nat) (r10 : Bool) (H13 : AHeap) => Br (!r10) (isOwn H13 b2 ∧ (∃ l, rdN H13 b2 0 2 = some l) ∧ Lt (setN H13 b2 0 [.slice none 0 0, .slice none 0 0]) fun H14 => R .ret (ud6 (.pointer (some ⟨b2, 0, none⟩) :: .bool false :: ud53 [])) H14) (isOwn H13 b3 ∧ (∃ l, rdN H13 b3 0 1 = some l) ∧ Lt (setC H13 b3 0 (.slice a2 r6 r7)) fun H15 => ∃ oe : OA, ∃ je : Nat, ∃ te : Nat,  rdC H15 b3 1 = some (.slice oe je te) ∧ Al [.slice a3 r8 r9] H15 fun b4 H16 => ∃ o1 w1 : List Value, ownB H16 oe je te 1 = some o1 ∧ rdS H16 (some ⟨b4, 0, none⟩) (1 * 1) = some w1 ∧ ((oe : OA) = none → 0 < (1 : Nat)) ∧ (je : Nat) + 1 < most ∧ Ap H16 (killB H16 oe ++ [some ⟨o1 ++ w1, true⟩]) fun b5 H17 => isOwn H17 b3 ∧ (∃ l, rdN H17 b3 1 1 = some l) ∧ Lt (setC H17 b3 1 (.slice (some ⟨b5, 0, none⟩) (je + 1) 1)) fun H18 => R .normal (ud4 (.pointer (some ⟨b1, 0, none⟩) :: ud :: .pointer (some ⟨b2, 0, none⟩) :: ud :: .pointer (some ⟨b3, 0, none⟩) :: ud28 (.int .i64 levels :: .int .i64 (IntKind.wrap .i64 (t38 + 1)) :: ud22 []))) H18)) (R (.exit 0) (ud6 (.pointer (some ⟨b2, 0, none⟩) :: ud :: .pointer (some ⟨b3, 0, none⟩) :: ud52 [])) H)) := by kernel_rfl
def fbz_I1 (b1 : Nat) (b2 : Nat) (b3 : Nat) (levels : Int) (Inv : Nat → Int → AHeap → Prop) : Nat → List Value → AHeap → Prop := fun μ tm H => ∃ (t38 : Int), tm = (fbz_P1 b1 b2 b3 levels t38) ∧ Inv μ t38 H
theorem fbz_L1 (b1 : Nat) (b2 : Nat) (b3 : Nat) (levels : Int) {Q : Post} (Inv : Nat → Int → AHeap → Prop) (ν : Nat) (t38 : Int)  (H : AHeap) (h0 : Inv ν t38 H)
  (hs : ∀ (μ : Nat) (t38 : Int)  (H : AHeap), Inv μ t38 H → exL Try.prog E_fbz (cl (cl (cr (cl (cr (cr (cr (bodyC Try.f128)))))))) 412316860752 192 [(0, 320)] (fbz_P1 b1 b2 b3 levels t38) H (loopQ (fbz_I1 b1 b2 b3 levels Inv) μ Q)) : loopK (exL Try.prog E_fbz (cl (cl (cr (cl (cr (cr (cr (bodyC Try.f128)))))))) 412316860752 192 [(0, 320)]) (fbz_P1 b1 b2 b3 levels t38) H Q :=
 ⟨fbz_I1 b1 b2 b3 levels Inv, ν, ⟨t38, rfl, h0⟩, fun μ tm H h => by obtain ⟨t38, rfl, hI⟩ := h; exact hs μ t38  H hI⟩
theorem fbz_n1 {b1 : Nat} {b2 : Nat} {b3 : Nat} {levels : Int} {Q : Post} {Inv : Nat → Int → AHeap → Prop} {μ : Nat} (μ' : Nat) {t38 : Int}  {H : AHeap} (hm : μ' < μ) (hI : Inv μ' t38 H) : loopQ (fbz_I1 b1 b2 b3 levels Inv) μ Q .normal (fbz_P1 b1 b2 b3 levels t38) H := ⟨μ', hm, t38, rfl, hI⟩
theorem fbz_x1_0 (b2 : Nat) (b3 : Nat) (H : AHeap) (K : Value → AHeap → Prop)  {I : Nat → List Value → AHeap → Prop} {μ : Nat} : loopQ I μ (blockQ 0 (seqQ (exL Try.prog E_fbz (cr (cr (cr (cr (bodyC Try.f128))))) 192 192 []) (retK Try.prog Try.f128 K))) (.exit 0) (ud6 (.pointer (some ⟨b2, 0, none⟩) :: ud :: .pointer (some ⟨b3, 0, none⟩) :: ud52 [])) H =
 (∃ ah : OA, ∃ dh : Nat, ∃ bh : Nat, ∃ eh : OA, ∃ gh : Nat, ∃ fh : Nat,  rdN H b3 0 2 = some [.slice ah dh bh, .slice eh gh fh] ∧ isOwn H b2 ∧ (∃ l, rdN H b2 0 2 = some l) ∧ Lt (setN H b2 0 [.slice ah dh bh, .slice eh gh fh]) fun H19 => ∃ oh : OA, ∃ qh : Nat, ∃ ph : Nat, ∃ rh : OA, ∃ uh : Nat, ∃ th : Nat,  rdN H19 b2 0 2 = some [.slice oh qh ph, .slice rh uh th] ∧ K (.tuple #[.agg #[.slice oh qh ph, .slice rh uh th], .bool true]) H19) := by kernel_rfl
theorem fbz_x1_ret (b2 : Nat) (t7 : Bool) (H : AHeap) (K : Value → AHeap → Prop)  {I : Nat → List Value → AHeap → Prop} {μ : Nat} : loopQ I μ (blockQ 0 (seqQ (exL Try.prog E_fbz (cr (cr (cr (cr (bodyC Try.f128))))) 192 192 []) (retK Try.prog Try.f128 K))) .ret (ud6 (.pointer (some ⟨b2, 0, none⟩) :: .bool t7 :: ud53 [])) H =
 (∃ vh : OA, ∃ xh : Nat, ∃ wh : Nat, ∃ vi : OA, ∃ xi : Nat, ∃ wi : Nat,  rdN H b2 0 2 = some [.slice vh xh wh, .slice vi xi wi] ∧ K (.tuple #[.agg #[.slice vh xh wh, .slice vi xi wi], .bool t7]) H) := by kernel_rfl
theorem E_fbz_ok : ∀ g, FnOk Try.prog g (E_fbz g) := FnOk.envOf (by
 intro x hx
 simp only [List.mem_cons, List.not_mem_nil, or_false] at hx
 rcases hx with rfl | rfl | rfl | rfl | rfl
 ·exact f1uz_ok
 ·exact fuz_ok
 ·exact f1yz_ok
 ·exact f1rz_ok
 ·exact ftz_ok)
theorem fbz_main (ea : OA) (da : Nat) (ga : Nat) (p_Low_a : OA) (p_Low_n : Nat) (p_Low_e : Nat) (levels : Int) (H : AHeap) (K : Value → AHeap → Prop) (h : T_fbz ea da ga p_Low_a p_Low_n p_Low_e levels H fun (mb : OA) (ob : Nat) (nb : Nat) (db : OA) (gb : Nat) (eb : Nat) (r2 : Bool) (H' : AHeap) => K (.tuple #[.agg #[.slice mb ob nb, .slice db gb eb], .bool r2]) H') : bodyL Try.prog E_fbz Try.f128 [.slice ea da ga, .agg #[.slice p_Low_a p_Low_n p_Low_e], .int .i64 levels] H K := by
 rw [fbz_vc]
 obtain ⟨aa, ba, i_list, i_p_Low, bd_278, bd_279, hk⟩ := h
 obtain rfl := i_list.eqn
 obtain rfl := i_p_Low.eqn
 have e : (p_fbz aa ba levels) = _ := rfl
 have e := e.trans (p_fbz_eq aa ba levels)
 have g0 := Grow.refl H
 refine Al.intro (fun b_1 H_1 hb_2 hl_3 g_4 o_5 => ?_)
 have l7 := g_4.1
 have g8 := g0.trans g_4
 have l9 := g8.1
 have w277 := o_5.lt
 refine Al.intro (fun b_10 H_2 hb_11 hl_12 g13 o14 => ?_)
 have l16 := g13.1
 have g17 := g8.trans g13
 have l18 := g17.1
 have o19 := o_5.grow g13
 have w20 := o19.lt
 have w276 := o14.lt
 refine T_f1uz_i ⟨_, (i_list.grow g17), ω0, fun  H_3 g21  => ?_⟩
 have l22 := g21.1
 have g23 := g17.trans g21
 have l24 := g23.1
 have o25 := o19.grow g21
 have w26 := o25.lt
 have o27 := o14.grow g21
 have w28 := o27.lt
 refine Br.intro (fun c29 => ?_) (fun c29 => ?_)
 ·have e := e.trans (cond_t c29)
  have c_29n := nf_of_t c29
  refine Lt.setN (n := 2) o27 (Nat.le_of_ble_eq_true rfl) rfl (fun H_4 hl_30 o32 k31 => ?_)
  have o32 : Own H_4 b_10 [.slice none 0 0, .slice none 0 0] := o32
  have l33 := k31.1
  have g34 := g23.keep (b := b_10) ω2 k31
  have l35 := g34.1
  have o36 := o25.keep ω2 k31
  have w37 := o36.lt
  have w38 := o32.lt
  refine ⟨none, 0, 0, none, 0, 0, (o32.rdN (Nat.le_of_ble_eq_true rfl)).trans rfl, ?_⟩
  rw [e] at hk
  exact hk _ _ _ _ _ _ H_4 g34 ω9 ω9
 ·have e := e.trans (cond_f c29)
  have c_29n := nt_of_f c29
  have c_29n' := f1uz_t c_29n
  refine ⟨p_Low_a, ba.length, p_Low_e, (o25.rdN (Nat.le_of_ble_eq_true rfl)).trans rfl, ?_⟩
  refine T_fuz_i ⟨_, (i_p_Low.grow g23), ω0, fun  H_5 g39  => ?_⟩
  have l40 := g39.1
  have g41 := g23.trans g39
  have l42 := g41.1
  have o43 := o25.grow g39
  have w44 := o43.lt
  have o45 := o27.grow g39
  have w46 := o45.lt
  refine Br.intro (fun c47 => ?_) (fun c47 => ?_)
  ·have e := e.trans (cond_t c47)
   have c_47n := nf_of_t c47
   refine Lt.setN (n := 2) o45 (Nat.le_of_ble_eq_true rfl) rfl (fun H_6 hl_48 o50 k49 => ?_)
   have o50 : Own H_6 b_10 [.slice none 0 0, .slice none 0 0] := o50
   have l51 := k49.1
   have g52 := g41.keep (b := b_10) ω2 k49
   have l53 := g52.1
   have o54 := o43.keep ω2 k49
   have w55 := o54.lt
   have w56 := o50.lt
   refine ⟨none, 0, 0, none, 0, 0, (o50.rdN (Nat.le_of_ble_eq_true rfl)).trans rfl, ?_⟩
   rw [e] at hk
   exact hk _ _ _ _ _ _ H_6 g52 ω9 ω9
  ·have e := e.trans (cond_f c47)
   have c_47n := nt_of_f c47
   have c_47n' := fuz_t c_47n
   refine T_f1yz_i ?_
   refine Br.intro (fun c57 => ?_) (fun c57 => ?_)
   ·have e := e.trans (cond_t c57)
    have c_57n := nf_of_t c57
    refine Lt.setN (n := 2) o45 (Nat.le_of_ble_eq_true rfl) rfl (fun H_7 hl_58 o60 k59 => ?_)
    have o60 : Own H_7 b_10 [.slice none 0 0, .slice none 0 0] := o60
    have l61 := k59.1
    have g62 := g41.keep (b := b_10) ω2 k59
    have l63 := g62.1
    have o64 := o43.keep ω2 k59
    have w65 := o64.lt
    have w66 := o60.lt
    refine ⟨none, 0, 0, none, 0, 0, (o60.rdN (Nat.le_of_ble_eq_true rfl)).trans rfl, ?_⟩
    rw [e] at hk
    exact hk _ _ _ _ _ _ H_7 g62 ω9 ω9
   ·have e := e.trans (cond_f c57)
    have c_57n := nt_of_f c57
    have c_57n' := f1yz_t c_57n
    refine ⟨ω33, ?_⟩
    refine ⟨ω33, ?_⟩
    have z67 := tmod_rng (aa.length : Int) (IntKind.wrap .i64 (1 * 2 ^ (min (levels : Int).toNat (IntKind.bits .i64))))
    have z68 := tmod_nn (aa.length : Int) (IntKind.wrap .i64 (1 * 2 ^ (min (levels : Int).toNat (IntKind.bits .i64))))
    refine Br.intro (fun c69 => ?_) (fun c69 => ?_)
    ·have e := e.trans (cond_t c69)
     have c_69' := ine_t c69
     refine Lt.setN (n := 2) o45 (Nat.le_of_ble_eq_true rfl) rfl (fun H_8 hl_70 o72 k71 => ?_)
     have o72 : Own H_8 b_10 [.slice none 0 0, .slice none 0 0] := o72
     have l73 := k71.1
     have g74 := g41.keep (b := b_10) ω2 k71
     have l75 := g74.1
     have o76 := o43.keep ω2 k71
     have w77 := o76.lt
     have w78 := o72.lt
     refine ⟨none, 0, 0, none, 0, 0, (o72.rdN (Nat.le_of_ble_eq_true rfl)).trans rfl, ?_⟩
     rw [e] at hk
     exact hk _ _ _ _ _ _ H_8 g74 ω9 ω9
    ·have e := e.trans (cond_f c69)
     have c_69' := ine_f c69
     refine T_f1rz_i ⟨_, (i_list.grow g41), ω0, fun a79 n80 e81 H_9 g84 r82 => ?_⟩
     have z83 := f1rz_len aa
     have l85 := g84.1
     have g86 := g41.trans g84
     have l87 := g86.1
     have o88 := o43.grow g84
     have w89 := o88.lt
     have o90 := o45.grow g84
     have w91 := o90.lt
     obtain rfl := r82.isL.eqn
     have u92 := r82.up
     have u93 := r82.lo
     refine Al.intro (fun b95 H_10 hb_96 hl_97 g98 o99 => ?_)
     have l101 := g98.1
     have g102 := g86.trans g98
     have l103 := g102.1
     have o104 := o88.grow g98
     have w105 := o104.lt
     have o106 := o90.grow g98
     have w107 := o106.lt
     have r108 := r82.grow g98
     have w275 := o99.lt
     refine Lt.setN (n := 2) o99 (Nat.le_of_ble_eq_true rfl) rfl (fun H_11 hl_109 o111 k110 => ?_)
     have o111 : Own H_11 b95 [.slice a79 (((p_f1rz aa)).length) e81, .slice none 0 0] := o111
     have l112 := k110.1
     have g113 := g102.keep (b := b95) ω2 k110
     have l114 := g113.1
     have o115 := o104.keep ω2 k110
     have w116 := o115.lt
     have o117 := o106.keep ω2 k110
     have w118 := o117.lt
     have r119 := r108.keep u92 ω2 k110
     have w274 := o111.lt
     refine fbz_L1 _ _ _ _ (fun (μ : Nat) (t38 : Int) (H_12 : AHeap) => ∃ (t7 : Bool), ∃ (q1_3 : LN), ∃ (mf : OA), ∃ (nf : Nat), ∃ (q1_4 : List LN), ∃ (xd : OA), ∃ (yd : Nat), Own H_12 b_1 ([.slice p_Low_a ba.length p_Low_e]) ∧ Own H_12 b_10 [.slice none 0 0, .slice none 0 0] ∧ OwnS fF H_12 H_5.length mf q1_3.length nf q1_3 ∧ OwnLL fF H_12 H_11.length H_12.length xd q1_4.length yd q1_4 ∧ Own H_12 b95 [.slice mf q1_3.length nf, .slice xd q1_4.length yd] ∧ (b_10 ≠ b_1) ∧ (b95 ≠ b_1) ∧ (b95 ≠ b_10) ∧ Grow H H_12 ∧ (0 : Int) ≤ t38 ∧ ((t38 ≤ levels ∨ t38 ≤ (0 : Int))) ∧ q1_3.length ≤ aa.length ∧ (q1_4.length : Int) ≤ t38 ∧ levels - t38 ≤ (μ : Int) ∧ p_fbz aa ba levels = p_fbz_l1 aa ba levels (μ + 1) t7 t38 q1_3 q1_4) (Int.toNat (levels - (0 : Int))) _ H_11 ?_ ?_
     ·exact ⟨_, _, _, _, _, _, _, o115, (by first | exact o117 | (have hbx := o117; (try simp only [List.length_append, List.length_cons, List.length_nil, Nat.zero_add] at hbx); (try simp only [List.length_append, List.length_cons, List.length_nil, Nat.zero_add]); exact hbx)), r119, (OwnLL.nil _ _ _ _), ω30, ω2, ω2, ω2, g113, ω7, ω7, ω7, ω7, ω2, e⟩
     ·intro μ t38  H_12 hI
      obtain ⟨t7, q1_3, mf, nf, q1_4, xd, yd, o120, o121, r124, r128, o122, n131, n132, n133, g134, v135, v136, v137, v138, hμ, e⟩ := hI
      rw [fbz_r1]
      have e := e.trans (p_fbz_l1_s aa ba levels μ t7 t38 q1_3 q1_4)
      have u125 := r124.up
      have u126 := r124.lo
      have u129 := r128.up
      have u130 := r128.lo
      have w139 := o120.lt
      have w140 := o121.lt
      have w141 := o122.lt
      have l142 := g134.1
      refine Br.intro (fun c143 => ?_) (fun c143 => ?_)
      ·have e := e.trans (cond_t c143)
       have c_143' := of_decide_eq_true c143
       refine ⟨mf, q1_3.length, nf, (o122.rdC _).trans rfl, ?_⟩
       refine ⟨p_Low_a, ba.length, p_Low_e, (o120.rdN (Nat.le_of_ble_eq_true rfl)).trans rfl, ?_⟩
       refine T_ftz_i ⟨_, _, r124.isL, (i_p_Low.grow g134), ω0, ω0, fun a144 n145 e146 a148 n149 e150 H_13 g153 r147 r151 p171 => ?_⟩
       have z152 := ftz_len q1_3 ba
       have l154 := g153.1
       have g155 := g134.trans g153
       have l156 := g155.1
       have o157 := o120.grow g153
       have w158 := o157.lt
       have o159 := o121.grow g153
       have w160 := o159.lt
       have o161 := o122.grow g153
       have w162 := o161.lt
       have r163 := r124.grow g153
       have r164 := r128.grow g153
       obtain rfl := r147.isL.eqn
       have u165 := r147.up
       have u166 := r147.lo
       obtain rfl := r151.isL.eqn
       have u168 := r151.up
       have u169 := r151.lo
       refine Br.intro (fun c172 => ?_) (fun c172 => ?_)
       ·have e := e.trans (cond_t c172)
        have c_172n := nf_of_t c172
        refine Lt.setN (n := 2) o159 (Nat.le_of_ble_eq_true rfl) rfl (fun H_14 hl_173 o175 k174 => ?_)
        have o175 : Own H_14 b_10 [.slice none 0 0, .slice none 0 0] := o175
        have l176 := k174.1
        have g177 := g155.keep (b := b_10) ω2 k174
        have l178 := g177.1
        have o179 := o157.keep ω2 k174
        have w180 := o179.lt
        have o181 := o161.keep ω2 k174
        have w182 := o181.lt
        have r183 := r163.keep u125 ω2 k174
        have r184 := r164.keep ω2 k174
        have r185 := r147.keep u165 ω2 k174
        have r186 := r151.keep u168 ω2 k174
        have w187 := o175.lt
        rw [fbz_x1_ret]
        refine ⟨none, 0, 0, none, 0, 0, (o175.rdN (Nat.le_of_ble_eq_true rfl)).trans rfl, ?_⟩
        rw [e] at hk
        exact hk _ _ _ _ _ _ H_14 g177 ω9 ω9
       ·have e := e.trans (cond_f c172)
        have c_172n := nt_of_f c172
        refine Lt.set o161 (Nat.le_of_ble_eq_true rfl) (fun H_15 hl_188 o190 k189 => ?_)
        have o190 : Own H_15 b95 [.slice a144 (((p_ftz q1_3 ba).1).length) e146, .slice xd q1_4.length yd] := o190
        have l191 := k189.1
        have g192 := g155.keep (b := b95) ω2 k189
        have l193 := g192.1
        have o194 := o157.keep ω2 k189
        have w195 := o194.lt
        have o196 := o159.keep ω2 k189
        have w197 := o196.lt
        have r198 := r164.keep ω2 k189
        have r199 := r147.keep u165 ω2 k189
        have r200 := r151.keep u168 ω2 k189
        have w260 := o190.lt
        refine ⟨xd, q1_4.length, yd, (o190.rdC _).trans rfl, ?_⟩
        refine Al.intro (fun b201 H_16 hb_202 hl_203 g204 o205 => ?_)
        have l207 := g204.1
        have g208 := g192.trans g204
        have l209 := g208.1
        have o210 := o194.grow g204
        have w211 := o210.lt
        have o212 := o196.grow g204
        have w213 := o212.lt
        have o214 := o190.grow g204
        have w215 := o214.lt
        have r216 := r198.grow g204
        have r217 := r199.grow g204
        have r218 := r200.grow g204
        have w259 := o205.lt
        obtain ⟨v222, q223, q224, q225⟩ := r216.ownB
        refine ⟨v222, _, q223, o205.rdAll rfl, (fun _ => by decide), ω24, ?_⟩
        refine Ap.appLL r216 ω2 r218 ω2 ω2 (fun x hx => by have := u168 x hx; have := u169 x hx; omega) q223 rfl (fun b228 H_17 q226 hl_219 o220 k221 => ?_)
        have l229 := k221.1
        have g230 := g208.keepA (fun x hx => by have := u130 x hx; omega) k221
        have l231 := g230.1
        have o232 := o210.keepA (fun x hx => by have := u130 x hx; have := u129 x hx; omega) k221
        have w233 := o232.lt
        have o234 := o212.keepA (fun x hx => by have := u130 x hx; have := u129 x hx; omega) k221
        have w235 := o234.lt
        have o236 := o214.keepA (fun x hx => by have := u130 x hx; have := u129 x hx; omega) k221
        have w237 := o236.lt
        have o238 := o205.keepA (fun x hx => by have := u130 x hx; have := u129 x hx; omega) k221
        have w239 := o238.lt
        have r240 := r217.keepA (fun x y hx hy => by have := u130 x hx; have := u129 x hx; have := u166 y hy; have := u165 y hy; omega) k221
        have w257 := o220.lt
        have v258 := o220.rng
        refine Lt.set o236 (Nat.le_of_ble_eq_true rfl) (fun H_18 hl_241 o243 k242 => ?_)
        have o243 : Own H_18 b95 [.slice a144 (((p_ftz q1_3 ba).1).length) e146, .slice (some ⟨b228, 0, none⟩) (q1_4.length + 1) 1] := o243
        have l244 := k242.1
        have g245 := g230.keep (b := b95) ω2 k242
        have l246 := g245.1
        have o247 := o232.keep ω2 k242
        have w248 := o247.lt
        have o249 := o234.keep ω2 k242
        have w250 := o249.lt
        have o251 := o238.keep ω2 k242
        have w252 := o251.lt
        have o253 := o220.keep ω2 k242
        have w254 := o253.lt
        have r255 := r240.keep u165 ω2 k242
        have w256 := o243.lt
        rw [show IntKind.wrap .i64 (t38 + 1) = (t38 + 1) from wrap64 ω2 ω2]
        refine fbz_n1 (μ - 1) ω17 ⟨_, _, _, _, _, _, _, o247, (by first | exact o249 | (have hbx := o249; (try simp only [List.length_append, List.length_cons, List.length_nil, Nat.zero_add] at hbx); (try simp only [List.length_append, List.length_cons, List.length_nil, Nat.zero_add]); exact hbx)), (r255.weak ω2), ((o253.ownLL rfl).weak ω2 ω2 (Nat.le_refl _)), (by first | exact o243 | (have hbx := o243; (try simp only [List.length_append, List.length_cons, List.length_nil, Nat.zero_add] at hbx); (try simp only [List.length_append, List.length_cons, List.length_nil, Nat.zero_add]); exact hbx)), ω2, ω2, ω2, g245, ω1, ω1, ω1, ω1, ω17, ω12⟩
      ·have e := e.trans (cond_f c143)
       have c_143' := of_decide_eq_false c143
       rw [fbz_x1_0]
       refine ⟨mf, q1_3.length, nf, xd, q1_4.length, yd, (o122.rdN (Nat.le_of_ble_eq_true rfl)).trans rfl, ?_⟩
       refine Lt.setN (n := 2) o121 (Nat.le_of_ble_eq_true rfl) rfl (fun H_19 hl_261 o263 k262 => ?_)
       have o263 : Own H_19 b_10 [.slice mf q1_3.length nf, .slice xd q1_4.length yd] := o263
       have l264 := k262.1
       have g265 := g134.keep (b := b_10) ω2 k262
       have l266 := g265.1
       have o267 := o120.keep ω2 k262
       have w268 := o267.lt
       have o269 := o122.keep ω2 k262
       have w270 := o269.lt
       have r271 := r124.keep u125 ω2 k262
       have r272 := r128.keep ω2 k262
       have w273 := o263.lt
       refine ⟨mf, q1_3.length, nf, xd, q1_4.length, yd, (o263.rdN (Nat.le_of_ble_eq_true rfl)).trans rfl, ?_⟩
       rw [e] at hk
       exact hk _ _ _ _ _ _ H_19 g265 (r271.weak ω2) (r272.weak ω2 ω2 (Nat.le_refl _))
theorem fbz_ok : FnOk Try.prog 128 S_fbz := by
 refine FnOk.body mix_ok E_fbz_ok Try.func128 rfl ω15 ω15 ?_ ?_ ?_ ?_ ?_
 ·intro args H K K' h hk
  simp only [S_fbz] at *
  unfold F_fbz at *
  split at hk
  ·obtain ⟨aa, ba, i_list, i_p_Low, bd_278, bd_279, k⟩ := hk
   exact ⟨aa, ba, i_list, i_p_Low, bd_278, bd_279, (fun mb ob nb db gb eb H' gg ow0 ow1 => h _ _ (k mb ob nb db gb eb H' gg ow0 ow1))⟩
  ·exact hk.elim
 ·intro hq; cases hq
 ·intro args H K hk
  simp only [S_fbz] at *
  unfold F_fbz at *
  split at hk
  ·obtain ⟨aa, ba, i_list, i_p_Low, bd_278, bd_279, k⟩ := hk
   exact liveSL fun a n e a2 n2 e2 H1 g o o2 => ⟨_, _, k a n e a2 n2 e2 H1 g o o2⟩
  ·exact hk.elim
 ·intro _ args H K hk
  simp only [S_fbz] at *
  unfold F_fbz at *
  split at hk
  ·obtain ⟨aa, ba, i_list, i_p_Low, bd_278, bd_279, k⟩ := hk
   exact ⟨aa, ba, i_list, i_p_Low, bd_278, bd_279, (fun mb ob nb db gb eb H' gg ow0 ow1 => ⟨gg, k mb ob nb db gb eb H' gg ow0 ow1⟩)⟩
  ·exact hk.elim
 ·have mm := @fbz_main
  have ml := fun (args : List Value) (H : AHeap) (K : Value → AHeap → Prop) => bodyL_body (P := Try.prog) (env := E_fbz ) (fn := Try.f128) (args := args) (H := H) (K := K) E_fbz_ok 
  revert mm ml
  generalize bodyK Try.prog E_fbz Try.f128 = Q
  generalize bodyL Try.prog E_fbz Try.f128 = QL
  intro mm ml args H K hk
  simp only [S_fbz] at *
  unfold F_fbz at *
  split at hk
  ·exact ml _ H K (mm _ _ _ _ _ _ _ H K hk)
  ·exact hk.elim

def p_fhz_l1 (fa : LN) (ca : List LN) : Nat → Bool → Int → Bool
 | 0, _, _ => false
 | μ + 1, t2, t36 => (bif decide ((t36 : Int) < (ca.length : Int)) then (bif (((((ca).getD (t36 : Int).toNat [])).length : Int) : Int) == 0 then false else (bif decide ((0 : Int) < t36) then (bif (IntKind.wrap .i64 (2 * (((((ca).getD (t36 : Int).toNat [])).length : Int))) : Int) != ((((ca).getD ((t36 - 1) : Int).toNat [])).length : Int) then false else (p_fhz_l1 fa ca μ t2 (t36 + 1))) else (p_fhz_l1 fa ca μ t2 (t36 + 1)))) else ((fa.length : Int) : Int) == ((((ca).getD (((ca.length : Int) - 1) : Int).toNat [])).length : Int))
def p_fhz_l1_s := fun fa ca μ t2 t36 => @p_fhz_l1.eq_2 fa ca t2 t36 μ
def p_fhz (fa : LN) (ca : List LN) : Bool := (bif !((p_f1yz (ca.length : Int) (1 : Int) (6 : Int))) then false else (bif decide ((64 : Int) < ((((ca).getD (0 : Int).toNat [])).length : Int)) then false else (bif !(p_fvz ca) then false else (bif !((p_fvz ([fa]))) then false else (p_fhz_l1 fa ca (Int.toNat ((ca.length : Int) - (0 : Int)) + 1) false (0 : Int))))))
def p_fhz_eq := @p_fhz.eq_1
def T_fhz (ta : OA) (xa : Nat) (va : Nat) (qa : OA) (ua : Nat) (sa : Nat) (H : AHeap) (K : Bool → AHeap → Prop) : Prop := ∃ (fa : LN), ∃ (ca : List LN), IsL fF H ta xa fa ∧ IsLL fF H qa ua ca ∧ fa.length < 1073741824 ∧ ca.length < 1073741824 ∧ (∀ y ∈ ca, y.length < 1073741824) ∧ ((∀ H' : AHeap, Grow H H' → K (p_fhz fa ca) H'))
theorem T_fhz_i {ta : OA} {xa : Nat} {va : Nat} {qa : OA} {ua : Nat} {sa : Nat} {H : AHeap} {K : Bool → AHeap → Prop} (h : ∃ (fa : LN), ∃ (ca : List LN), IsL fF H ta xa fa ∧ IsLL fF H qa ua ca ∧ fa.length < 1073741824 ∧ ca.length < 1073741824 ∧ (∀ y ∈ ca, y.length < 1073741824) ∧ ((∀ H' : AHeap, Grow H H' → K (p_fhz fa ca) H'))) : T_fhz ta xa va qa ua sa H K := h
theorem fhz_t {a : LN} {ds : List LN} (h : p_fhz a ds = true) : 1 ≤ ds.length ∧ ds.length ≤ 6 ∧ 1 ≤ (ds.getD (0 : Int).toNat []).length ∧ (ds.getD (0 : Int).toNat []).length ≤ 64 := by
 rw [p_fhz_eq] at h
 cases hw : p_f1yz (ds.length : Int) 1 6
 ·rw [hw] at h; cases h
 ·have hn := f1yz_t hw
  rw [hw, Bool.not_true, cond_false] at h
  by_cases h3 : (64 : Int) < ((ds.getD (0 : Int).toNat []).length : Int)
  ·rw [decide_eq_true h3] at h; cases h
  ·rw [decide_eq_false h3, cond_false] at h
   cases h4 : p_fvz ds
   ·rw [h4] at h; cases h
   ·cases h5 : p_fvz [a]
    ·rw [h4, h5] at h; cases h
    ·rw [h4, h5, Bool.not_true, cond_false, cond_false] at h
     rw [p_fhz_l1_s, decide_eq_true (show (0 : Int) < (ds.length : Int) by omega), cond_true] at h
     by_cases h6 : (ds.getD (0 : Int).toNat []).length = 0
     ·rw [show (((ds.getD (0 : Int).toNat []).length : Int) == 0) = true by rw [h6]; rfl] at h; cases h
     ·exact ⟨by omega, by omega, by omega, by omega⟩
/-! fhz: function 116 -/
def E_fhz : Env := envOf [(96, S_f1yz), (166, S_fvz)]
def F_fhz : List Value → AHeap → (Value → AHeap → Prop) → Prop
 | [.agg ⟨[.slice ta xa va, .slice qa ua sa]⟩], H, K => T_fhz ta xa va qa ua sa H fun (r1 : Bool) (H' : AHeap) => K (.bool r1) H'
 | _, _, _ => False
def S_fhz : FSpec := { F := F_fhz, quiet := false, tame := true }
theorem fhz_vc (ta : OA) (xa : Nat) (va : Nat) (qa : OA) (ua : Nat) (sa : Nat) (H : AHeap) (K : Value → AHeap → Prop) : bodyL Try.prog E_fhz Try.f116 [.agg #[.slice ta xa va, .slice qa ua sa]] H K =
 (Al [.slice ta xa va, .slice qa ua sa] H fun b1 H1 => ∃ sc : OA, ∃ bb : Nat, ∃ tc : Nat,  rdC H1 b1 1 = some (.slice sc bb tc) ∧ T_f1yz (bb : Int) 1 6 H1 fun (r1 : Bool) (H2 : AHeap) => Br (!r1) (K (.bool false) H2) (∃ oe : OA, ∃ je : Nat, ∃ te : Nat,  rdC H2 b1 1 = some (.slice oe je te) ∧ (0 : Int) ≤ 0 ∧ 0 < (je : Int) ∧ ∃ b2 f1, (oe : OA) = some ⟨b2, f1, none⟩ ∧ ∃ re : OA, ∃ zd : Nat, ∃ ue : Nat,  rdC H2 b2 (f1 + (0 : Int).toNat * 1) = some (.slice re zd ue) ∧ Br (decide ((64 : Int) < (zd : Int))) (K (.bool false) H2) (∃ xg : OA, ∃ yg : Nat, ∃ zg : Nat,  rdC H2 b1 1 = some (.slice xg yg zg) ∧ T_fvz xg yg zg H2 fun (r2 : Bool) (H3 : AHeap) => Br (!r2) (K (.bool false) H3) (∃ mh : OA, ∃ tf : Nat, ∃ di : Nat,  rdC H3 b1 0 = some (.slice mh tf di) ∧ Al [.slice mh tf di] H3 fun b3 H4 => T_fvz (some ⟨b3, 0, none⟩) 1 1 H4 fun (r3 : Bool) (H5 : AHeap) => Br (!r3) (K (.bool false) H5) (∃ df : OA, ∃ se : Nat, ∃ uf : Nat,  rdC H5 b1 1 = some (.slice df se uf) ∧ loopK (exL Try.prog E_fhz (cl (cl (cr (cl (cr (cr (cr (bodyC Try.f116)))))))) 120259084298 4 [(0, 10)]) (ud :: .pointer (some ⟨b1, 0, none⟩) :: ud :: .int .i64 (bb : Int) :: ud30 (.slice df se uf :: .int .i64 (se : Int) :: .int .i64 0 :: ud36 [])) H5 (blockQ 0 (seqQ (exL Try.prog E_fhz (cr (cr (cr (cr (bodyC Try.f116))))) 4 4 []) (retK Try.prog Try.f116 K)))))))) := by kernel_rfl
abbrev fhz_P1 (b1 : Nat) (bb : Nat) (df : OA) (uf : Nat) (se : Nat) (t36 : Int)  : List Value := (ud :: .pointer (some ⟨b1, 0, none⟩) :: ud :: .int .i64 (bb : Int) :: ud30 (.slice df se uf :: .int .i64 (se : Int) :: .int .i64 t36 :: ud36 []))
theorem fhz_r1 (b1 : Nat) (bb : Nat) (df : OA) (uf : Nat) (se : Nat) (t36 : Int)  (H : AHeap) (R : Post) : exL Try.prog E_fhz (cl (cl (cr (cl (cr (cr (cr (bodyC Try.f116)))))))) 120259084298 4 [(0, 10)] (fhz_P1 b1 bb df uf se t36) H R =
 (Br (decide ((t36 : Int) < (se : Int))) ((0 : Int) ≤ t36 ∧ t36 < (se : Int) ∧ ∃ b4 f2, (df : OA) = some ⟨b4, f2, none⟩ ∧ ∃ ii : OA, ∃ nh : Nat, ∃ ji : Nat,  rdC H b4 (f2 + (t36 : Int).toNat * 1) = some (.slice ii nh ji) ∧ Br (((nh : Int) : Int) == 0) (R .ret (ud2 (.bool false :: ud70 [])) H) (Br (decide ((0 : Int) < t36)) (∃ qi : OA, ∃ ri : Nat, ∃ dj : Nat,  rdC H b1 1 = some (.slice qi ri dj) ∧ (0 : Int) ≤ IntKind.wrap .i64 (t36 - 1) ∧ IntKind.wrap .i64 (t36 - 1) < (ri : Int) ∧ ∃ b5 f3, (qi : OA) = some ⟨b5, f3, none⟩ ∧ ∃ ti : OA, ∃ si : Nat, ∃ ui : Nat,  rdC H b5 (f3 + (IntKind.wrap .i64 (t36 - 1) : Int).toNat * 1) = some (.slice ti si ui) ∧ Br ((IntKind.wrap .i64 (2 * (nh : Int)) : Int) != (si : Int)) (R .ret (ud2 (.bool false :: ud70 [])) H) (R .normal (ud :: .pointer (some ⟨b1, 0, none⟩) :: ud :: .int .i64 (bb : Int) :: ud30 (.slice df se uf :: .int .i64 (se : Int) :: .int .i64 (IntKind.wrap .i64 (t36 + 1)) :: ud36 [])) H)) (R .normal (ud :: .pointer (some ⟨b1, 0, none⟩) :: ud :: .int .i64 (bb : Int) :: ud30 (.slice df se uf :: .int .i64 (se : Int) :: .int .i64 (IntKind.wrap .i64 (t36 + 1)) :: ud36 [])) H))) (R (.exit 0) (ud :: .pointer (some ⟨b1, 0, none⟩) :: ud :: .int .i64 (bb : Int) :: ud69 []) H)) := by kernel_rfl
def fhz_I1 (b1 : Nat) (bb : Nat) (df : OA) (uf : Nat) (se : Nat) (Inv : Nat → Int → AHeap → Prop) : Nat → List Value → AHeap → Prop := fun μ tm H => ∃ (t36 : Int), tm = (fhz_P1 b1 bb df uf se t36) ∧ Inv μ t36 H
theorem fhz_L1 (b1 : Nat) (bb : Nat) (df : OA) (uf : Nat) (se : Nat) {Q : Post} (Inv : Nat → Int → AHeap → Prop) (ν : Nat) (t36 : Int)  (H : AHeap) (h0 : Inv ν t36 H)
  (hs : ∀ (μ : Nat) (t36 : Int)  (H : AHeap), Inv μ t36 H → exL Try.prog E_fhz (cl (cl (cr (cl (cr (cr (cr (bodyC Try.f116)))))))) 120259084298 4 [(0, 10)] (fhz_P1 b1 bb df uf se t36) H (loopQ (fhz_I1 b1 bb df uf se Inv) μ Q)) : loopK (exL Try.prog E_fhz (cl (cl (cr (cl (cr (cr (cr (bodyC Try.f116)))))))) 120259084298 4 [(0, 10)]) (fhz_P1 b1 bb df uf se t36) H Q :=
 ⟨fhz_I1 b1 bb df uf se Inv, ν, ⟨t36, rfl, h0⟩, fun μ tm H h => by obtain ⟨t36, rfl, hI⟩ := h; exact hs μ t36  H hI⟩
theorem fhz_n1 {b1 : Nat} {bb : Nat} {df : OA} {uf : Nat} {se : Nat} {Q : Post} {Inv : Nat → Int → AHeap → Prop} {μ : Nat} (μ' : Nat) {t36 : Int}  {H : AHeap} (hm : μ' < μ) (hI : Inv μ' t36 H) : loopQ (fhz_I1 b1 bb df uf se Inv) μ Q .normal (fhz_P1 b1 bb df uf se t36) H := ⟨μ', hm, t36, rfl, hI⟩
theorem fhz_x1_0 (b1 : Nat) (bb : Nat) (H : AHeap) (K : Value → AHeap → Prop)  {I : Nat → List Value → AHeap → Prop} {μ : Nat} : loopQ I μ (blockQ 0 (seqQ (exL Try.prog E_fhz (cr (cr (cr (cr (bodyC Try.f116))))) 4 4 []) (retK Try.prog Try.f116 K))) (.exit 0) (ud :: .pointer (some ⟨b1, 0, none⟩) :: ud :: .int .i64 (bb : Int) :: ud69 []) H =
 (∃ ei : OA, ∃ yh : Nat, ∃ ni : Nat,  rdC H b1 0 = some (.slice ei yh ni) ∧ ∃ fi : OA, ∃ zh : Nat, ∃ oi : Nat,  rdC H b1 1 = some (.slice fi zh oi) ∧ (0 : Int) ≤ IntKind.wrap .i64 ((bb : Int) - 1) ∧ IntKind.wrap .i64 ((bb : Int) - 1) < (zh : Int) ∧ ∃ b6 f4, (fi : OA) = some ⟨b6, f4, none⟩ ∧ ∃ gi : OA, ∃ ai : Nat, ∃ pi : Nat,  rdC H b6 (f4 + (IntKind.wrap .i64 ((bb : Int) - 1) : Int).toNat * 1) = some (.slice gi ai pi) ∧ K (.bool (((yh : Int) : Int) == (ai : Int))) H) := by kernel_rfl
theorem fhz_x1_ret (t2 : Bool) (H : AHeap) (K : Value → AHeap → Prop)  {I : Nat → List Value → AHeap → Prop} {μ : Nat} : loopQ I μ (blockQ 0 (seqQ (exL Try.prog E_fhz (cr (cr (cr (cr (bodyC Try.f116))))) 4 4 []) (retK Try.prog Try.f116 K))) .ret (ud2 (.bool t2 :: ud70 [])) H =
 (K (.bool t2) H) := by kernel_rfl
theorem E_fhz_ok : ∀ g, FnOk Try.prog g (E_fhz g) := FnOk.envOf (by
 intro x hx
 simp only [List.mem_cons, List.not_mem_nil, or_false] at hx
 rcases hx with rfl | rfl
 ·exact f1yz_ok
 ·exact fvz_ok)
theorem fhz_main (ta : OA) (xa : Nat) (va : Nat) (qa : OA) (ua : Nat) (sa : Nat) (H : AHeap) (K : Value → AHeap → Prop) (h : T_fhz ta xa va qa ua sa H fun (r1 : Bool) (H' : AHeap) => K (.bool r1) H') : bodyL Try.prog E_fhz Try.f116 [.agg #[.slice ta xa va, .slice qa ua sa]] H K := by
 rw [fhz_vc]
 obtain ⟨fa, ca, i_b_Coarse, i_b_Details, bd_72, bd_73, bb_l_b_Details, hk⟩ := h
 obtain rfl := i_b_Coarse.eqn
 obtain rfl := i_b_Details.eqn
 have e : (p_fhz fa ca) = _ := rfl
 have e := e.trans (p_fhz_eq fa ca)
 have g0 := Grow.refl H
 refine Al.intro (fun b_1 H_1 hb_2 hl_3 g_4 o_5 => ?_)
 have l7 := g_4.1
 have g8 := g0.trans g_4
 have l9 := g8.1
 have w71 := o_5.lt
 refine ⟨qa, ca.length, sa, (o_5.rdC _).trans rfl, ?_⟩
 refine T_f1yz_i ?_
 refine Br.intro (fun c10 => ?_) (fun c10 => ?_)
 ·have e := e.trans (cond_t c10)
  have c_10n := nf_of_t c10
  rw [e] at hk
  exact hk  H_1 g8 
 ·have e := e.trans (cond_f c10)
  have c_10n := nt_of_f c10
  have c_10n' := f1yz_t c_10n
  refine ⟨qa, ca.length, sa, (o_5.rdC _).trans rfl, ?_⟩
  obtain ⟨b_11, f_12, q13⟩ := ((i_b_Details.grow g8)).pos ω0
  refine ⟨by omega, by omega, b_11, f_12, q13, ?_⟩
  obtain ⟨a14, n15, e16, r_17, i18⟩ := (i_b_Details).rd (i := (0 : Int).toNat) g8 q13 ω2
  obtain rfl := i18.eqn
  refine ⟨a14, _, e16, r_17, ?_⟩
  have z19 := getD_len bb_l_b_Details (0 : Int).toNat
  refine Br.intro (fun c20 => ?_) (fun c20 => ?_)
  ·have e := e.trans (cond_t c20)
   have c_20' := of_decide_eq_true c20
   rw [e] at hk
   exact hk  H_1 g8 
  ·have e := e.trans (cond_f c20)
   have c_20' := of_decide_eq_false c20
   refine ⟨qa, ca.length, sa, (o_5.rdC _).trans rfl, ?_⟩
   refine T_fvz_i ⟨ca, (i_b_Details.grow g8), ω0, ω6, ?_⟩
   refine Br.intro (fun c21 => ?_) (fun c21 => ?_)
   ·have e := e.trans (cond_t c21)
    have c_21n := nf_of_t c21
    rw [e] at hk
    exact hk  H_1 g8 
   ·have e := e.trans (cond_f c21)
    have c_21n := nt_of_f c21
    refine ⟨ta, fa.length, va, (o_5.rdC _).trans rfl, ?_⟩
    refine Al.intro (fun b22 H_2 hb_23 hl_24 g25 o26 => ?_)
    have l28 := g25.1
    have g29 := g8.trans g25
    have l30 := g29.1
    have o31 := o_5.grow g25
    have w32 := o31.lt
    have w70 := o26.lt
    refine T_fvz_i ⟨[fa], ⟨_, o26.rdAll rfl, LLc.cons (i_b_Coarse.grow g29) (LLc.nil _ _)⟩, ω0, ω6, ?_⟩
    refine Br.intro (fun c33 => ?_) (fun c33 => ?_)
    ·have e := e.trans (cond_t c33)
     have c_33n := nf_of_t c33
     rw [e] at hk
     exact hk  H_2 g29 
    ·have e := e.trans (cond_f c33)
     have c_33n := nt_of_f c33
     refine ⟨qa, ca.length, sa, (o31.rdC _).trans rfl, ?_⟩
     refine fhz_L1 _ _ _ _ _ (fun (μ : Nat) (t36 : Int) (H_3 : AHeap) => ∃ (t2 : Bool), H_2 = H_3 ∧ (0 : Int) ≤ t36 ∧ t36 ≤ (ca.length : Int) ∧ (ca.length : Int) - t36 ≤ (μ : Int) ∧ p_fhz fa ca = p_fhz_l1 fa ca (μ + 1) t2 t36) (Int.toNat ((ca.length : Int) - (0 : Int))) _ H_2 ?_ ?_
     ·exact ⟨_, rfl, ω7, ω7, ω2, e⟩
     ·intro μ t36  H_3 hI
      obtain ⟨t2, rfl, v34, v35, hμ, e⟩ := hI
      rw [fhz_r1]
      have e := e.trans (p_fhz_l1_s fa ca μ t2 t36)
      have w36 := o31.lt
      have w37 := o26.lt
      have l38 := g29.1
      refine Br.intro (fun c39 => ?_) (fun c39 => ?_)
      ·have e := e.trans (cond_t c39)
       have c_39' := of_decide_eq_true c39
       obtain ⟨b40, f_41, q42⟩ := ((i_b_Details.grow g29)).pos ω0
       refine ⟨by omega, by omega, b40, f_41, q42, ?_⟩
       obtain ⟨a43, n44, e45, r46, i47⟩ := (i_b_Details).rd (i := (t36 : Int).toNat) g29 q42 ω2
       obtain rfl := i47.eqn
       refine ⟨a43, _, e45, r46, ?_⟩
       have z48 := getD_len bb_l_b_Details (t36 : Int).toNat
       refine Br.intro (fun c49 => ?_) (fun c49 => ?_)
       ·have e := e.trans (cond_t c49)
        have c_49' := ieq_t c49
        rw [fhz_x1_ret]
        rw [e] at hk
        exact hk  H_2 g29 
       ·have e := e.trans (cond_f c49)
        have c_49' := ieq_f c49
        refine Br.intro (fun c50 => ?_) (fun c50 => ?_)
        ·have e := e.trans (cond_t c50)
         have c_50' := of_decide_eq_true c50
         refine ⟨qa, ca.length, sa, (o31.rdC _).trans rfl, ?_⟩
         rw [show IntKind.wrap .i64 (t36 - 1) = (t36 - 1) from wrap64 ω2 ω2]
         obtain ⟨b51, f52, q53⟩ := ((i_b_Details.grow g29)).pos ω0
         refine ⟨by omega, by omega, b51, f52, q53, ?_⟩
         obtain ⟨a54, n55, e56, r57, i58⟩ := (i_b_Details).rd (i := ((t36 - 1) : Int).toNat) g29 q53 ω2
         obtain rfl := i58.eqn
         refine ⟨a54, _, e56, r57, ?_⟩
         have z59 := getD_len bb_l_b_Details ((t36 - 1) : Int).toNat
         refine Br.intro (fun c60 => ?_) (fun c60 => ?_)
         ·have e := e.trans (cond_t c60)
          have c_60' := ine_t c60
          rw [fhz_x1_ret]
          rw [e] at hk
          exact hk  H_2 g29 
         ·have e := e.trans (cond_f c60)
          have c_60' := ine_f c60
          rw [show IntKind.wrap .i64 (t36 + 1) = (t36 + 1) from wrap64 ω2 ω2]
          refine fhz_n1 (μ - 1) ω17 ⟨_, rfl, ω1, ω1, ω17, ω12⟩
        ·have e := e.trans (cond_f c50)
         have c_50' := of_decide_eq_false c50
         rw [show IntKind.wrap .i64 (t36 + 1) = (t36 + 1) from wrap64 ω2 ω2]
         refine fhz_n1 (μ - 1) ω17 ⟨_, rfl, ω1, ω1, ω17, ω12⟩
      ·have e := e.trans (cond_f c39)
       have c_39' := of_decide_eq_false c39
       rw [fhz_x1_0]
       refine ⟨ta, fa.length, va, (o31.rdC _).trans rfl, ?_⟩
       refine ⟨qa, ca.length, sa, (o31.rdC _).trans rfl, ?_⟩
       rw [show IntKind.wrap .i64 ((ca.length : Int) - 1) = ((ca.length : Int) - 1) from wrap64 ω2 ω2]
       obtain ⟨b61, f62, q63⟩ := ((i_b_Details.grow g29)).pos ω0
       refine ⟨by omega, by omega, b61, f62, q63, ?_⟩
       obtain ⟨a64, n65, e66, r67, i68⟩ := (i_b_Details).rd (i := (((ca.length : Int) - 1) : Int).toNat) g29 q63 ω2
       obtain rfl := i68.eqn
       refine ⟨a64, _, e66, r67, ?_⟩
       have z69 := getD_len bb_l_b_Details (((ca.length : Int) - 1) : Int).toNat
       rw [e] at hk
       exact hk  H_2 g29 
theorem fhz_ok : FnOk Try.prog 116 S_fhz := by
 refine FnOk.body mix_ok E_fhz_ok Try.func116 rfl ω15 ω15 ?_ ?_ ?_ ?_ ?_
 ·intro args H K K' h hk
  simp only [S_fhz] at *
  unfold F_fhz at *
  split at hk
  ·obtain ⟨fa, ca, i_b_Coarse, i_b_Details, bd_72, bd_73, bb_l_b_Details, k⟩ := hk
   exact ⟨fa, ca, i_b_Coarse, i_b_Details, bd_72, bd_73, bb_l_b_Details, (fun  H' gg  => h _ _ (k  H' gg ))⟩
  ·exact hk.elim
 ·intro hq; cases hq
 ·intro args H K hk
  simp only [S_fhz] at *
  unfold F_fhz at *
  split at hk
  ·obtain ⟨fa, ca, i_b_Coarse, i_b_Details, bd_72, bd_73, bb_l_b_Details, k⟩ := hk
   exact ⟨_, _, k H (Grow.refl H)⟩
  ·exact hk.elim
 ·intro _ args H K hk
  simp only [S_fhz] at *
  unfold F_fhz at *
  split at hk
  ·obtain ⟨fa, ca, i_b_Coarse, i_b_Details, bd_72, bd_73, bb_l_b_Details, k⟩ := hk
   exact ⟨fa, ca, i_b_Coarse, i_b_Details, bd_72, bd_73, bb_l_b_Details, (fun  H' gg  => ⟨gg, k  H' gg ⟩)⟩
  ·exact hk.elim
 ·have mm := @fhz_main
  have ml := fun (args : List Value) (H : AHeap) (K : Value → AHeap → Prop) => bodyL_body (P := Try.prog) (env := E_fhz ) (fn := Try.f116) (args := args) (H := H) (K := K) E_fhz_ok 
  revert mm ml
  generalize bodyK Try.prog E_fhz Try.f116 = Q
  generalize bodyL Try.prog E_fhz Try.f116 = QL
  intro mm ml args H K hk
  simp only [S_fhz] at *
  unfold F_fhz at *
  split at hk
  ·exact ml _ H K (mm _ _ _ _ _ _ H K hk)
  ·exact hk.elim

def p_f23z_l1 (aa : LN) : Nat → LN → Int → LN
 | 0, _, _ => []
 | μ + 1, lb, t9 => (bif decide ((t9 : Int) < (aa.length : Int)) then (p_f23z_l1 aa μ ((lb ++ [((p_f26z (((aa).getD (t9 : Int).toNat 0))))])) (t9 + 1)) else lb)
def p_f23z_l1_s := fun aa μ lb t9 => @p_f23z_l1.eq_2 aa lb t9 μ
def p_f23z (aa : LN) : LN := (p_f23z_l1 aa (Int.toNat ((aa.length : Int) - (0 : Int)) + 1) ([] : LN) (0 : Int))
def p_f23z_eq := @p_f23z.eq_1
def T_f23z (ea : OA) (da : Nat) (ga : Nat) (H : AHeap) (K : OA → Nat → Nat → AHeap → Prop) : Prop := ∃ (aa : LN), IsL fF H ea da aa ∧ aa.length < 1073741824 ∧ ((∀ (ib : OA) (kb jb : Nat), ∀ H' : AHeap, Grow H H' → OwnS fF H' H.length ib kb jb (p_f23z aa) → K ib kb jb H'))
theorem T_f23z_i {ea : OA} {da : Nat} {ga : Nat} {H : AHeap} {K : OA → Nat → Nat → AHeap → Prop} (h : ∃ (aa : LN), IsL fF H ea da aa ∧ aa.length < 1073741824 ∧ ((∀ (ib : OA) (kb jb : Nat), ∀ H' : AHeap, Grow H H' → OwnS fF H' H.length ib kb jb (p_f23z aa) → K ib kb jb H'))) : T_f23z ea da ga H K := h
theorem f23z_go (l : LN) : ∀ (μ : Nat) (o : LN) (i : Nat), l.length - i < μ → p_f23z_l1 l μ o (i : Int) = o ++ (l.drop i).map p_f26z := by
 intro μ
 induction μ with
 | zero => intro o i h; omega
 | succ μ ih =>
  intro o i hm
  rw [p_f23z_l1_s]
  by_cases h : i < l.length
  ·rw [decide_eq_true (show (i : Int) < (l.length : Int) by omega), cond_true, Int.toNat_natCast]
   refine Eq.trans (ih _ (i + 1) ω2) ?_
   rw [List.drop_eq_getElem_cons h, List.map_cons, List.getD_eq_getElem?_getD, List.getElem?_eq_getElem h]
   simp
  ·rw [decide_eq_false (show ¬ (i : Int) < (l.length : Int) by omega), cond_false, List.drop_eq_nil_of_le ω2]; simp
theorem f23z_map (l : LN) : p_f23z l = l.map p_f26z := by
 rw [p_f23z_eq]
 have := f23z_go l (Int.toNat ((l.length : Int) - (0 : Int)) + 1) [] 0 ω2
 simpa using this
theorem f23z_len (l : LN) : (p_f23z l).length = l.length := by rw [f23z_map]; simp
/-! f23z: function 119 -/
def E_f23z : Env := envOf [(150, S_f26z)]
def F_f23z : List Value → AHeap → (Value → AHeap → Prop) → Prop
 | [.slice ea da ga], H, K => T_f23z ea da ga H fun (ib : OA) (kb : Nat) (jb : Nat) (H' : AHeap) => K (.slice ib kb jb) H'
 | _, _, _ => False
def S_f23z : FSpec := { F := F_f23z, quiet := false, tame := true }
theorem f23z_vc (ea : OA) (da : Nat) (ga : Nat) (H : AHeap) (K : Value → AHeap → Prop) : bodyL Try.prog E_f23z Try.f119 [.slice ea da ga] H K =
 (Al [] H fun b1 H1 => loopK (exL Try.prog E_f23z (cl (cl (cr (cl (cr (cr (bodyC Try.f119))))))) 904 4 [(0, 8)]) (ud3 (.slice (some ⟨b1, 0, none⟩) 0 1 :: ud3 (.slice ea da ga :: .int .i64 (da : Int) :: .int .i64 0 :: ud10 []))) H1 (blockQ 0 (seqQ (exL Try.prog E_f23z (cr (cr (cr (bodyC Try.f119)))) 4 4 []) (retK Try.prog Try.f119 K)))) := by kernel_rfl
abbrev f23z_P1 (ea : OA) (ga : Nat) (da : Nat) (oa : OA) (na : Nat) (pa : Nat) (t9 : Int)  : List Value := (ud3 (.slice oa na pa :: ud3 (.slice ea da ga :: .int .i64 (da : Int) :: .int .i64 t9 :: ud10 [])))
theorem f23z_r1 (ea : OA) (ga : Nat) (da : Nat) (oa : OA) (na : Nat) (pa : Nat) (t9 : Int)  (H : AHeap) (R : Post) : exL Try.prog E_f23z (cl (cl (cr (cl (cr (cr (bodyC Try.f119))))))) 904 4 [(0, 8)] (f23z_P1 ea ga da oa na pa t9) H R =
 (Br (decide ((t9 : Int) < (da : Int))) ((0 : Int) ≤ t9 ∧ t9 < (da : Int) ∧ ∃ b2 f1, (ea : OA) = some ⟨b2, f1, none⟩ ∧ ∃ x1 : Nat,  rdC H b2 (f1 + (t9 : Int).toNat * 1) = some (.float .f32 x1) ∧ T_f26z x1 H fun (r1 : Nat) (H2 : AHeap) => Al [.float .f32 r1] H2 fun b3 H3 => ∃ o1 w1 : List Value, ownB H3 oa na pa 1 = some o1 ∧ rdS H3 (some ⟨b3, 0, none⟩) (1 * 1) = some w1 ∧ ((oa : OA) = none → 0 < (1 : Nat)) ∧ (na : Nat) + 1 < most ∧ Ap H3 (killB H3 oa ++ [some ⟨o1 ++ w1, true⟩]) fun b4 H4 => R .normal (ud3 (.slice (some ⟨b4, 0, none⟩) (na + 1) 1 :: ud3 (.slice ea da ga :: .int .i64 (da : Int) :: .int .i64 (IntKind.wrap .i64 (t9 + 1)) :: ud10 []))) H4) (R (.exit 0) (ud3 (.slice oa na pa :: ud16 [])) H)) := by kernel_rfl
def f23z_I1 (ea : OA) (ga : Nat) (da : Nat) (Inv : Nat → OA → Nat → Nat → Int → AHeap → Prop) : Nat → List Value → AHeap → Prop := fun μ tm H => ∃ (oa : OA), ∃ (na : Nat), ∃ (pa : Nat), ∃ (t9 : Int), tm = (f23z_P1 ea ga da oa na pa t9) ∧ Inv μ oa na pa t9 H
theorem f23z_L1 (ea : OA) (ga : Nat) (da : Nat) {Q : Post} (Inv : Nat → OA → Nat → Nat → Int → AHeap → Prop) (ν : Nat) (oa : OA) (na : Nat) (pa : Nat) (t9 : Int)  (H : AHeap) (h0 : Inv ν oa na pa t9 H)
  (hs : ∀ (μ : Nat) (oa : OA) (na : Nat) (pa : Nat) (t9 : Int)  (H : AHeap), Inv μ oa na pa t9 H → exL Try.prog E_f23z (cl (cl (cr (cl (cr (cr (bodyC Try.f119))))))) 904 4 [(0, 8)] (f23z_P1 ea ga da oa na pa t9) H (loopQ (f23z_I1 ea ga da Inv) μ Q)) : loopK (exL Try.prog E_f23z (cl (cl (cr (cl (cr (cr (bodyC Try.f119))))))) 904 4 [(0, 8)]) (f23z_P1 ea ga da oa na pa t9) H Q :=
 ⟨f23z_I1 ea ga da Inv, ν, ⟨oa, na, pa, t9, rfl, h0⟩, fun μ tm H h => by obtain ⟨oa, na, pa, t9, rfl, hI⟩ := h; exact hs μ oa na pa t9  H hI⟩
theorem f23z_n1 {ea : OA} {ga : Nat} {da : Nat} {Q : Post} {Inv : Nat → OA → Nat → Nat → Int → AHeap → Prop} {μ : Nat} (μ' : Nat) {oa : OA} {na : Nat} {pa : Nat} {t9 : Int}  {H : AHeap} (hm : μ' < μ) (hI : Inv μ' oa na pa t9 H) : loopQ (f23z_I1 ea ga da Inv) μ Q .normal (f23z_P1 ea ga da oa na pa t9) H := ⟨μ', hm, oa, na, pa, t9, rfl, hI⟩
theorem f23z_x1_0 (oa : OA) (na : Nat) (pa : Nat) (H : AHeap) (K : Value → AHeap → Prop)  {I : Nat → List Value → AHeap → Prop} {μ : Nat} : loopQ I μ (blockQ 0 (seqQ (exL Try.prog E_f23z (cr (cr (cr (bodyC Try.f119)))) 4 4 []) (retK Try.prog Try.f119 K))) (.exit 0) (ud3 (.slice oa na pa :: ud16 [])) H =
 (K (.slice oa na pa) H) := by kernel_rfl
theorem E_f23z_ok : ∀ g, FnOk Try.prog g (E_f23z g) := FnOk.envOf (by
 intro x hx
 simp only [List.mem_cons, List.not_mem_nil, or_false] at hx
 subst hx; exact f26z_ok)
theorem f23z_main (ea : OA) (da : Nat) (ga : Nat) (H : AHeap) (K : Value → AHeap → Prop) (h : T_f23z ea da ga H fun (ib : OA) (kb : Nat) (jb : Nat) (H' : AHeap) => K (.slice ib kb jb) H') : bodyL Try.prog E_f23z Try.f119 [.slice ea da ga] H K := by
 rw [f23z_vc]
 obtain ⟨aa, i_list, bd_48, hk⟩ := h
 obtain rfl := i_list.eqn
 have e : (p_f23z aa) = _ := rfl
 have e := e.trans (p_f23z_eq aa)
 have g0 := Grow.refl H
 refine Al.intro (fun b_1 H_1 hb_2 hl_3 g_4 o_5 => ?_)
 have o_5 : Own H_1 b_1 ((([] : LN)).map fF) := o_5
 have l7 := g_4.1
 have g8 := g0.trans g_4
 have l9 := g8.1
 have w47 := o_5.lt
 refine f23z_L1 _ _ _ (fun (μ : Nat) (oa : OA) (na : Nat) (pa : Nat) (t9 : Int) (H_2 : AHeap) => ∃ (lb : LN), ∃ (b_10 : Nat), oa = some ⟨b_10, 0, none⟩ ∧ na = lb.length ∧ pa = 1 ∧ Own H_2 b_10 (lb.map fF) ∧ Grow H H_2 ∧ H.length ≤ b_10 ∧ (0 : Int) ≤ t9 ∧ t9 ≤ (aa.length : Int) ∧ (lb.length : Int) ≤ t9 - (0 : Int) + 0 ∧ (aa.length : Int) - t9 ≤ (μ : Int) ∧ p_f23z aa = p_f23z_l1 aa (μ + 1) lb t9) (Int.toNat ((aa.length : Int) - (0 : Int))) _ _ _ _ H_1 ?_ ?_
 ·exact ⟨_, _, rfl, ω10, rfl, o_5, g8, ω2, ω7, ω7, ω7, ω2, e⟩
 ·intro μ oa na pa t9  H_2 hI
  obtain ⟨lb, b_10, rfl, rfl, rfl, o11, g12, l13, v14, v15, v16, hμ, e⟩ := hI
  rw [f23z_r1]
  have e := e.trans (p_f23z_l1_s aa μ lb t9)
  have w17 := o11.lt
  have l18 := g12.1
  refine Br.intro (fun c19 => ?_) (fun c19 => ?_)
  ·have e := e.trans (cond_t c19)
   have c_19' := of_decide_eq_true c19
   obtain ⟨b20, f21, q22⟩ := ((i_list.grow g12)).pos ω0
   refine ⟨by omega, by omega, b20, f21, q22, ?_⟩
   refine ⟨((aa).getD (t9 : Int).toNat 0), (i_list).rd g12 q22 ω2 _, ?_⟩
   refine T_f26z_i ?_
   refine Al.intro (fun b23 H_3 hb_24 hl_25 g26 o27 => ?_)
   have o27 : Own H_3 b23 (([((p_f26z (((aa).getD (t9 : Int).toNat 0))))]).map fF) := o27
   have l29 := g26.1
   have g30 := g12.trans g26
   have l31 := g30.1
   have o32 := o11.grow g26
   have w33 := o32.lt
   have w46 := o27.lt
   refine ⟨_, _, o32.ownB ω5 rfl, (isl_rdS (o27.isL ω10)), (fun h => by cases h), ω24, ?_⟩
   refine Ap.app o32 rfl rfl (fun b38 H_4 q44 hl_34 o35 k36 => ?_)
   have o35 := map_snoc o35
   have l39 := k36.1
   have g40 := g30.keep (b := b_10) ω2 k36
   have l41 := g40.1
   have o42 := o27.keep ω2 k36
   have w43 := o42.lt
   have w45 := o35.lt
   rw [show IntKind.wrap .i64 (t9 + 1) = (t9 + 1) from wrap64 ω2 ω2]
   refine f23z_n1 (μ - 1) ω17 ⟨_, _, rfl, ω8, rfl, o35, g40, ω2, ω1, ω1, ω1, ω17, ω12⟩
  ·have e := e.trans (cond_f c19)
   have c_19' := of_decide_eq_false c19
   rw [f23z_x1_0]
   rw [e] at hk
   exact hk _ _ _ H_2 g12 (o11.ownS ω10 ω2)
theorem f23z_ok : FnOk Try.prog 119 S_f23z := by
 refine FnOk.body mix_ok E_f23z_ok Try.func119 rfl ω15 ω15 ?_ ?_ ?_ ?_ ?_
 ·intro args H K K' h hk
  simp only [S_f23z] at *
  unfold F_f23z at *
  split at hk
  ·obtain ⟨aa, i_list, bd_48, k⟩ := hk
   exact ⟨aa, i_list, bd_48, (fun ib kb jb H' gg ow0 => h _ _ (k ib kb jb H' gg ow0))⟩
  ·exact hk.elim
 ·intro hq; cases hq
 ·intro args H K hk
  simp only [S_f23z] at *
  unfold F_f23z at *
  split at hk
  ·obtain ⟨aa, i_list, bd_48, k⟩ := hk
   exact liveS fun a n e H1 g o => ⟨_, _, k a n e H1 g o⟩
  ·exact hk.elim
 ·intro _ args H K hk
  simp only [S_f23z] at *
  unfold F_f23z at *
  split at hk
  ·obtain ⟨aa, i_list, bd_48, k⟩ := hk
   exact ⟨aa, i_list, bd_48, (fun ib kb jb H' gg ow0 => ⟨gg, k ib kb jb H' gg ow0⟩)⟩
  ·exact hk.elim
 ·have mm := @f23z_main
  have ml := fun (args : List Value) (H : AHeap) (K : Value → AHeap → Prop) => bodyL_body (P := Try.prog) (env := E_f23z ) (fn := Try.f119) (args := args) (H := H) (K := K) E_f23z_ok 
  revert mm ml
  generalize bodyK Try.prog E_f23z Try.f119 = Q
  generalize bodyL Try.prog E_f23z Try.f119 = QL
  intro mm ml args H K hk
  simp only [S_f23z] at *
  unfold F_f23z at *
  split at hk
  ·exact ml _ H K (mm _ _ _ H K hk)
  ·exact hk.elim
def p_f7z (x : Nat) : Bool := !(feq .f32 x x)
def p_f7z_eq := @p_f7z.eq_1
def T_f7z (x : Nat) (H : AHeap) (K : Bool → AHeap → Prop) : Prop := K (p_f7z x) H

/-! f7z: function 203 -/
def E_f7z : Env := envOf []
def F_f7z : List Value → AHeap → (Value → AHeap → Prop) → Prop
 | [.float .f32 x], H, K => T_f7z x H fun (r1 : Bool) (H' : AHeap) => K (.bool r1) H'
 | _, _, _ => False
def S_f7z : FSpec := { F := F_f7z, quiet := true, tame := false }
theorem f7z_vc (x : Nat) (H : AHeap) (K : Value → AHeap → Prop) : bodyL Try.prog E_f7z Try.f203 [.float .f32 x] H K =
 (K (.bool (!(feq .f32 x x))) H) := by kernel_rfl
theorem E_f7z_ok : ∀ g, FnOk Try.prog g (E_f7z g) := FnOk.envOf (by
 intro x hx; cases hx)
theorem f7z_main (x : Nat) (H : AHeap) (K : Value → AHeap → Prop) (h : T_f7z x H fun (r1 : Bool) (H' : AHeap) => K (.bool r1) H') : bodyL Try.prog E_f7z Try.f203 [.float .f32 x] H K := by
 rw [f7z_vc]
 unfold T_f7z p_f7z at h
 repeat' (first | exact h | (exfalso; simp_all; done) | (refine ⟨by decide, ?_⟩) | (refine Br.intro (fun hb => ?_) (fun hb => ?_) <;> (try simp only [hb, cond_true, cond_false, Bool.not_true, Bool.not_false] at h)))
theorem f7z_ok : FnOk Try.prog 203 S_f7z := by
 refine FnOk.body mix_ok E_f7z_ok Try.func203 rfl ω15 ω15 ?_ ?_ ?_ ?_ ?_
 ·intro args H K K' h hk
  simp only [S_f7z] at *
  unfold F_f7z at *
  split at hk
  ·have k := hk
   exact h _ _ k
  ·exact hk.elim
 ·intro _ args H K hk
  simp only [S_f7z] at *
  unfold F_f7z at *
  split at hk
  ·have k := hk
   exact ⟨_, k, fun K' k' => k'⟩
  ·exact hk.elim
 ·intro args H K hk
  simp only [S_f7z] at *
  unfold F_f7z at *
  split at hk
  ·have k := hk
   exact ⟨_, _, k⟩
  ·exact hk.elim
 ·intro hq; cases hq
 ·have mm := @f7z_main
  have ml := fun (args : List Value) (H : AHeap) (K : Value → AHeap → Prop) => bodyL_body (P := Try.prog) (env := E_f7z ) (fn := Try.f203) (args := args) (H := H) (K := K) E_f7z_ok 
  revert mm ml
  generalize bodyK Try.prog E_f7z Try.f203 = Q
  generalize bodyL Try.prog E_f7z Try.f203 = QL
  intro mm ml args H K hk
  simp only [S_f7z] at *
  unfold F_f7z at *
  split at hk
  ·exact ml _ H K (mm _ H K hk)
  ·exact hk.elim
def p_f6z (x : Nat) (y : Nat) : Int := (bif (p_f7z x) then (bif (p_f7z y) then (0 : Int) else ((-1) : Int)) else (bif (p_f7z y) then (1 : Int) else (bif flt .f32 x y then ((-1) : Int) else (bif flt .f32 y x then (1 : Int) else (0 : Int)))))
def p_f6z_eq := @p_f6z.eq_1
def T_f6z (x : Nat) (y : Nat) (H : AHeap) (K : Int → AHeap → Prop) : Prop := K (p_f6z x y) H
theorem cmp_neg (x y : Nat) : decide ((p_f6z x y : Int) < 0) = So.lt_ kappa x y := by
 rw [← cmp_kappa, p_f6z_eq]
 simp only [p_f7z_eq]
 have key : ∀ p q r s : Bool, decide ((bif !p then (bif !q then (0 : Int) else (-1)) else (bif !q then (1 : Int) else (bif r then (-1) else (bif s then (1 : Int) else (0 : Int))))) < 0) = (bif !p then (bif !q then false else true) else (bif !q then false else r)) := by decide
 exact key _ _ _ _
theorem T_f6z_i {x : Nat} {y : Nat} {H : AHeap} {K : Int → AHeap → Prop} (h : K (p_f6z x y) H) : T_f6z x y H K := h
/-! f6z: function 174 -/
def E_f6z : Env := envOf [(203, S_f7z)]
def F_f6z : List Value → AHeap → (Value → AHeap → Prop) → Prop
 | [.float .f32 x, .float .f32 y], H, K => T_f6z x y H fun (r1 : Int) (H' : AHeap) => K (.int .i64 r1) H'
 | _, _, _ => False
def S_f6z : FSpec := { F := F_f6z, quiet := true, tame := false }
theorem f6z_vc (x : Nat) (y : Nat) (H : AHeap) (K : Value → AHeap → Prop) : bodyL Try.prog E_f6z Try.f174 [.float .f32 x, .float .f32 y] H K =
 (T_f7z x H fun (r1 : Bool) (H1 : AHeap) => T_f7z y H1 fun (r2 : Bool) (H2 : AHeap) => Br r1 (Br r2 (K (.int .i64 0) H2) (K (.int .i64 (-1)) H2)) (Br r2 (K (.int .i64 1) H2) (Br (flt .f32 x y) (K (.int .i64 (-1)) H2) (Br (flt .f32 y x) (K (.int .i64 1) H2) (K (.int .i64 0) H2))))) := by kernel_rfl
theorem E_f6z_ok : ∀ g, FnOk Try.prog g (E_f6z g) := FnOk.envOf (by
 intro x hx
 simp only [List.mem_cons, List.not_mem_nil, or_false] at hx
 subst hx; exact f7z_ok)
theorem f6z_main (x : Nat) (y : Nat) (H : AHeap) (K : Value → AHeap → Prop) (h : T_f6z x y H fun (r1 : Int) (H' : AHeap) => K (.int .i64 r1) H') : bodyL Try.prog E_f6z Try.f174 [.float .f32 x, .float .f32 y] H K := by
 rw [f6z_vc]
 simp only [T_f7z]
 unfold T_f6z p_f6z at h
 repeat' (first | exact h | (exfalso; simp_all; done) | (refine ⟨by decide, ?_⟩) | (refine Br.intro (fun hb => ?_) (fun hb => ?_) <;> (try simp only [hb, cond_true, cond_false, Bool.not_true, Bool.not_false] at h)))
theorem f6z_ok : FnOk Try.prog 174 S_f6z := by
 refine FnOk.body mix_ok E_f6z_ok Try.func174 rfl ω15 ω15 ?_ ?_ ?_ ?_ ?_
 ·intro args H K K' h hk
  simp only [S_f6z] at *
  unfold F_f6z at *
  split at hk
  ·have k := hk
   exact h _ _ k
  ·exact hk.elim
 ·intro _ args H K hk
  simp only [S_f6z] at *
  unfold F_f6z at *
  split at hk
  ·have k := hk
   exact ⟨_, k, fun K' k' => k'⟩
  ·exact hk.elim
 ·intro args H K hk
  simp only [S_f6z] at *
  unfold F_f6z at *
  split at hk
  ·have k := hk
   exact ⟨_, _, k⟩
  ·exact hk.elim
 ·intro hq; cases hq
 ·have mm := @f6z_main
  have ml := fun (args : List Value) (H : AHeap) (K : Value → AHeap → Prop) => bodyL_body (P := Try.prog) (env := E_f6z ) (fn := Try.f174) (args := args) (H := H) (K := K) E_f6z_ok 
  revert mm ml
  generalize bodyK Try.prog E_f6z Try.f174 = Q
  generalize bodyL Try.prog E_f6z Try.f174 = QL
  intro mm ml args H K hk
  simp only [S_f6z] at *
  unfold F_f6z at *
  split at hk
  ·exact ml _ H K (mm _ _ H K hk)
  ·exact hk.elim

def p_f1z_l2 (ra : LN) (a : Int) (b : Int) (i : Int) (y1_1 : LN) (k2_2 : Int → LN → LN) : Nat → Int → LN → LN
 | 0, _, _ => []
 | μ2 + 1, j, y2_1 => (bif decide ((a : Int) < j) then (bif decide (((p_f6z (((y2_1).getD (j : Int).toNat 0)) (((y2_1).getD ((j - 1) : Int).toNat 0))) : Int) < 0) then (p_f1z_l2 ra a b i y1_1 k2_2 μ2 (j - 1) (((((y2_1).set (j : Int).toNat ((((y2_1).getD ((j - 1) : Int).toNat 0))))).set ((j - 1) : Int).toNat ((((y2_1).getD (j : Int).toNat 0)))))) else (k2_2 j y2_1)) else (k2_2 j y2_1))
def p_f1z_l2_s := fun ra a b i y1_1 k2_2 μ2 j y2_1 => @p_f1z_l2.eq_2 ra a b i y1_1 k2_2 j y2_1 μ2
def p_f1z_l1 (ra : LN) (a : Int) (b : Int) : Nat → Int → LN → LN
 | 0, _, _ => []
 | μ + 1, i, y1_1 => (bif decide ((i : Int) < b) then (p_f1z_l2 ra a b i y1_1 (fun (j : Int) (y2_1 : LN) => (p_f1z_l1 ra a b μ (i + 1) y2_1)) (Int.toNat (i - a) + 1) i y1_1) else y1_1)
def p_f1z_l1_s := fun ra a b μ i y1_1 => @p_f1z_l1.eq_2 ra a b i y1_1 μ
def p_f1z (ra : LN) (a : Int) (b : Int) : LN := (p_f1z_l1 ra a b (Int.toNat (b - (a + 1)) + 1) (a + 1) ra)
def p_f1z_eq := @p_f1z.eq_1
def T_f1z (ia : OA) (ja : Nat) (ka : Nat) (a : Int) (b : Int) (H : AHeap) (K : AHeap → Prop) : Prop := ∃ lo : Nat, ∃ (ra : LN), OwnS fF H lo ia ja ka ra ∧ ra.length < 1073741824 ∧ 0 ≤ a ∧ a ≤ b ∧ b ≤ ra.length ∧ ((∀ H' : AHeap, KeepA ia H H' → OwnS fF H' lo ia ja ka (p_f1z ra a b) → K  H'))
theorem T_f1z_i {ia : OA} {ja : Nat} {ka : Nat} {a : Int} {b : Int} {H : AHeap} {K : AHeap → Prop} (h : ∃ lo : Nat, ∃ (ra : LN), OwnS fF H lo ia ja ka ra ∧ ra.length < 1073741824 ∧ 0 ≤ a ∧ a ≤ b ∧ b ≤ ra.length ∧ ((∀ H' : AHeap, KeepA ia H H' → OwnS fF H' lo ia ja ka (p_f1z ra a b) → K  H'))) : T_f1z ia ja ka a b H K := h
theorem slices_insertionSort_down (l : LN) (a b i : Int) (y1 : LN) (g : LN → LN) (ha : 0 ≤ a) : ∀ (μ : Nat) (j : Int) (y : LN), j - a ≤ μ → a ≤ j →
  p_f1z_l2 l a b i y1 (fun _ y => g y) (μ + 1) j y = g (So.insD kappa (j - a).toNat y a.toNat j.toNat) := by
 intro μ
 induction μ with
 | zero =>
  intro j y h1 h2
  rw [p_f1z_l2_s, decide_eq_false ω2, cond_false, show (j - a).toNat = 0 by omega]; rfl
 | succ μ ih =>
  intro j y h1 h2
  rw [p_f1z_l2_s]
  by_cases h : a < j
  ·rw [decide_eq_true h, cond_true, cmp_neg]
   obtain ⟨n, hn⟩ : ∃ n, (j - a).toNat = n + 1 := ⟨(j - a).toNat - 1, by omega⟩
   rw [hn]
   unfold So.insD
   have e : So.lt_ kappa (y.getD j.toNat 0) (y.getD (j - 1).toNat 0) = So.lt_ kappa (So.at_ y j.toNat) (So.at_ y (j.toNat - 1)) := by
    rw [show (j - 1).toNat = j.toNat - 1 by omega]; rfl
   rw [e]
   by_cases hc : So.lt_ kappa (So.at_ y j.toNat) (So.at_ y (j.toNat - 1)) = true
   ·rw [hc, cond_true, if_pos ⟨by omega, rfl⟩]
    have := ih (j - 1) (So.sw y j.toNat (j.toNat - 1)) ω2 ω2
    rw [show (j - 1 - a).toNat = n by omega, show (j - 1).toNat = j.toNat - 1 by omega] at this
    rw [← this, show (j - 1).toNat = j.toNat - 1 by omega]; rfl
   ·rw [if_neg (fun h => hc h.2)]
    simp only [Bool.not_eq_true] at hc
    rw [hc, cond_false]
  ·rw [decide_eq_false h, cond_false, show (j - a).toNat = 0 by omega]; rfl
theorem slices_insertionSort_loop (l : LN) (a b : Int) (ha : 0 ≤ a) : ∀ (μ : Nat) (i : Int) (y : LN), b - i ≤ μ → a < i →
  p_f1z_l1 l a b (μ + 1) i y = So.insS kappa (b - i).toNat y a.toNat i.toNat := by
 intro μ
 induction μ with
 | zero =>
  intro i y h1 h2
  rw [p_f1z_l1_s, decide_eq_false ω2, cond_false, show (b - i).toNat = 0 by omega]; rfl
 | succ μ ih =>
  intro i y h1 h2
  rw [p_f1z_l1_s]
  by_cases h : i < b
  ·obtain ⟨n, hn⟩ : ∃ n, (b - i).toNat = n + 1 := ⟨(b - i).toNat - 1, by omega⟩
   rw [decide_eq_true h, cond_true, hn, slices_insertionSort_down l a b i y (fun y => p_f1z_l1 l a b (μ + 1) (i + 1) y) ha _ _ _ ω2 ω2]
   rw [ih (i + 1) _ ω2 ω2, show (b - (i + 1)).toNat = n by omega, show (i + 1).toNat = i.toNat + 1 by omega, show (i - a).toNat = i.toNat - a.toNat by omega]
   rfl
  ·rw [decide_eq_false h, cond_false, show (b - i).toNat = 0 by omega]; rfl
theorem slices_insertionSort_eq (l : LN) (a b : Int) (ha : 0 ≤ a) : p_f1z l a b = So.insS kappa (b - (a + 1)).toNat l a.toNat (a.toNat + 1) := by
 rw [p_f1z_eq, slices_insertionSort_loop l a b ha _ _ _ ω2 ω2, show (a + 1).toNat = a.toNat + 1 by omega]
theorem slices_insertionSort_len (l : LN) (a b : Int) (ha : 0 ≤ a) : (p_f1z l a b).length = l.length := by
 rw [slices_insertionSort_eq l a b ha, So.insS_length]
/-! f1z: function 226 -/
def E_f1z : Env := envOf [(999999, quietMark), (174, S_f6z)]
def F_f1z : List Value → AHeap → (Value → AHeap → Prop) → Prop
 | [.slice ia ja ka, .int .i64 a, .int .i64 b, .func (.func 174) ⟨[]⟩ ⟨[]⟩], H, K => T_f1z ia ja ka a b H fun  (H' : AHeap) => K (.tuple #[]) H'
 | _, _, _ => False
def S_f1z : FSpec := { F := F_f1z, quiet := false, tame := false }
theorem f1z_vc (ia : OA) (ja : Nat) (ka : Nat) (a : Int) (b : Int) (H : AHeap) (K : Value → AHeap → Prop) : bodyL Try.prog E_f1z Try.f226 [.slice ia ja ka, .int .i64 a, .int .i64 b, .func (.func 174) #[] #[]] H K =
 (loopK (exL Try.prog E_f1z (cl (cl (cr (bodyC Try.f226)))) 271 0 [(0, 0)]) (.slice ia ja ka :: .int .i64 a :: .int .i64 b :: .func (.func 174) #[] #[] :: ud4 (.int .i64 (IntKind.wrap .i64 (a + 1)) :: ud44 [])) H (blockQ 0 (retK Try.prog Try.f226 K))) := by kernel_rfl
abbrev f1z_P1 (a : Int) (b : Int) (ia : OA) (ka : Nat) (ja : Nat) (i : Int)  : List Value := (.slice ia ja ka :: .int .i64 a :: .int .i64 b :: .func (.func 174) #[] #[] :: ud4 (.int .i64 i :: ud44 []))
theorem f1z_r1 (a : Int) (b : Int) (ia : OA) (ka : Nat) (ja : Nat) (i : Int)  (H : AHeap) (R : Post) : exL Try.prog E_f1z (cl (cl (cr (bodyC Try.f226)))) 271 0 [(0, 0)] (f1z_P1 a b ia ka ja i) H R =
 (Br (decide ((i : Int) < b)) (loopK (exL Try.prog E_f1z (cl (cl (cr (cl (cl (cr (cl (cl (cr (bodyC Try.f226)))))))))) 783 0 [(2, 271), (1, 271), (0, 0)]) (.slice ia ja ka :: .int .i64 a :: .int .i64 b :: .func (.func 174) #[] #[] :: ud4 (.int .i64 i :: .int .i64 i :: ud43 [])) H (blockQ 2 (blockQ 1 (seqQ (exL Try.prog E_f1z (cr (cr (cl (cl (cr (bodyC Try.f226)))))) 271 0 [(0, 0)]) (R))))) (R (.exit 0) (ud53 []) H)) := by kernel_rfl
def f1z_I1 (a : Int) (b : Int) (ia : OA) (ka : Nat) (ja : Nat) (Inv : Nat → Int → AHeap → Prop) : Nat → List Value → AHeap → Prop := fun μ tm H => ∃ (i : Int), tm = (f1z_P1 a b ia ka ja i) ∧ Inv μ i H
theorem f1z_L1 (a : Int) (b : Int) (ia : OA) (ka : Nat) (ja : Nat) {Q : Post} (Inv : Nat → Int → AHeap → Prop) (ν : Nat) (i : Int)  (H : AHeap) (h0 : Inv ν i H)
  (hs : ∀ (μ : Nat) (i : Int)  (H : AHeap), Inv μ i H → exL Try.prog E_f1z (cl (cl (cr (bodyC Try.f226)))) 271 0 [(0, 0)] (f1z_P1 a b ia ka ja i) H (loopQ (f1z_I1 a b ia ka ja Inv) μ Q)) : loopK (exL Try.prog E_f1z (cl (cl (cr (bodyC Try.f226)))) 271 0 [(0, 0)]) (f1z_P1 a b ia ka ja i) H Q :=
 ⟨f1z_I1 a b ia ka ja Inv, ν, ⟨i, rfl, h0⟩, fun μ tm H h => by obtain ⟨i, rfl, hI⟩ := h; exact hs μ i  H hI⟩
theorem f1z_n1 {a : Int} {b : Int} {ia : OA} {ka : Nat} {ja : Nat} {Q : Post} {Inv : Nat → Int → AHeap → Prop} {μ : Nat} (μ' : Nat) {i : Int}  {H : AHeap} (hm : μ' < μ) (hI : Inv μ' i H) : loopQ (f1z_I1 a b ia ka ja Inv) μ Q .normal (f1z_P1 a b ia ka ja i) H := ⟨μ', hm, i, rfl, hI⟩
theorem f1z_x1_0  (H : AHeap) (K : Value → AHeap → Prop)  {I : Nat → List Value → AHeap → Prop} {μ : Nat} : loopQ I μ (blockQ 0 (retK Try.prog Try.f226 K)) (.exit 0) (ud53 []) H =
 (K (.tuple #[]) H) := by kernel_rfl
abbrev f1z_P2 (a : Int) (b : Int) (ia : OA) (ka : Nat) (ja : Nat) (i : Int) (j : Int)  : List Value := (.slice ia ja ka :: .int .i64 a :: .int .i64 b :: .func (.func 174) #[] #[] :: ud4 (.int .i64 i :: .int .i64 j :: ud43 []))
theorem f1z_r2 (a : Int) (b : Int) (ia : OA) (ka : Nat) (ja : Nat) (i : Int) (j : Int)  (H : AHeap) (R : Post) : exL Try.prog E_f1z (cl (cl (cr (cl (cl (cr (cl (cl (cr (bodyC Try.f226)))))))))) 783 0 [(2, 271), (1, 271), (0, 0)] (f1z_P2 a b ia ka ja i j) H R =
 (Br (decide ((a : Int) < j)) ((0 : Int) ≤ j ∧ j < (ja : Int) ∧ ∃ b1 f1, (ia : OA) = some ⟨b1, f1, none⟩ ∧ ∃ x1 : Nat,  rdC H b1 (f1 + (j : Int).toNat * 1) = some (.float .f32 x1) ∧ (0 : Int) ≤ IntKind.wrap .i64 (j - 1) ∧ IntKind.wrap .i64 (j - 1) < (ja : Int) ∧ ∃ b2 f2, (ia : OA) = some ⟨b2, f2, none⟩ ∧ ∃ x2 : Nat,  rdC H b2 (f2 + (IntKind.wrap .i64 (j - 1) : Int).toNat * 1) = some (.float .f32 x2) ∧ T_f6z x1 x2 H fun (r1 : Int) (H1 : AHeap) => Br (decide ((r1 : Int) < 0)) ((0 : Int) ≤ IntKind.wrap .i64 (j - 1) ∧ IntKind.wrap .i64 (j - 1) < (ja : Int) ∧ ∃ b3 f3, (ia : OA) = some ⟨b3, f3, none⟩ ∧ ∃ x3 : Nat,  rdC H1 b3 (f3 + (IntKind.wrap .i64 (j - 1) : Int).toNat * 1) = some (.float .f32 x3) ∧ (0 : Int) ≤ j ∧ j < (ja : Int) ∧ ∃ b4 f4, (ia : OA) = some ⟨b4, f4, none⟩ ∧ ∃ x4 : Nat,  rdC H1 b4 (f4 + (j : Int).toNat * 1) = some (.float .f32 x4) ∧ (0 : Int) ≤ j ∧ j < (ja : Int) ∧ ∃ b5 f5, (ia : OA) = some ⟨b5, f5, none⟩ ∧ isOwn H1 b5 ∧ (∃ l, rdN H1 b5 (f5 + (j : Int).toNat * 1) 1 = some l) ∧ Lt (setC H1 b5 (f5 + (j : Int).toNat * 1) (.float .f32 x3)) fun H2 => (0 : Int) ≤ IntKind.wrap .i64 (j - 1) ∧ IntKind.wrap .i64 (j - 1) < (ja : Int) ∧ ∃ b6 f6, (ia : OA) = some ⟨b6, f6, none⟩ ∧ isOwn H2 b6 ∧ (∃ l, rdN H2 b6 (f6 + (IntKind.wrap .i64 (j - 1) : Int).toNat * 1) 1 = some l) ∧ Lt (setC H2 b6 (f6 + (IntKind.wrap .i64 (j - 1) : Int).toNat * 1) (.float .f32 x4)) fun H3 => R .normal (.slice ia ja ka :: .int .i64 a :: .int .i64 b :: .func (.func 174) #[] #[] :: ud4 (.int .i64 i :: .int .i64 (IntKind.wrap .i64 (j - 1)) :: ud43 [])) H3) (R (.exit 2) (.slice ia ja ka :: .int .i64 a :: .int .i64 b :: .func (.func 174) #[] #[] :: ud4 (.int .i64 i :: ud44 [])) H1)) (R (.exit 2) (.slice ia ja ka :: .int .i64 a :: .int .i64 b :: .func (.func 174) #[] #[] :: ud4 (.int .i64 i :: ud44 [])) H)) := by kernel_rfl
def f1z_I2 (a : Int) (b : Int) (ia : OA) (ka : Nat) (ja : Nat) (i : Int) (Inv : Nat → Int → AHeap → Prop) : Nat → List Value → AHeap → Prop := fun μ tm H => ∃ (j : Int), tm = (f1z_P2 a b ia ka ja i j) ∧ Inv μ j H
theorem f1z_L2 (a : Int) (b : Int) (ia : OA) (ka : Nat) (ja : Nat) (i : Int) {Q : Post} (Inv : Nat → Int → AHeap → Prop) (ν : Nat) (j : Int)  (H : AHeap) (h0 : Inv ν j H)
  (hs : ∀ (μ : Nat) (j : Int)  (H : AHeap), Inv μ j H → exL Try.prog E_f1z (cl (cl (cr (cl (cl (cr (cl (cl (cr (bodyC Try.f226)))))))))) 783 0 [(2, 271), (1, 271), (0, 0)] (f1z_P2 a b ia ka ja i j) H (loopQ (f1z_I2 a b ia ka ja i Inv) μ Q)) : loopK (exL Try.prog E_f1z (cl (cl (cr (cl (cl (cr (cl (cl (cr (bodyC Try.f226)))))))))) 783 0 [(2, 271), (1, 271), (0, 0)]) (f1z_P2 a b ia ka ja i j) H Q :=
 ⟨f1z_I2 a b ia ka ja i Inv, ν, ⟨j, rfl, h0⟩, fun μ tm H h => by obtain ⟨j, rfl, hI⟩ := h; exact hs μ j  H hI⟩
theorem f1z_n2 {a : Int} {b : Int} {ia : OA} {ka : Nat} {ja : Nat} {i : Int} {Q : Post} {Inv : Nat → Int → AHeap → Prop} {μ : Nat} (μ' : Nat) {j : Int}  {H : AHeap} (hm : μ' < μ) (hI : Inv μ' j H) : loopQ (f1z_I2 a b ia ka ja i Inv) μ Q .normal (f1z_P2 a b ia ka ja i j) H := ⟨μ', hm, j, rfl, hI⟩
theorem f1z_x2_2 (a : Int) (b : Int) (ia : OA) (ka : Nat) (ja : Nat) (i : Int) (H : AHeap)  (R : Post) {I : Nat → List Value → AHeap → Prop} {μ : Nat} : loopQ I μ (blockQ 2 (blockQ 1 (seqQ (exL Try.prog E_f1z (cr (cr (cl (cl (cr (bodyC Try.f226)))))) 271 0 [(0, 0)]) (R)))) (.exit 2) (.slice ia ja ka :: .int .i64 a :: .int .i64 b :: .func (.func 174) #[] #[] :: ud4 (.int .i64 i :: ud44 [])) H =
 (R .normal (.slice ia ja ka :: .int .i64 a :: .int .i64 b :: .func (.func 174) #[] #[] :: ud4 (.int .i64 (IntKind.wrap .i64 (i + 1)) :: ud44 [])) H) := by kernel_rfl
theorem E_f1z_ok : ∀ g, FnOk Try.prog g (E_f1z g) := FnOk.envOf (by
 intro x hx
 simp only [List.mem_cons, List.not_mem_nil, or_false] at hx
 rcases hx with rfl | rfl
 ·exact quietMark_ok _
 ·exact f6z_ok)
theorem ω11 {P : Prop} (h : P := by first | omega | (simp only [List.length_set]; (first | omega | (simp only [List.length_set, List.length_replicate, List.length_append, List.length_cons, List.length_nil, List.length_take, List.length_drop, marks_length]; done) | (simp only [List.length_set, List.length_replicate, List.length_append, List.length_cons, List.length_nil, List.length_take, List.length_drop, marks_length]; omega)))) : P := h
theorem f1z_main (ia : OA) (ja : Nat) (ka : Nat) (a : Int) (b : Int) (H : AHeap) (K : Value → AHeap → Prop) (h : T_f1z ia ja ka a b H fun  (H' : AHeap) => K (.tuple #[]) H') : bodyL Try.prog E_f1z Try.f226 [.slice ia ja ka, .int .i64 a, .int .i64 b, .func (.func 174) #[] #[]] H K := by
 rw [f1z_vc]
 obtain ⟨lo, ra, i_data, bd_48, pr0, pr1, pr2, hk⟩ := h
 obtain rfl := i_data.len
 have up_m := i_data.up
 have lo_m := i_data.lo
 have e : (p_f1z ra a b) = _ := rfl
 have e := e.trans (p_f1z_eq ra a b)
 have g0 := KeepA.refl ia H
 rw [show IntKind.wrap .i64 (a + 1) = (a + 1) from wrap64 ω2 ω2]
 refine f1z_L1 _ _ _ _ _ (fun (μ : Nat) (i : Int) (H_1 : AHeap) => ∃ (y1_1 : LN), OwnS fF H_1 lo ia ra.length ka y1_1 ∧ y1_1.length = (ra).length ∧ H.length ≤ H_1.length ∧ KeepA ia H H_1 ∧ (a + 1) ≤ i ∧ ((i ≤ b ∨ i ≤ (a + 1))) ∧ b - i ≤ (μ : Int) ∧ p_f1z ra a b = p_f1z_l1 ra a b (μ + 1) i y1_1) (Int.toNat (b - (a + 1))) _ H ?_ ?_
 ·exact ⟨_, i_data, ω20, ω2, g0, ω7, ω7, ω2, e⟩
 ·intro μ i  H_1 hI
  obtain ⟨y1_1, r_1, y_2, n3, g_4, v5, v6, hμ, e⟩ := hI
  rw [f1z_r1]
  have e := e.trans (p_f1z_l1_s ra a b μ i y1_1)
  have l7 := g_4.1
  refine Br.intro (fun c8 => ?_) (fun c8 => ?_)
  ·have e := e.trans (cond_t c8)
   have c_8' := of_decide_eq_true c8
   refine f1z_L2 _ _ _ _ _ _ (fun (μ2 : Nat) (j : Int) (H_2 : AHeap) => ∃ (y2_1 : LN), OwnS fF H_2 lo ia ra.length ka y2_1 ∧ y2_1.length = (ra).length ∧ H.length ≤ H_2.length ∧ KeepA ia H H_2 ∧ a ≤ j ∧ j ≤ i ∧ j - a ≤ (μ2 : Int) ∧ p_f1z ra a b = p_f1z_l2 ra a b i y1_1 (fun (j : Int) (y2_1 : LN) => (p_f1z_l1 ra a b μ (i + 1) y2_1)) (μ2 + 1) j y2_1) (Int.toNat (i - a)) _ H_1 ?_ ?_
   ·exact ⟨_, r_1, ω20, ω2, g_4, ω7, ω7, ω2, e⟩
   ·intro μ2 j  H_2 hI
    obtain ⟨y2_1, r_9, y10, n11, g12, v13, v14, hμ, e⟩ := hI
    rw [f1z_r2]
    have e := e.trans (p_f1z_l2_s ra a b i y1_1 (fun (j : Int) (y2_1 : LN) => (p_f1z_l1 ra a b μ (i + 1) y2_1)) μ2 j y2_1)
    have l15 := g12.1
    refine Br.intro (fun c16 => ?_) (fun c16 => ?_)
    ·have e := e.trans (cond_t c16)
     have c_16' := of_decide_eq_true c16
     obtain ⟨b_17, f18, q19⟩ := (r_9.isL).pos ω0
     refine ⟨by omega, by omega, b_17, f18, q19, ?_⟩
     refine ⟨((y2_1).getD (j : Int).toNat 0), (r_9.isL).rd (Grow.refl _) q19 ω2 _, ?_⟩
     rw [show IntKind.wrap .i64 (j - 1) = (j - 1) from wrap64 ω2 ω2]
     obtain ⟨b20, f21, q22⟩ := (r_9.isL).pos ω0
     refine ⟨by omega, by omega, b20, f21, q22, ?_⟩
     refine ⟨((y2_1).getD ((j - 1) : Int).toNat 0), (r_9.isL).rd (Grow.refl _) q22 ω2 _, ?_⟩
     refine T_f6z_i ?_
     refine Br.intro (fun c23 => ?_) (fun c23 => ?_)
     ·have e := e.trans (cond_t c23)
      have c_23' := of_decide_eq_true c23
      obtain ⟨b24, f_25, q26⟩ := (r_9.isL).pos ω0
      refine ⟨by omega, by omega, b24, f_25, q26, ?_⟩
      refine ⟨((y2_1).getD ((j - 1) : Int).toNat 0), (r_9.isL).rd (Grow.refl _) q26 ω2 _, ?_⟩
      obtain ⟨b27, f_28, q29⟩ := (r_9.isL).pos ω0
      refine ⟨by omega, by omega, b27, f_28, q29, ?_⟩
      refine ⟨((y2_1).getD (j : Int).toNat 0), (r_9.isL).rd (Grow.refl _) q29 ω2 _, ?_⟩
      obtain ⟨b30, f_31, q32⟩ := (r_9.isL).pos ω0
      refine ⟨by omega, by omega, b30, f_31, q32, ?_⟩
      refine Lt.setS r_9 q32 ω11 (fun H_3 hl_33 o35 k34 => ?_)
      have l36 := k34.1
      have g37 := g12.transA k34
      have l38 := g37.1
      obtain ⟨b39, f_40, q41⟩ := (o35.isL).pos ω0
      refine ⟨by omega, by omega, b39, f_40, q41, ?_⟩
      refine Lt.setS o35 q41 ω11 (fun H_4 hl_42 o44 k43 => ?_)
      have l45 := k43.1
      have g46 := g37.transA k43
      have l47 := g46.1
      refine f1z_n2 (μ2 - 1) ω17 ⟨_, o44, ω13, ω2, g46, ω1, ω1, ω17, ω22⟩
     ·have e := e.trans (cond_f c23)
      have c_23' := of_decide_eq_false c23
      rw [f1z_x2_2]
      rw [show IntKind.wrap .i64 (i + 1) = (i + 1) from wrap64 ω2 ω2]
      refine f1z_n1 (μ - 1) ω17 ⟨_, r_9, ω13, ω2, g12, ω1, ω1, ω17, ω12⟩
    ·have e := e.trans (cond_f c16)
     have c_16' := of_decide_eq_false c16
     rw [f1z_x2_2]
     rw [show IntKind.wrap .i64 (i + 1) = (i + 1) from wrap64 ω2 ω2]
     refine f1z_n1 (μ - 1) ω17 ⟨_, r_9, ω13, ω2, g12, ω1, ω1, ω17, ω12⟩
  ·have e := e.trans (cond_f c8)
   have c_8' := of_decide_eq_false c8
   rw [f1z_x1_0]
   rw [e] at hk
   exact hk H_1 g_4 r_1
theorem f1z_ok : FnOk Try.prog 226 S_f1z := by
 refine FnOk.body mix_ok E_f1z_ok Try.func226 rfl ω15 ω15 ?_ ?_ ?_ ?_ ?_
 ·intro args H K K' h hk
  simp only [S_f1z] at *
  unfold F_f1z at *
  split at hk
  ·obtain ⟨lo, ra, i_data, bd_48, pr0, pr1, pr2, k⟩ := hk
   exact ⟨lo, ra, i_data, bd_48, pr0, pr1, pr2, (fun H' gg ow => h _ _ (k H' gg ow))⟩
  ·exact hk.elim
 ·intro hq; cases hq
 ·intro args H K hk
  simp only [S_f1z] at *
  unfold F_f1z at *
  split at hk
  ·obtain ⟨lo, ra, i_data, bd_48, pr0, pr1, pr2, k⟩ := hk
   exact (i_data.put _ (by exact slices_insertionSort_len _ _ _ (by omega))).elim fun H1 h => ⟨_, _, k H1 h.1 h.2⟩
  ·exact hk.elim
 ·intro hq; cases hq
 ·have mm := @f1z_main
  have ml := fun (args : List Value) (H : AHeap) (K : Value → AHeap → Prop) => bodyL_body (P := Try.prog) (env := E_f1z ) (fn := Try.f226) (args := args) (H := H) (K := K) E_f1z_ok 
  revert mm ml
  generalize bodyK Try.prog E_f1z Try.f226 = Q
  generalize bodyL Try.prog E_f1z Try.f226 = QL
  intro mm ml args H K hk
  simp only [S_f1z] at *
  unfold F_f1z at *
  split at hk
  ·exact ml _ H K (mm _ _ _ _ _ H K hk)
  ·exact hk.elim

def p_f2z_l1 (ra : LN) (a : Int) (b : Int) (n : Int) : Nat → Int → LN → LN
 | 0, _, _ => []
 | μ + 1, i, y1_1 => (bif decide ((i : Int) < n) then (p_f2z_l1 ra a b n μ (i + 1) (((((y1_1).set ((a + i) : Int).toNat ((((y1_1).getD ((b + i) : Int).toNat 0))))).set ((b + i) : Int).toNat ((((y1_1).getD ((a + i) : Int).toNat 0)))))) else y1_1)
def p_f2z_l1_s := fun ra a b n μ i y1_1 => @p_f2z_l1.eq_2 ra a b n i y1_1 μ
def p_f2z (ra : LN) (a : Int) (b : Int) (n : Int) : LN := (p_f2z_l1 ra a b n (Int.toNat (n - (0 : Int)) + 1) (0 : Int) ra)
def p_f2z_eq := @p_f2z.eq_1
def T_f2z (ia : OA) (ja : Nat) (ka : Nat) (a : Int) (b : Int) (n : Int) (H : AHeap) (K : AHeap → Prop) : Prop := ∃ lo : Nat, ∃ (ra : LN), OwnS fF H lo ia ja ka ra ∧ ra.length < 1073741824 ∧ 0 ≤ a ∧ a + n ≤ ra.length ∧ 0 ≤ b ∧ b + n ≤ ra.length ∧ n < 1073741824 ∧ ((∀ H' : AHeap, KeepA ia H H' → OwnS fF H' lo ia ja ka (p_f2z ra a b n) → K  H'))
theorem T_f2z_i {ia : OA} {ja : Nat} {ka : Nat} {a : Int} {b : Int} {n : Int} {H : AHeap} {K : AHeap → Prop} (h : ∃ lo : Nat, ∃ (ra : LN), OwnS fF H lo ia ja ka ra ∧ ra.length < 1073741824 ∧ 0 ≤ a ∧ a + n ≤ ra.length ∧ 0 ≤ b ∧ b + n ≤ ra.length ∧ n < 1073741824 ∧ ((∀ H' : AHeap, KeepA ia H H' → OwnS fF H' lo ia ja ka (p_f2z ra a b n) → K  H'))) : T_f2z ia ja ka a b n H K := h
theorem slices_swapRange_loop (l : LN) (a b n : Int) : ∀ (μ : Nat) (k : Nat) (i : Int) (y : LN), n - i ≤ μ → 0 ≤ a → 0 ≤ b → 0 ≤ i → i ≤ n → (k : Int) = n - i →
  p_f2z_l1 l a b n (μ + 1) i y = So.swR k y (a + i).toNat (b + i).toNat := by
 intro μ
 induction μ with
 | zero =>
  intro k i y h1 h2 h3 h4 h5 hk
  rw [p_f2z_l1_s, decide_eq_false ω2, cond_false, show k = 0 by omega]; rfl
 | succ μ ih =>
  intro k i y h1 h2 h3 h4 h5 hk
  rw [p_f2z_l1_s]
  by_cases h : i < n
  ·rw [decide_eq_true h, cond_true]
   obtain ⟨k, rfl⟩ : ∃ k', k = k' + 1 := ⟨k - 1, by omega⟩
   have := ih k (i + 1) (So.sw y (a + i).toNat (b + i).toNat) ω2 h2 h3 ω2 ω2 ω2
   rw [show (a + (i + 1)).toNat = (a + i).toNat + 1 by omega, show (b + (i + 1)).toNat = (b + i).toNat + 1 by omega] at this
   exact this
  ·rw [decide_eq_false h, cond_false, show k = 0 by omega]; rfl
theorem slices_swapRange_eq (l : LN) (a b n : Int) (ha : 0 ≤ a) (hb : 0 ≤ b) : p_f2z l a b n = So.swR n.toNat l a.toNat b.toNat := by
 rw [p_f2z_eq]
 by_cases hn : 0 ≤ n
 ·have := slices_swapRange_loop l a b n (Int.toNat (n - 0)) n.toNat 0 l ω2 ha hb ω2 hn ω2
  rw [show (a + 0).toNat = a.toNat by omega, show (b + 0).toNat = b.toNat by omega] at this
  exact this
 ·rw [p_f2z_l1_s, decide_eq_false ω2, cond_false, show n.toNat = 0 by omega]; rfl
theorem slices_swapRange_len (l : LN) (a b n : Int) (ha : 0 ≤ a) (hb : 0 ≤ b) : (p_f2z l a b n).length = l.length := by
 rw [slices_swapRange_eq l a b n ha hb, So.swR_length]
/-! f2z: function 244 -/
def E_f2z : Env := envOf []
def F_f2z : List Value → AHeap → (Value → AHeap → Prop) → Prop
 | [.slice ia ja ka, .int .i64 a, .int .i64 b, .int .i64 n, .func (.func 174) ⟨[]⟩ ⟨[]⟩], H, K => T_f2z ia ja ka a b n H fun  (H' : AHeap) => K (.tuple #[]) H'
 | _, _, _ => False
def S_f2z : FSpec := { F := F_f2z, quiet := false, tame := false }
theorem f2z_vc (ia : OA) (ja : Nat) (ka : Nat) (a : Int) (b : Int) (n : Int) (H : AHeap) (K : Value → AHeap → Prop) : bodyL Try.prog E_f2z Try.f244 [.slice ia ja ka, .int .i64 a, .int .i64 b, .int .i64 n, .func (.func 174) #[] #[]] H K =
 (loopK (exL Try.prog E_f2z (cl (cl (cr (bodyC Try.f244)))) 1039 0 [(0, 0)]) (.slice ia ja ka :: .int .i64 a :: .int .i64 b :: .int .i64 n :: ud6 (.int .i64 0 :: ud27 [])) H (blockQ 0 (retK Try.prog Try.f244 K))) := by kernel_rfl
abbrev f2z_P1 (a : Int) (b : Int) (ia : OA) (ka : Nat) (ja : Nat) (n : Int) (i : Int)  : List Value := (.slice ia ja ka :: .int .i64 a :: .int .i64 b :: .int .i64 n :: ud6 (.int .i64 i :: ud27 []))
theorem f2z_r1 (a : Int) (b : Int) (ia : OA) (ka : Nat) (ja : Nat) (n : Int) (i : Int)  (H : AHeap) (R : Post) : exL Try.prog E_f2z (cl (cl (cr (bodyC Try.f244)))) 1039 0 [(0, 0)] (f2z_P1 a b ia ka ja n i) H R =
 (Br (decide ((i : Int) < n)) ((0 : Int) ≤ IntKind.wrap .i64 (b + i) ∧ IntKind.wrap .i64 (b + i) < (ja : Int) ∧ ∃ b1 f1, (ia : OA) = some ⟨b1, f1, none⟩ ∧ ∃ x1 : Nat,  rdC H b1 (f1 + (IntKind.wrap .i64 (b + i) : Int).toNat * 1) = some (.float .f32 x1) ∧ (0 : Int) ≤ IntKind.wrap .i64 (a + i) ∧ IntKind.wrap .i64 (a + i) < (ja : Int) ∧ ∃ b2 f2, (ia : OA) = some ⟨b2, f2, none⟩ ∧ ∃ x2 : Nat,  rdC H b2 (f2 + (IntKind.wrap .i64 (a + i) : Int).toNat * 1) = some (.float .f32 x2) ∧ (0 : Int) ≤ IntKind.wrap .i64 (a + i) ∧ IntKind.wrap .i64 (a + i) < (ja : Int) ∧ ∃ b3 f3, (ia : OA) = some ⟨b3, f3, none⟩ ∧ isOwn H b3 ∧ (∃ l, rdN H b3 (f3 + (IntKind.wrap .i64 (a + i) : Int).toNat * 1) 1 = some l) ∧ Lt (setC H b3 (f3 + (IntKind.wrap .i64 (a + i) : Int).toNat * 1) (.float .f32 x1)) fun H1 => (0 : Int) ≤ IntKind.wrap .i64 (b + i) ∧ IntKind.wrap .i64 (b + i) < (ja : Int) ∧ ∃ b4 f4, (ia : OA) = some ⟨b4, f4, none⟩ ∧ isOwn H1 b4 ∧ (∃ l, rdN H1 b4 (f4 + (IntKind.wrap .i64 (b + i) : Int).toNat * 1) 1 = some l) ∧ Lt (setC H1 b4 (f4 + (IntKind.wrap .i64 (b + i) : Int).toNat * 1) (.float .f32 x2)) fun H2 => R .normal (.slice ia ja ka :: .int .i64 a :: .int .i64 b :: .int .i64 n :: ud6 (.int .i64 (IntKind.wrap .i64 (i + 1)) :: ud27 [])) H2) (R (.exit 0) (ud38 []) H)) := by kernel_rfl
def f2z_I1 (a : Int) (b : Int) (ia : OA) (ka : Nat) (ja : Nat) (n : Int) (Inv : Nat → Int → AHeap → Prop) : Nat → List Value → AHeap → Prop := fun μ tm H => ∃ (i : Int), tm = (f2z_P1 a b ia ka ja n i) ∧ Inv μ i H
theorem f2z_L1 (a : Int) (b : Int) (ia : OA) (ka : Nat) (ja : Nat) (n : Int) {Q : Post} (Inv : Nat → Int → AHeap → Prop) (ν : Nat) (i : Int)  (H : AHeap) (h0 : Inv ν i H)
  (hs : ∀ (μ : Nat) (i : Int)  (H : AHeap), Inv μ i H → exL Try.prog E_f2z (cl (cl (cr (bodyC Try.f244)))) 1039 0 [(0, 0)] (f2z_P1 a b ia ka ja n i) H (loopQ (f2z_I1 a b ia ka ja n Inv) μ Q)) : loopK (exL Try.prog E_f2z (cl (cl (cr (bodyC Try.f244)))) 1039 0 [(0, 0)]) (f2z_P1 a b ia ka ja n i) H Q :=
 ⟨f2z_I1 a b ia ka ja n Inv, ν, ⟨i, rfl, h0⟩, fun μ tm H h => by obtain ⟨i, rfl, hI⟩ := h; exact hs μ i  H hI⟩
theorem f2z_n1 {a : Int} {b : Int} {ia : OA} {ka : Nat} {ja : Nat} {n : Int} {Q : Post} {Inv : Nat → Int → AHeap → Prop} {μ : Nat} (μ' : Nat) {i : Int}  {H : AHeap} (hm : μ' < μ) (hI : Inv μ' i H) : loopQ (f2z_I1 a b ia ka ja n Inv) μ Q .normal (f2z_P1 a b ia ka ja n i) H := ⟨μ', hm, i, rfl, hI⟩
theorem f2z_x1_0  (H : AHeap) (K : Value → AHeap → Prop)  {I : Nat → List Value → AHeap → Prop} {μ : Nat} : loopQ I μ (blockQ 0 (retK Try.prog Try.f244 K)) (.exit 0) (ud38 []) H =
 (K (.tuple #[]) H) := by kernel_rfl
theorem E_f2z_ok : ∀ g, FnOk Try.prog g (E_f2z g) := FnOk.envOf (by
 intro x hx; cases hx)
theorem f2z_main (ia : OA) (ja : Nat) (ka : Nat) (a : Int) (b : Int) (n : Int) (H : AHeap) (K : Value → AHeap → Prop) (h : T_f2z ia ja ka a b n H fun  (H' : AHeap) => K (.tuple #[]) H') : bodyL Try.prog E_f2z Try.f244 [.slice ia ja ka, .int .i64 a, .int .i64 b, .int .i64 n, .func (.func 174) #[] #[]] H K := by
 rw [f2z_vc]
 obtain ⟨lo, ra, i_data, bd_33, pr0, pr1, pr2, pr3, pr4, hk⟩ := h
 obtain rfl := i_data.len
 have up_m := i_data.up
 have lo_m := i_data.lo
 have e : (p_f2z ra a b n) = _ := rfl
 have e := e.trans (p_f2z_eq ra a b n)
 have g0 := KeepA.refl ia H
 refine f2z_L1 _ _ _ _ _ _ (fun (μ : Nat) (i : Int) (H_1 : AHeap) => ∃ (y1_1 : LN), OwnS fF H_1 lo ia ra.length ka y1_1 ∧ y1_1.length = (ra).length ∧ H.length ≤ H_1.length ∧ KeepA ia H H_1 ∧ (0 : Int) ≤ i ∧ ((i ≤ n ∨ i ≤ (0 : Int))) ∧ n - i ≤ (μ : Int) ∧ p_f2z ra a b n = p_f2z_l1 ra a b n (μ + 1) i y1_1) (Int.toNat (n - (0 : Int))) _ H ?_ ?_
 ·exact ⟨_, i_data, ω20, ω2, g0, ω7, ω7, ω2, e⟩
 ·intro μ i  H_1 hI
  obtain ⟨y1_1, r_1, y_2, n3, g_4, v5, v6, hμ, e⟩ := hI
  rw [f2z_r1]
  have e := e.trans (p_f2z_l1_s ra a b n μ i y1_1)
  have l7 := g_4.1
  refine Br.intro (fun c8 => ?_) (fun c8 => ?_)
  ·have e := e.trans (cond_t c8)
   have c_8' := of_decide_eq_true c8
   rw [show IntKind.wrap .i64 (a + i) = (a + i) from wrap64 ω2 ω2]
   rw [show IntKind.wrap .i64 (b + i) = (b + i) from wrap64 ω2 ω2]
   obtain ⟨b_9, f_10, q11⟩ := (r_1.isL).pos ω0
   refine ⟨by omega, by omega, b_9, f_10, q11, ?_⟩
   refine ⟨((y1_1).getD ((b + i) : Int).toNat 0), (r_1.isL).rd (Grow.refl _) q11 ω2 _, ?_⟩
   obtain ⟨b_12, f_13, q14⟩ := (r_1.isL).pos ω0
   refine ⟨by omega, by omega, b_12, f_13, q14, ?_⟩
   refine ⟨((y1_1).getD ((a + i) : Int).toNat 0), (r_1.isL).rd (Grow.refl _) q14 ω2 _, ?_⟩
   obtain ⟨b_15, f16, q17⟩ := (r_1.isL).pos ω0
   refine ⟨by omega, by omega, b_15, f16, q17, ?_⟩
   refine Lt.setS r_1 q17 ω11 (fun H_2 hl_18 o20 k19 => ?_)
   have l21 := k19.1
   have g22 := g_4.transA k19
   have l23 := g22.1
   obtain ⟨b24, f_25, q26⟩ := (o20.isL).pos ω0
   refine ⟨by omega, by omega, b24, f_25, q26, ?_⟩
   refine Lt.setS o20 q26 ω11 (fun H_3 hl_27 o29 k28 => ?_)
   have l30 := k28.1
   have g31 := g22.transA k28
   have l_32 := g31.1
   rw [show IntKind.wrap .i64 (i + 1) = (i + 1) from wrap64 ω2 ω2]
   refine f2z_n1 (μ - 1) ω17 ⟨_, o29, ω13, ω2, g31, ω1, ω1, ω17, ω12⟩
  ·have e := e.trans (cond_f c8)
   have c_8' := of_decide_eq_false c8
   rw [f2z_x1_0]
   rw [e] at hk
   exact hk H_1 g_4 r_1
theorem f2z_ok : FnOk Try.prog 244 S_f2z := by
 refine FnOk.body mix_ok E_f2z_ok Try.func244 rfl ω15 ω15 ?_ ?_ ?_ ?_ ?_
 ·intro args H K K' h hk
  simp only [S_f2z] at *
  unfold F_f2z at *
  split at hk
  ·obtain ⟨lo, ra, i_data, bd_33, pr0, pr1, pr2, pr3, pr4, k⟩ := hk
   exact ⟨lo, ra, i_data, bd_33, pr0, pr1, pr2, pr3, pr4, (fun H' gg ow => h _ _ (k H' gg ow))⟩
  ·exact hk.elim
 ·intro hq; cases hq
 ·intro args H K hk
  simp only [S_f2z] at *
  unfold F_f2z at *
  split at hk
  ·obtain ⟨lo, ra, i_data, bd_33, pr0, pr1, pr2, pr3, pr4, k⟩ := hk
   exact (i_data.put _ (by exact slices_swapRange_len _ _ _ _ (by omega) (by omega))).elim fun H1 h => ⟨_, _, k H1 h.1 h.2⟩
  ·exact hk.elim
 ·intro hq; cases hq
 ·have mm := @f2z_main
  have ml := fun (args : List Value) (H : AHeap) (K : Value → AHeap → Prop) => bodyL_body (P := Try.prog) (env := E_f2z ) (fn := Try.f244) (args := args) (H := H) (K := K) E_f2z_ok 
  revert mm ml
  generalize bodyK Try.prog E_f2z Try.f244 = Q
  generalize bodyL Try.prog E_f2z Try.f244 = QL
  intro mm ml args H K hk
  simp only [S_f2z] at *
  unfold F_f2z at *
  split at hk
  ·exact ml _ H K (mm _ _ _ _ _ _ H K hk)
  ·exact hk.elim

def p_f4z_l1 (ra : LN) (a : Int) (m : Int) (b : Int) : Nat → Int → Int → LN → LN
 | 0, _, _, _ => []
 | μ + 1, i, j, y1_1 => (bif (i : Int) != j then (bif decide ((j : Int) < i) then (p_f4z_l1 ra a m b μ (i - j) j ((p_f2z y1_1 (m - i) m j))) else (p_f4z_l1 ra a m b μ i (j - i) ((p_f2z y1_1 (m - i) (((m + j) - i)) i)))) else (p_f2z y1_1 (m - i) m i))
def p_f4z_l1_s := fun ra a m b μ i j y1_1 => @p_f4z_l1.eq_2 ra a m b i j y1_1 μ
def p_f4z (ra : LN) (a : Int) (m : Int) (b : Int) : LN := (p_f4z_l1 ra a m b (Int.toNat ((m - a) + (b - m)) + 1) (m - a) (b - m) ra)
def p_f4z_eq := @p_f4z.eq_1
def T_f4z (ia : OA) (ja : Nat) (ka : Nat) (a : Int) (m : Int) (b : Int) (H : AHeap) (K : AHeap → Prop) : Prop := ∃ lo : Nat, ∃ (ra : LN), OwnS fF H lo ia ja ka ra ∧ ra.length < 1073741824 ∧ 0 ≤ a ∧ a < m ∧ m < b ∧ b ≤ ra.length ∧ ((∀ H' : AHeap, KeepA ia H H' → OwnS fF H' lo ia ja ka (p_f4z ra a m b) → K  H'))
theorem T_f4z_i {ia : OA} {ja : Nat} {ka : Nat} {a : Int} {m : Int} {b : Int} {H : AHeap} {K : AHeap → Prop} (h : ∃ lo : Nat, ∃ (ra : LN), OwnS fF H lo ia ja ka ra ∧ ra.length < 1073741824 ∧ 0 ≤ a ∧ a < m ∧ m < b ∧ b ≤ ra.length ∧ ((∀ H' : AHeap, KeepA ia H H' → OwnS fF H' lo ia ja ka (p_f4z ra a m b) → K  H'))) : T_f4z ia ja ka a m b H K := h
theorem slices_rotate_loop (l : LN) (a m b : Int) (ha : 0 ≤ a) : ∀ (μ : Nat) (i j : Int) (y : LN), i + j ≤ μ → 0 < i → 0 < j → i ≤ m - a →
  p_f4z_l1 l a m b (μ + 1) i j y = So.rot (μ + 1) y m.toNat i.toNat j.toNat := by
 intro μ
 induction μ with
 | zero => intro i j y h1 h2 h3; omega
 | succ μ ih =>
  intro i j y h1 h2 h3 h4
  rw [p_f4z_l1_s]
  unfold So.rot
  by_cases hij : i = j
  ·subst hij
   rw [if_pos rfl, show ((i : Int) != i) = false by simp, cond_false, slices_swapRange_eq _ _ _ _ ω2 ω2]
   rw [show (m - i).toNat = m.toNat - i.toNat by omega]
  ·have hne : ((i : Int) != j) = true := by simpa using hij
   rw [hne, cond_true, if_neg ω2]
   by_cases hlt : j < i
   ·rw [decide_eq_true hlt, cond_true, if_pos ω2, slices_swapRange_eq _ _ _ _ ω2 ω2, ih _ _ _ ω2 ω2 h3 ω2]
    rw [show (m - i).toNat = m.toNat - i.toNat by omega, show (i - j).toNat = i.toNat - j.toNat by omega]
   ·rw [decide_eq_false hlt, cond_false, if_neg ω2, slices_swapRange_eq _ _ _ _ ω2 ω2, ih _ _ _ ω2 h2 ω2 h4]
    rw [show (m - i).toNat = m.toNat - i.toNat by omega, show (j - i).toNat = j.toNat - i.toNat by omega, show (m + j - i).toNat = m.toNat + j.toNat - i.toNat by omega]
theorem slices_rotate_eq (l : LN) (a m b : Int) (ha : 0 ≤ a) (h1 : a < m) (h2 : m < b) : p_f4z l a m b = So.rot ((b - a).toNat + 1) l m.toNat (m - a).toNat (b - m).toNat := by
 rw [p_f4z_eq, slices_rotate_loop l a m b ha _ _ _ _ ω2 ω2 ω2 ω2, show (m - a + (b - m)).toNat = (b - a).toNat by omega]
theorem slices_rotate_len (l : LN) (a m b : Int) (ha : 0 ≤ a) (h1 : a < m) (h2 : m < b) : (p_f4z l a m b).length = l.length := by
 rw [slices_rotate_eq l a m b ha h1 h2, So.rot_length]
/-! f4z: function 241 -/
def E_f4z : Env := envOf [(244, S_f2z)]
def F_f4z : List Value → AHeap → (Value → AHeap → Prop) → Prop
 | [.slice ia ja ka, .int .i64 a, .int .i64 m, .int .i64 b, .func (.func 174) ⟨[]⟩ ⟨[]⟩], H, K => T_f4z ia ja ka a m b H fun  (H' : AHeap) => K (.tuple #[]) H'
 | _, _, _ => False
def S_f4z : FSpec := { F := F_f4z, quiet := false, tame := false }
theorem f4z_vc (ia : OA) (ja : Nat) (ka : Nat) (a : Int) (m : Int) (b : Int) (H : AHeap) (K : Value → AHeap → Prop) : bodyL Try.prog E_f4z Try.f241 [.slice ia ja ka, .int .i64 a, .int .i64 m, .int .i64 b, .func (.func 174) #[] #[]] H K =
 (loopK (exL Try.prog E_f4z (cl (cl (cl (cr (cr (bodyC Try.f241)))))) 3093 0 [(0, 1045)]) (.slice ia ja ka :: ud :: .int .i64 m :: ud :: .func (.func 174) #[] #[] :: ud5 (.int .i64 (IntKind.wrap .i64 (m - a)) :: .int .i64 (IntKind.wrap .i64 (b - m)) :: ud46 [])) H (blockQ 0 (seqQ (exL Try.prog E_f4z (cr (cr (cr (bodyC Try.f241)))) 0 0 []) (retK Try.prog Try.f241 K)))) := by kernel_rfl
abbrev f4z_P1 (ia : OA) (ka : Nat) (ja : Nat) (m : Int) (i : Int) (j : Int)  : List Value := (.slice ia ja ka :: ud :: .int .i64 m :: ud :: .func (.func 174) #[] #[] :: ud5 (.int .i64 i :: .int .i64 j :: ud46 []))
theorem f4z_r1 (ia : OA) (ka : Nat) (ja : Nat) (m : Int) (i : Int) (j : Int)  (H : AHeap) (R : Post) : exL Try.prog E_f4z (cl (cl (cl (cr (cr (bodyC Try.f241)))))) 3093 0 [(0, 1045)] (f4z_P1 ia ka ja m i j) H R =
 (Br ((i : Int) != j) (Br (decide ((j : Int) < i)) (T_f2z ia ja ka (IntKind.wrap .i64 (m - i)) m j H fun  (H1 : AHeap) => R .normal (.slice ia ja ka :: ud :: .int .i64 m :: ud :: .func (.func 174) #[] #[] :: ud5 (.int .i64 (IntKind.wrap .i64 (i - j)) :: .int .i64 j :: ud46 [])) H1) (T_f2z ia ja ka (IntKind.wrap .i64 (m - i)) (IntKind.wrap .i64 ((IntKind.wrap .i64 (m + j)) - i)) i H fun  (H2 : AHeap) => R .normal (.slice ia ja ka :: ud :: .int .i64 m :: ud :: .func (.func 174) #[] #[] :: ud5 (.int .i64 i :: .int .i64 (IntKind.wrap .i64 (j - i)) :: ud46 [])) H2)) (R (.exit 0) (.slice ia ja ka :: ud :: .int .i64 m :: ud :: .func (.func 174) #[] #[] :: ud5 (.int .i64 i :: ud47 [])) H)) := by kernel_rfl
def f4z_I1 (ia : OA) (ka : Nat) (ja : Nat) (m : Int) (Inv : Nat → Int → Int → AHeap → Prop) : Nat → List Value → AHeap → Prop := fun μ tm H => ∃ (i : Int), ∃ (j : Int), tm = (f4z_P1 ia ka ja m i j) ∧ Inv μ i j H
theorem f4z_L1 (ia : OA) (ka : Nat) (ja : Nat) (m : Int) {Q : Post} (Inv : Nat → Int → Int → AHeap → Prop) (ν : Nat) (i : Int) (j : Int)  (H : AHeap) (h0 : Inv ν i j H)
  (hs : ∀ (μ : Nat) (i : Int) (j : Int)  (H : AHeap), Inv μ i j H → exL Try.prog E_f4z (cl (cl (cl (cr (cr (bodyC Try.f241)))))) 3093 0 [(0, 1045)] (f4z_P1 ia ka ja m i j) H (loopQ (f4z_I1 ia ka ja m Inv) μ Q)) : loopK (exL Try.prog E_f4z (cl (cl (cl (cr (cr (bodyC Try.f241)))))) 3093 0 [(0, 1045)]) (f4z_P1 ia ka ja m i j) H Q :=
 ⟨f4z_I1 ia ka ja m Inv, ν, ⟨i, j, rfl, h0⟩, fun μ tm H h => by obtain ⟨i, j, rfl, hI⟩ := h; exact hs μ i j  H hI⟩
theorem f4z_n1 {ia : OA} {ka : Nat} {ja : Nat} {m : Int} {Q : Post} {Inv : Nat → Int → Int → AHeap → Prop} {μ : Nat} (μ' : Nat) {i : Int} {j : Int}  {H : AHeap} (hm : μ' < μ) (hI : Inv μ' i j H) : loopQ (f4z_I1 ia ka ja m Inv) μ Q .normal (f4z_P1 ia ka ja m i j) H := ⟨μ', hm, i, j, rfl, hI⟩
theorem f4z_x1_0 (ia : OA) (ka : Nat) (ja : Nat) (m : Int) (i : Int) (H : AHeap) (K : Value → AHeap → Prop)  {I : Nat → List Value → AHeap → Prop} {μ : Nat} : loopQ I μ (blockQ 0 (seqQ (exL Try.prog E_f4z (cr (cr (cr (bodyC Try.f241)))) 0 0 []) (retK Try.prog Try.f241 K))) (.exit 0) (.slice ia ja ka :: ud :: .int .i64 m :: ud :: .func (.func 174) #[] #[] :: ud5 (.int .i64 i :: ud47 [])) H =
 (T_f2z ia ja ka (IntKind.wrap .i64 (m - i)) m i H fun  (H3 : AHeap) => K (.tuple #[]) H3) := by kernel_rfl
theorem E_f4z_ok : ∀ g, FnOk Try.prog g (E_f4z g) := FnOk.envOf (by
 intro x hx
 simp only [List.mem_cons, List.not_mem_nil, or_false] at hx
 subst hx; exact f2z_ok)
theorem f4z_main (ia : OA) (ja : Nat) (ka : Nat) (a : Int) (m : Int) (b : Int) (H : AHeap) (K : Value → AHeap → Prop) (h : T_f4z ia ja ka a m b H fun  (H' : AHeap) => K (.tuple #[]) H') : bodyL Try.prog E_f4z Try.f241 [.slice ia ja ka, .int .i64 a, .int .i64 m, .int .i64 b, .func (.func 174) #[] #[]] H K := by
 rw [f4z_vc]
 obtain ⟨lo, ra, i_data, bd_30, pr0, pr1, pr2, pr3, hk⟩ := h
 obtain rfl := i_data.len
 have up_m := i_data.up
 have lo_m := i_data.lo
 have e : (p_f4z ra a m b) = _ := rfl
 have e := e.trans (p_f4z_eq ra a m b)
 have g0 := KeepA.refl ia H
 rw [show IntKind.wrap .i64 (m - a) = (m - a) from wrap64 ω2 ω2]
 rw [show IntKind.wrap .i64 (b - m) = (b - m) from wrap64 ω2 ω2]
 refine f4z_L1 _ _ _ _ (fun (μ : Nat) (i : Int) (j : Int) (H_1 : AHeap) => ∃ (y1_1 : LN), OwnS fF H_1 lo ia ra.length ka y1_1 ∧ y1_1.length = (ra).length ∧ H.length ≤ H_1.length ∧ KeepA ia H H_1 ∧ 0 < i ∧ 0 < j ∧ i ≤ m - a ∧ j ≤ b - m ∧ i + j ≤ (μ : Int) ∧ p_f4z ra a m b = p_f4z_l1 ra a m b (μ + 1) i j y1_1) (Int.toNat ((m - a) + (b - m))) _ _ H ?_ ?_
 ·exact ⟨_, i_data, ω20, ω2, g0, ω7, ω7, ω7, ω7, ω2, e⟩
 ·intro μ i j  H_1 hI
  obtain ⟨y1_1, r_1, y_2, n3, g_4, v5, v6, v7, v8, hμ, e⟩ := hI
  rw [f4z_r1]
  have e := e.trans (p_f4z_l1_s ra a m b μ i j y1_1)
  have l9 := g_4.1
  refine Br.intro (fun c10 => ?_) (fun c10 => ?_)
  ·have e := e.trans (cond_t c10)
   have c_10' := ine_t c10
   refine Br.intro (fun c11 => ?_) (fun c11 => ?_)
   ·have e := e.trans (cond_t c11)
    have c_11' := of_decide_eq_true c11
    rw [show IntKind.wrap .i64 (m - i) = (m - i) from wrap64 ω2 ω2]
    refine T_f2z_i ⟨_, _, r_1, ω0, ω4, ω4, ω4, ω4, ω4, (fun H_2 k13 o14 => ?_)⟩
    have z12 := slices_swapRange_len y1_1 (m - i) m j ω2 ω2
    have l15 := k13.1
    have g16 := g_4.transA k13
    have l17 := g16.1
    rw [show IntKind.wrap .i64 (i - j) = (i - j) from wrap64 ω2 ω2]
    refine f4z_n1 (μ - 1) ω17 ⟨_, o14, ω13, ω2, g16, ω1, ω1, ω1, ω1, ω17, ω12⟩
   ·have e := e.trans (cond_f c11)
    have c_11' := of_decide_eq_false c11
    rw [show IntKind.wrap .i64 (m - i) = (m - i) from wrap64 ω2 ω2]
    rw [show IntKind.wrap .i64 (m + j) = (m + j) from wrap64 ω2 ω2]
    rw [show IntKind.wrap .i64 ((m + j) - i) = ((m + j) - i) from wrap64 ω2 ω2]
    refine T_f2z_i ⟨_, _, r_1, ω0, ω4, ω4, ω4, ω4, ω4, (fun H_3 k19 o20 => ?_)⟩
    have z18 := slices_swapRange_len y1_1 (m - i) (((m + j) - i)) i ω2 ω2
    have l21 := k19.1
    have g22 := g_4.transA k19
    have l23 := g22.1
    rw [show IntKind.wrap .i64 (j - i) = (j - i) from wrap64 ω2 ω2]
    refine f4z_n1 (μ - 1) ω17 ⟨_, o20, ω13, ω2, g22, ω1, ω1, ω1, ω1, ω17, ω12⟩
  ·have e := e.trans (cond_f c10)
   have c_10' := ine_f c10
   rw [f4z_x1_0]
   rw [show IntKind.wrap .i64 (m - i) = (m - i) from wrap64 ω2 ω2]
   refine T_f2z_i ⟨_, _, r_1, ω0, ω4, ω4, ω4, ω4, ω4, (fun H_4 k25 o26 => ?_)⟩
   have z24 := slices_swapRange_len y1_1 (m - i) m i ω2 ω2
   have l27 := k25.1
   have g28 := g_4.transA k25
   have l29 := g28.1
   rw [e] at hk
   exact hk H_4 g28 o26
theorem f4z_ok : FnOk Try.prog 241 S_f4z := by
 refine FnOk.body mix_ok E_f4z_ok Try.func241 rfl ω15 ω15 ?_ ?_ ?_ ?_ ?_
 ·intro args H K K' h hk
  simp only [S_f4z] at *
  unfold F_f4z at *
  split at hk
  ·obtain ⟨lo, ra, i_data, bd_30, pr0, pr1, pr2, pr3, k⟩ := hk
   exact ⟨lo, ra, i_data, bd_30, pr0, pr1, pr2, pr3, (fun H' gg ow => h _ _ (k H' gg ow))⟩
  ·exact hk.elim
 ·intro hq; cases hq
 ·intro args H K hk
  simp only [S_f4z] at *
  unfold F_f4z at *
  split at hk
  ·obtain ⟨lo, ra, i_data, bd_30, pr0, pr1, pr2, pr3, k⟩ := hk
   exact (i_data.put _ (by exact slices_rotate_len _ _ _ _ (by omega) (by omega) (by omega))).elim fun H1 h => ⟨_, _, k H1 h.1 h.2⟩
  ·exact hk.elim
 ·intro hq; cases hq
 ·have mm := @f4z_main
  have ml := fun (args : List Value) (H : AHeap) (K : Value → AHeap → Prop) => bodyL_body (P := Try.prog) (env := E_f4z ) (fn := Try.f241) (args := args) (H := H) (K := K) E_f4z_ok 
  revert mm ml
  generalize bodyK Try.prog E_f4z Try.f241 = Q
  generalize bodyL Try.prog E_f4z Try.f241 = QL
  intro mm ml args H K hk
  simp only [S_f4z] at *
  unfold F_f4z at *
  split at hk
  ·exact ml _ H K (mm _ _ _ _ _ _ H K hk)
  ·exact hk.elim
end Go.Proofs.Ytbnplefohfamnaa.Ai
