/- What functions of the program come to on the abstract machine, and that they do so; printed by a program of mine around proofs of mine. -/
import Derived.Test.YtbnplefohfamnaaFFnExactDenoise3
set_option linter.unusedVariables false
set_option linter.unusedSimpArgs false
set_option linter.defProp false
set_option maxRecDepth 100000
set_option maxHeartbeats 1000000
namespace Go.Proofs.Ytbnplefohfamnaa.Ai
open Go
attribute [local irreducible] bodyK bodyL

def p_f17z_l2 (xb : LN) (bc : LN) (ba : LN) (t46 : Int) (y1_1 : LN) (k2_2 : Int → LN → (LN × Bool)) : Nat → Int → LN → LN × Bool
 | 0, _, _ => ([], false)
 | μ2 + 1, t52, y2_1 => (bif decide ((t52 : Int) < (ba.length : Int)) then (p_f17z_l2 xb bc ba t46 y1_1 k2_2 μ2 (t52 + 1) (((y2_1).set (Int.tmod (((2 * t46) + t52)) ((2 * (xb.length : Int))) : Int).toNat ((fadd .f32 (((y2_1).getD (Int.tmod (((2 * t46) + t52)) ((2 * (xb.length : Int))) : Int).toNat 0)) (fadd .f32 (fmul .f32 (((ba).getD (t52 : Int).toNat 0)) (((xb).getD (t46 : Int).toNat 0))) (fmul .f32 ((((p_f1tz ba)).getD (t52 : Int).toNat 0)) (((bc).getD (t46 : Int).toNat 0))))))))) else (k2_2 t52 y2_1))
def p_f17z_l2_s := fun xb bc ba t46 y1_1 k2_2 μ2 t52 y2_1 => @p_f17z_l2.eq_2 xb bc ba t46 y1_1 k2_2 t52 y2_1 μ2
def p_f17z_l1 (xb : LN) (bc : LN) (ba : LN) : Nat → Int → LN → LN × Bool
 | 0, _, _ => ([], false)
 | μ + 1, t46, y1_1 => (bif decide ((t46 : Int) < (xb.length : Int)) then (p_f17z_l2 xb bc ba t46 y1_1 (fun (t52 : Int) (y2_1 : LN) => (p_f17z_l1 xb bc ba μ (t46 + 1) y2_1)) (Int.toNat ((ba.length : Int) - (0 : Int)) + 1) (0 : Int) y1_1) else (bif (p_fiz y1_1).2 then (y1_1, true) else ([], false)))
def p_f17z_l1_s := fun xb bc ba μ t46 y1_1 => @p_f17z_l1.eq_2 xb bc ba t46 y1_1 μ
def p_f17z (xb : LN) (bc : LN) (ba : LN) : LN × Bool := ((bif !((p_f1yz (xb.length : Int) (1 : Int) (64 : Int))) then ([], false) else (bif ((bc.length : Int) : Int) != (xb.length : Int) then ([], false) else (bif !((p_fvz ([xb, bc]))) then ([], false) else (bif !(p_fuz ba) then ([], false) else (p_f17z_l1 xb bc ba (Int.toNat ((xb.length : Int) - (0 : Int)) + 1) (0 : Int) (List.replicate (((2 * (xb.length : Int))).toNat) 0)))))))
def p_f17z_eq := @p_f17z.eq_1
def T_f17z (gc : OA) (tb : Nat) (kc : Nat) (sb : OA) (ub : Nat) (vb : Nat) (p_Low_a : OA) (p_Low_n : Nat) (p_Low_e : Nat) (H : AHeap) (K : OA → Nat → Nat → Bool → AHeap → Prop) : Prop := ∃ (xb : LN), ∃ (bc : LN), ∃ (ba : LN), IsL fF H gc tb xb ∧ IsL fF H sb ub bc ∧ IsL fF H p_Low_a p_Low_n ba ∧ xb.length < 1073741824 ∧ bc.length < 1073741824 ∧ ba.length < 1073741824 ∧ ((∀ (ib : OA) (kb jb : Nat), ∀ H' : AHeap, Grow H H' → OwnS fF H' H.length ib kb jb ((p_f17z xb bc ba).1) → K ib kb jb ((p_f17z xb bc ba).2) H'))
theorem T_f17z_i {gc : OA} {tb : Nat} {kc : Nat} {sb : OA} {ub : Nat} {vb : Nat} {p_Low_a : OA} {p_Low_n : Nat} {p_Low_e : Nat} {H : AHeap} {K : OA → Nat → Nat → Bool → AHeap → Prop} (h : ∃ (xb : LN), ∃ (bc : LN), ∃ (ba : LN), IsL fF H gc tb xb ∧ IsL fF H sb ub bc ∧ IsL fF H p_Low_a p_Low_n ba ∧ xb.length < 1073741824 ∧ bc.length < 1073741824 ∧ ba.length < 1073741824 ∧ ((∀ (ib : OA) (kb jb : Nat), ∀ H' : AHeap, Grow H H' → OwnS fF H' H.length ib kb jb ((p_f17z xb bc ba).1) → K ib kb jb ((p_f17z xb bc ba).2) H'))) : T_f17z gc tb kc sb ub vb p_Low_a p_Low_n p_Low_e H K := h
theorem f17z_l2_P (N : Nat) (P : LN × Bool → Prop) (h0 : P ([], false)) (a b c : LN) (t : Int) (y : LN) (K : Int → LN → LN × Bool) : ∀ (μ : Nat) (j : Int) (z : LN), z.length = N → (∀ j z, z.length = N → P (K j z)) → P (p_f17z_l2 a b c t y K μ j z) := by
 intro μ
 induction μ with
 | zero => intro j z hz hK; exact h0
 | succ μ ih =>
  intro j z hz hK
  rw [p_f17z_l2_s]
  exact cnb (P := P) (fun _ => ih _ _ (by rw [List.length_set]; exact hz) hK) (fun _ => hK _ _ hz)
theorem f17z_len (a b c : LN) : (p_f17z a b c).1.length ≤ 128 := by
 have go : ∀ (N : Nat), N ≤ 128 → ∀ (μ : Nat) (j : Int) (z : LN), z.length = N → (p_f17z_l1 a b c μ j z).1.length ≤ 128 := by
  intro N hN μ
  induction μ with
  | zero => intro j z hz; exact Nat.zero_le _
  | succ μ ih =>
   intro j z hz
   rw [p_f17z_l1_s]
   refine cnb (P := fun r : LN × Bool => r.1.length ≤ 128) (fun _ => ?_) (fun _ => cnb (P := fun r : LN × Bool => r.1.length ≤ 128) (fun _ => by show z.length ≤ 128; omega) (fun _ => Nat.zero_le _))
   exact f17z_l2_P N (fun r => r.1.length ≤ 128) (Nat.zero_le _) _ _ _ _ _ _ _ _ _ hz (fun j z hz => ih _ _ hz)
 rw [p_f17z_eq]
 refine cnb (P := fun r : LN × Bool => r.1.length ≤ 128) (fun _ => Nat.zero_le _) (fun hc => ?_)
 have hw := f1yz_t (nt_of_f hc)
 refine cnb (P := fun r : LN × Bool => r.1.length ≤ 128) (fun _ => Nat.zero_le _) (fun _ => ?_)
 refine cnb (P := fun r : LN × Bool => r.1.length ≤ 128) (fun _ => Nat.zero_le _) (fun _ => ?_)
 refine cnb (P := fun r : LN × Bool => r.1.length ≤ 128) (fun _ => Nat.zero_le _) (fun _ => ?_)
 refine go (2 * a.length) ω2 _ _ _ ?_
 first | (rw [List.length_replicate, wrap64 ω2 ω2]; omega) | (rw [List.length_replicate]; omega)
/-! f17z: function 180 -/
def E_f17z : Env := envOf [(96, S_f1yz), (166, S_fvz), (178, S_fuz), (205, S_f1tz), (109, S_fiz)]
def F_f17z : List Value → AHeap → (Value → AHeap → Prop) → Prop
 | [.slice gc tb kc, .slice sb ub vb, .agg ⟨[.slice p_Low_a p_Low_n p_Low_e]⟩], H, K => T_f17z gc tb kc sb ub vb p_Low_a p_Low_n p_Low_e H fun (ib : OA) (kb : Nat) (jb : Nat) (r2 : Bool) (H' : AHeap) => K (.tuple #[.slice ib kb jb, .bool r2]) H'
 | _, _, _ => False
def S_f17z : FSpec := { F := F_f17z, quiet := false, tame := true }
theorem f17z_vc (gc : OA) (tb : Nat) (kc : Nat) (sb : OA) (ub : Nat) (vb : Nat) (p_Low_a : OA) (p_Low_n : Nat) (p_Low_e : Nat) (H : AHeap) (K : Value → AHeap → Prop) : bodyL Try.prog E_f17z Try.f180 [.slice gc tb kc, .slice sb ub vb, .agg #[.slice p_Low_a p_Low_n p_Low_e]] H K =
 (Al [.slice p_Low_a p_Low_n p_Low_e] H fun b1 H1 => T_f1yz (tb : Int) 1 64 H1 fun (r1 : Bool) (H2 : AHeap) => Br (!r1) (K (.tuple #[.slice none 0 0, .bool false]) H2) (Br (((ub : Int) : Int) != (tb : Int)) (K (.tuple #[.slice none 0 0, .bool false]) H2) (Al [.slice gc tb kc, .slice sb ub vb] H2 fun b2 H3 => T_fvz (some ⟨b2, 0, none⟩) 2 1 H3 fun (r2 : Bool) (H4 : AHeap) => Br (!r2) (K (.tuple #[.slice none 0 0, .bool false]) H4) (∃ xe : OA, ∃ ze : Nat, ∃ ye : Nat,  rdN H4 b1 0 1 = some [.slice xe ze ye] ∧ T_fuz xe ze ye H4 fun (r3 : Bool) (H5 : AHeap) => Br (!r3) (K (.tuple #[.slice none 0 0, .bool false]) H5) (∃ af : OA, ∃ cf : Nat, ∃ bf : Nat,  rdN H5 b1 0 1 = some [.slice af cf bf] ∧ T_f1tz af cf bf H5 fun (a1 : OA) (r4 : Nat) (r5 : Nat) (H6 : AHeap) => (0 : Int) ≤ IntKind.wrap .i64 (2 * (tb : Int)) ∧ IntKind.wrap .i64 (2 * (tb : Int)) = IntKind.wrap .i64 (2 * (tb : Int)) ∧ IntKind.wrap .i64 (2 * (tb : Int)) < (most : Int) ∧ Al (zerosOf (.float .f32 0) (IntKind.wrap .i64 (2 * (tb : Int))).toNat) H6 fun b3 H7 => loopK (exL Try.prog E_f17z (cl (cl (cr (cl (cr (cr (cr (cr (cr (bodyC Try.f180)))))))))) 105553116268323 192 [(0, 1024)]) (.slice gc tb kc :: .slice sb ub vb :: ud3 (.pointer (some ⟨b1, 0, none⟩) :: ud2 (.slice a1 r4 r5 :: .int .i64 (IntKind.wrap .i64 (2 * (tb : Int))) :: .slice (some ⟨b3, 0, none⟩) ((IntKind.wrap .i64 (2 * (tb : Int))).toNat) 1 :: ud34 (.int .i64 (tb : Int) :: .int .i64 0 :: ud43 [])))) H7 (blockQ 0 (seqQ (exL Try.prog E_f17z (cr (cr (cr (cr (cr (cr (bodyC Try.f180))))))) 192 192 []) (retK Try.prog Try.f180 K)))))))) := by kernel_rfl
abbrev f17z_P1 (a1 : OA) (b1 : Nat) (sb : OA) (vb : Nat) (ub : Nat) (gc : OA) (kc : Nat) (tb : Nat) (r4 : Nat) (r5 : Nat) (vc : OA) (wc : Nat) (z1_9 : Int) (t46 : Int)  : List Value := (.slice gc tb kc :: .slice sb ub vb :: ud3 (.pointer (some ⟨b1, 0, none⟩) :: ud2 (.slice a1 r4 r5 :: .int .i64 z1_9 :: .slice vc wc 1 :: ud34 (.int .i64 (tb : Int) :: .int .i64 t46 :: ud43 []))))
theorem f17z_r1 (a1 : OA) (b1 : Nat) (sb : OA) (vb : Nat) (ub : Nat) (gc : OA) (kc : Nat) (tb : Nat) (r4 : Nat) (r5 : Nat) (vc : OA) (wc : Nat) (z1_9 : Int) (t46 : Int)  (H : AHeap) (R : Post) : exL Try.prog E_f17z (cl (cl (cr (cl (cr (cr (cr (cr (cr (bodyC Try.f180)))))))))) 105553116268323 192 [(0, 1024)] (f17z_P1 a1 b1 sb vb ub gc kc tb r4 r5 vc wc z1_9 t46) H R =
 (Br (decide ((t46 : Int) < (tb : Int))) (∃ sc : OA, ∃ bb : Nat, ∃ tc : Nat,  rdC H b1 0 = some (.slice sc bb tc) ∧ loopK (exL Try.prog E_f17z (cl (cl (cr (cr (cl (cl (cr (cr (cl (cl (cr (cl (cr (cr (cr (cr (cr (bodyC Try.f180)))))))))))))))))) 7986852464168739 192 [(2, 105553116268323), (1, 105553116268323), (0, 1024)]) (.slice gc tb kc :: .slice sb ub vb :: ud3 (.pointer (some ⟨b1, 0, none⟩) :: ud2 (.slice a1 r4 r5 :: .int .i64 z1_9 :: .slice vc wc 1 :: .int .i64 t46 :: ud33 (.int .i64 (tb : Int) :: .int .i64 t46 :: ud3 (.slice sc bb tc :: .int .i64 (bb : Int) :: .int .i64 0 :: ud37 []))))) H (blockQ 2 (blockQ 1 (seqQ (exL Try.prog E_f17z (cr (cr (cr (cl (cl (cr (cl (cr (cr (cr (cr (cr (bodyC Try.f180))))))))))))) 105553116268323 192 [(0, 1024)]) (R))))) (R (.exit 0) (ud10 (.slice vc wc 1 :: ud79 [])) H)) := by kernel_rfl
def f17z_I1 (a1 : OA) (b1 : Nat) (sb : OA) (vb : Nat) (ub : Nat) (gc : OA) (kc : Nat) (tb : Nat) (r4 : Nat) (r5 : Nat) (vc : OA) (wc : Nat) (z1_9 : Int) (Inv : Nat → Int → AHeap → Prop) : Nat → List Value → AHeap → Prop := fun μ tm H => ∃ (t46 : Int), tm = (f17z_P1 a1 b1 sb vb ub gc kc tb r4 r5 vc wc z1_9 t46) ∧ Inv μ t46 H
theorem f17z_L1 (a1 : OA) (b1 : Nat) (sb : OA) (vb : Nat) (ub : Nat) (gc : OA) (kc : Nat) (tb : Nat) (r4 : Nat) (r5 : Nat) (vc : OA) (wc : Nat) (z1_9 : Int) {Q : Post} (Inv : Nat → Int → AHeap → Prop) (ν : Nat) (t46 : Int)  (H : AHeap) (h0 : Inv ν t46 H)
  (hs : ∀ (μ : Nat) (t46 : Int)  (H : AHeap), Inv μ t46 H → exL Try.prog E_f17z (cl (cl (cr (cl (cr (cr (cr (cr (cr (bodyC Try.f180)))))))))) 105553116268323 192 [(0, 1024)] (f17z_P1 a1 b1 sb vb ub gc kc tb r4 r5 vc wc z1_9 t46) H (loopQ (f17z_I1 a1 b1 sb vb ub gc kc tb r4 r5 vc wc z1_9 Inv) μ Q)) : loopK (exL Try.prog E_f17z (cl (cl (cr (cl (cr (cr (cr (cr (cr (bodyC Try.f180)))))))))) 105553116268323 192 [(0, 1024)]) (f17z_P1 a1 b1 sb vb ub gc kc tb r4 r5 vc wc z1_9 t46) H Q :=
 ⟨f17z_I1 a1 b1 sb vb ub gc kc tb r4 r5 vc wc z1_9 Inv, ν, ⟨t46, rfl, h0⟩, fun μ tm H h => by obtain ⟨t46, rfl, hI⟩ := h; exact hs μ t46  H hI⟩
theorem f17z_n1 {a1 : OA} {b1 : Nat} {sb : OA} {vb : Nat} {ub : Nat} {gc : OA} {kc : Nat} {tb : Nat} {r4 : Nat} {r5 : Nat} {vc : OA} {wc : Nat} {z1_9 : Int} {Q : Post} {Inv : Nat → Int → AHeap → Prop} {μ : Nat} (μ' : Nat) {t46 : Int}  {H : AHeap} (hm : μ' < μ) (hI : Inv μ' t46 H) : loopQ (f17z_I1 a1 b1 sb vb ub gc kc tb r4 r5 vc wc z1_9 Inv) μ Q .normal (f17z_P1 a1 b1 sb vb ub gc kc tb r4 r5 vc wc z1_9 t46) H := ⟨μ', hm, t46, rfl, hI⟩
theorem f17z_x1_0 (vc : OA) (wc : Nat) (H : AHeap) (K : Value → AHeap → Prop)  {I : Nat → List Value → AHeap → Prop} {μ : Nat} : loopQ I μ (blockQ 0 (seqQ (exL Try.prog E_f17z (cr (cr (cr (cr (cr (cr (bodyC Try.f180))))))) 192 192 []) (retK Try.prog Try.f180 K))) (.exit 0) (ud10 (.slice vc wc 1 :: ud79 [])) H =
 (T_fiz vc wc 1 H fun (a2 : OA) (r6 : Nat) (r7 : Nat) (r8 : Bool) (H9 : AHeap) => K (.tuple #[.slice a2 r6 r7, .bool r8]) H9) := by kernel_rfl
abbrev f17z_P2 (a1 : OA) (b1 : Nat) (sb : OA) (vb : Nat) (ub : Nat) (gc : OA) (kc : Nat) (tb : Nat) (r4 : Nat) (r5 : Nat) (t46 : Int) (sc : OA) (tc : Nat) (bb : Nat) (vc : OA) (wc : Nat) (z1_9 : Int) (t52 : Int)  : List Value := (.slice gc tb kc :: .slice sb ub vb :: ud3 (.pointer (some ⟨b1, 0, none⟩) :: ud2 (.slice a1 r4 r5 :: .int .i64 z1_9 :: .slice vc wc 1 :: .int .i64 t46 :: ud33 (.int .i64 (tb : Int) :: .int .i64 t46 :: ud3 (.slice sc bb tc :: .int .i64 (bb : Int) :: .int .i64 t52 :: ud37 [])))))
theorem f17z_r2 (a1 : OA) (b1 : Nat) (sb : OA) (vb : Nat) (ub : Nat) (gc : OA) (kc : Nat) (tb : Nat) (r4 : Nat) (r5 : Nat) (t46 : Int) (sc : OA) (tc : Nat) (bb : Nat) (vc : OA) (wc : Nat) (z1_9 : Int) (t52 : Int)  (H : AHeap) (R : Post) : exL Try.prog E_f17z (cl (cl (cr (cr (cl (cl (cr (cr (cl (cl (cr (cl (cr (cr (cr (cr (cr (bodyC Try.f180)))))))))))))))))) 7986852464168739 192 [(2, 105553116268323), (1, 105553116268323), (0, 1024)] (f17z_P2 a1 b1 sb vb ub gc kc tb r4 r5 t46 sc tc bb vc wc z1_9 t52) H R =
 (Br (decide ((t52 : Int) < (bb : Int))) ((0 : Int) ≤ t52 ∧ t52 < (bb : Int) ∧ ∃ b4 f1, (sc : OA) = some ⟨b4, f1, none⟩ ∧ ∃ x2 : Nat,  rdC H b4 (f1 + (t52 : Int).toNat * 1) = some (.float .f32 x2) ∧ z1_9 ≠ (0 : Int) ∧ (0 : Int) ≤ Int.tmod (IntKind.wrap .i64 ((IntKind.wrap .i64 (2 * t46)) + t52)) z1_9 ∧ Int.tmod (IntKind.wrap .i64 ((IntKind.wrap .i64 (2 * t46)) + t52)) z1_9 < (wc : Int) ∧ ∃ b5 f2, (vc : OA) = some ⟨b5, f2, none⟩ ∧ ∃ x3 : Nat,  rdC H b5 (f2 + (Int.tmod (IntKind.wrap .i64 ((IntKind.wrap .i64 (2 * t46)) + t52)) z1_9 : Int).toNat * 1) = some (.float .f32 x3) ∧ (0 : Int) ≤ t46 ∧ t46 < (tb : Int) ∧ ∃ b6 f3, (gc : OA) = some ⟨b6, f3, none⟩ ∧ ∃ x4 : Nat,  rdC H b6 (f3 + (t46 : Int).toNat * 1) = some (.float .f32 x4) ∧ (0 : Int) ≤ t52 ∧ t52 < (r4 : Int) ∧ ∃ b7 f4, (a1 : OA) = some ⟨b7, f4, none⟩ ∧ ∃ x5 : Nat,  rdC H b7 (f4 + (t52 : Int).toNat * 1) = some (.float .f32 x5) ∧ (0 : Int) ≤ t46 ∧ t46 < (ub : Int) ∧ ∃ b8 f5, (sb : OA) = some ⟨b8, f5, none⟩ ∧ ∃ x6 : Nat,  rdC H b8 (f5 + (t46 : Int).toNat * 1) = some (.float .f32 x6) ∧ (0 : Int) ≤ Int.tmod (IntKind.wrap .i64 ((IntKind.wrap .i64 (2 * t46)) + t52)) z1_9 ∧ Int.tmod (IntKind.wrap .i64 ((IntKind.wrap .i64 (2 * t46)) + t52)) z1_9 < (wc : Int) ∧ ∃ b9 f6, (vc : OA) = some ⟨b9, f6, none⟩ ∧ isOwn H b9 ∧ (∃ l, rdN H b9 (f6 + (Int.tmod (IntKind.wrap .i64 ((IntKind.wrap .i64 (2 * t46)) + t52)) z1_9 : Int).toNat * 1) 1 = some l) ∧ Lt (setC H b9 (f6 + (Int.tmod (IntKind.wrap .i64 ((IntKind.wrap .i64 (2 * t46)) + t52)) z1_9 : Int).toNat * 1) (.float .f32 (fadd .f32 x3 (fadd .f32 (fmul .f32 x2 x4) (fmul .f32 x5 x6))))) fun H8 => R .normal (.slice gc tb kc :: .slice sb ub vb :: ud3 (.pointer (some ⟨b1, 0, none⟩) :: ud2 (.slice a1 r4 r5 :: .int .i64 z1_9 :: .slice vc wc 1 :: .int .i64 t46 :: ud33 (.int .i64 (tb : Int) :: .int .i64 t46 :: ud3 (.slice sc bb tc :: .int .i64 (bb : Int) :: .int .i64 (IntKind.wrap .i64 (t52 + 1)) :: ud37 []))))) H8) (R (.exit 2) (.slice gc tb kc :: .slice sb ub vb :: ud3 (.pointer (some ⟨b1, 0, none⟩) :: ud2 (.slice a1 r4 r5 :: .int .i64 z1_9 :: .slice vc wc 1 :: ud34 (.int .i64 (tb : Int) :: .int .i64 t46 :: ud43 [])))) H)) := by kernel_rfl
def f17z_I2 (a1 : OA) (b1 : Nat) (sb : OA) (vb : Nat) (ub : Nat) (gc : OA) (kc : Nat) (tb : Nat) (r4 : Nat) (r5 : Nat) (t46 : Int) (sc : OA) (tc : Nat) (bb : Nat) (vc : OA) (wc : Nat) (z1_9 : Int) (Inv : Nat → Int → AHeap → Prop) : Nat → List Value → AHeap → Prop := fun μ tm H => ∃ (t52 : Int), tm = (f17z_P2 a1 b1 sb vb ub gc kc tb r4 r5 t46 sc tc bb vc wc z1_9 t52) ∧ Inv μ t52 H
theorem f17z_L2 (a1 : OA) (b1 : Nat) (sb : OA) (vb : Nat) (ub : Nat) (gc : OA) (kc : Nat) (tb : Nat) (r4 : Nat) (r5 : Nat) (t46 : Int) (sc : OA) (tc : Nat) (bb : Nat) (vc : OA) (wc : Nat) (z1_9 : Int) {Q : Post} (Inv : Nat → Int → AHeap → Prop) (ν : Nat) (t52 : Int)  (H : AHeap) (h0 : Inv ν t52 H)
  (hs : ∀ (μ : Nat) (t52 : Int)  (H : AHeap), Inv μ t52 H → exL Try.prog E_f17z (cl (cl (cr (cr (cl (cl (cr (cr (cl (cl (cr (cl (cr (cr (cr (cr (cr (bodyC Try.f180)))))))))))))))))) 7986852464168739 192 [(2, 105553116268323), (1, 105553116268323), (0, 1024)] (f17z_P2 a1 b1 sb vb ub gc kc tb r4 r5 t46 sc tc bb vc wc z1_9 t52) H (loopQ (f17z_I2 a1 b1 sb vb ub gc kc tb r4 r5 t46 sc tc bb vc wc z1_9 Inv) μ Q)) : loopK (exL Try.prog E_f17z (cl (cl (cr (cr (cl (cl (cr (cr (cl (cl (cr (cl (cr (cr (cr (cr (cr (bodyC Try.f180)))))))))))))))))) 7986852464168739 192 [(2, 105553116268323), (1, 105553116268323), (0, 1024)]) (f17z_P2 a1 b1 sb vb ub gc kc tb r4 r5 t46 sc tc bb vc wc z1_9 t52) H Q :=
 ⟨f17z_I2 a1 b1 sb vb ub gc kc tb r4 r5 t46 sc tc bb vc wc z1_9 Inv, ν, ⟨t52, rfl, h0⟩, fun μ tm H h => by obtain ⟨t52, rfl, hI⟩ := h; exact hs μ t52  H hI⟩
theorem f17z_n2 {a1 : OA} {b1 : Nat} {sb : OA} {vb : Nat} {ub : Nat} {gc : OA} {kc : Nat} {tb : Nat} {r4 : Nat} {r5 : Nat} {t46 : Int} {sc : OA} {tc : Nat} {bb : Nat} {vc : OA} {wc : Nat} {z1_9 : Int} {Q : Post} {Inv : Nat → Int → AHeap → Prop} {μ : Nat} (μ' : Nat) {t52 : Int}  {H : AHeap} (hm : μ' < μ) (hI : Inv μ' t52 H) : loopQ (f17z_I2 a1 b1 sb vb ub gc kc tb r4 r5 t46 sc tc bb vc wc z1_9 Inv) μ Q .normal (f17z_P2 a1 b1 sb vb ub gc kc tb r4 r5 t46 sc tc bb vc wc z1_9 t52) H := ⟨μ', hm, t52, rfl, hI⟩
theorem f17z_x2_2 (a1 : OA) (b1 : Nat) (sb : OA) (vb : Nat) (ub : Nat) (gc : OA) (kc : Nat) (tb : Nat) (r4 : Nat) (r5 : Nat) (t46 : Int) (vc : OA) (wc : Nat) (z1_9 : Int) (H : AHeap)  (R : Post) {I : Nat → List Value → AHeap → Prop} {μ : Nat} : loopQ I μ (blockQ 2 (blockQ 1 (seqQ (exL Try.prog E_f17z (cr (cr (cr (cl (cl (cr (cl (cr (cr (cr (cr (cr (bodyC Try.f180))))))))))))) 105553116268323 192 [(0, 1024)]) (R)))) (.exit 2) (.slice gc tb kc :: .slice sb ub vb :: ud3 (.pointer (some ⟨b1, 0, none⟩) :: ud2 (.slice a1 r4 r5 :: .int .i64 z1_9 :: .slice vc wc 1 :: ud34 (.int .i64 (tb : Int) :: .int .i64 t46 :: ud43 [])))) H =
 (R .normal (.slice gc tb kc :: .slice sb ub vb :: ud3 (.pointer (some ⟨b1, 0, none⟩) :: ud2 (.slice a1 r4 r5 :: .int .i64 z1_9 :: .slice vc wc 1 :: ud34 (.int .i64 (tb : Int) :: .int .i64 (IntKind.wrap .i64 (t46 + 1)) :: ud43 [])))) H) := by kernel_rfl
theorem E_f17z_ok : ∀ g, FnOk Try.prog g (E_f17z g) := FnOk.envOf (by
 intro x hx
 simp only [List.mem_cons, List.not_mem_nil, or_false] at hx
 rcases hx with rfl | rfl | rfl | rfl | rfl
 ·exact f1yz_ok
 ·exact fvz_ok
 ·exact fuz_ok
 ·exact f1tz_ok
 ·exact fiz_ok)
theorem f17z_main (gc : OA) (tb : Nat) (kc : Nat) (sb : OA) (ub : Nat) (vb : Nat) (p_Low_a : OA) (p_Low_n : Nat) (p_Low_e : Nat) (H : AHeap) (K : Value → AHeap → Prop) (h : T_f17z gc tb kc sb ub vb p_Low_a p_Low_n p_Low_e H fun (ib : OA) (kb : Nat) (jb : Nat) (r2 : Bool) (H' : AHeap) => K (.tuple #[.slice ib kb jb, .bool r2]) H') : bodyL Try.prog E_f17z Try.f180 [.slice gc tb kc, .slice sb ub vb, .agg #[.slice p_Low_a p_Low_n p_Low_e]] H K := by
 rw [f17z_vc]
 obtain ⟨xb, bc, ba, i_low, i_high, i_p_Low, bd_142, bd_143, bd_144, hk⟩ := h
 obtain rfl := i_low.eqn
 obtain rfl := i_high.eqn
 obtain rfl := i_p_Low.eqn
 have e : (p_f17z xb bc ba) = _ := rfl
 have e := e.trans (p_f17z_eq xb bc ba)
 have g0 := Grow.refl H
 refine Al.intro (fun b_1 H_1 hb_2 hl_3 g_4 o_5 => ?_)
 have l7 := g_4.1
 have g8 := g0.trans g_4
 have l9 := g8.1
 have w141 := o_5.lt
 refine T_f1yz_i ?_
 refine Br.intro (fun c10 => ?_) (fun c10 => ?_)
 ·have e := e.trans (cond_t c10)
  have c_10n := nf_of_t c10
  rw [e] at hk
  exact hk _ _ _ H_1 g8 ω9
 ·have e := e.trans (cond_f c10)
  have c_10n := nt_of_f c10
  have c_10n' := f1yz_t c_10n
  refine Br.intro (fun c11 => ?_) (fun c11 => ?_)
  ·have e := e.trans (cond_t c11)
   have c_11' := ine_t c11
   rw [e] at hk
   exact hk _ _ _ H_1 g8 ω9
  ·have e := e.trans (cond_f c11)
   have c_11' := ine_f c11
   refine Al.intro (fun b_12 H_2 hb_13 hl_14 g15 o16 => ?_)
   have l18 := g15.1
   have g19 := g8.trans g15
   have l20 := g19.1
   have o21 := o_5.grow g15
   have w22 := o21.lt
   have w140 := o16.lt
   refine T_fvz_i ⟨[xb, bc], ⟨_, o16.rdAll rfl, LLc.cons (i_low.grow g19) (LLc.cons (i_high.grow g19) (LLc.nil _ _))⟩, ω0, ω6, ?_⟩
   refine Br.intro (fun c23 => ?_) (fun c23 => ?_)
   ·have e := e.trans (cond_t c23)
    have c_23n := nf_of_t c23
    rw [e] at hk
    exact hk _ _ _ H_2 g19 ω9
   ·have e := e.trans (cond_f c23)
    have c_23n := nt_of_f c23
    refine ⟨p_Low_a, ba.length, p_Low_e, (o21.rdN (Nat.le_of_ble_eq_true rfl)).trans rfl, ?_⟩
    refine T_fuz_i ⟨_, (i_p_Low.grow g19), ω0, fun  H_3 g24  => ?_⟩
    have l25 := g24.1
    have g26 := g19.trans g24
    have l27 := g26.1
    have o28 := o21.grow g24
    have w29 := o28.lt
    have o30 := o16.grow g24
    have w31 := o30.lt
    refine Br.intro (fun c32 => ?_) (fun c32 => ?_)
    ·have e := e.trans (cond_t c32)
     have c_32n := nf_of_t c32
     rw [e] at hk
     exact hk _ _ _ H_3 g26 ω9
    ·have e := e.trans (cond_f c32)
     have c_32n := nt_of_f c32
     have c_32n' := fuz_t c_32n
     refine ⟨p_Low_a, ba.length, p_Low_e, (o28.rdN (Nat.le_of_ble_eq_true rfl)).trans rfl, ?_⟩
     refine T_f1tz_i ⟨_, (i_p_Low.grow g26), ω0, fun a33 n34 e35 H_4 g38 r_36 => ?_⟩
     have z37 := f1tz_len ba
     have l39 := g38.1
     have g40 := g26.trans g38
     have l41 := g40.1
     have o42 := o28.grow g38
     have w43 := o42.lt
     have o44 := o30.grow g38
     have w45 := o44.lt
     obtain rfl := r_36.isL.eqn
     have u46 := r_36.up
     have u47 := r_36.lo
     rw [show IntKind.wrap .i64 (2 * (xb.length : Int)) = (2 * (xb.length : Int)) from wrap64 ω2 ω2]
     refine ⟨by omega, rfl, ω24, ?_⟩
     refine Al.intro (fun b49 H_5 hb_50 hl_51 g52 o53 => ?_)
     rw [zeros_map fF 0 _ rfl] at o53
     have l55 := g52.1
     have g56 := g40.trans g52
     have l57 := g56.1
     have o58 := o42.grow g52
     have w59 := o58.lt
     have o60 := o44.grow g52
     have w61 := o60.lt
     have r62 := r_36.grow g52
     have w139 := o53.lt
     refine f17z_L1 _ _ _ _ _ _ _ _ _ _ _ _ _ (fun (μ : Nat) (t46 : Int) (H_6 : AHeap) => ∃ (y1_1 : LN), Own H_6 b_1 ([.slice p_Low_a ba.length p_Low_e]) ∧ Own H_6 b_12 ([.slice gc xb.length kc, .slice sb bc.length vb]) ∧ Own H_6 b49 (y1_1.map fF) ∧ y1_1.length = ((2 * (xb.length : Int))).toNat ∧ OwnS fF H_6 H_3.length a33 (((p_f1tz ba)).length) e35 (p_f1tz ba) ∧ (b_12 ≠ b_1) ∧ (b49 ≠ b_1) ∧ (b49 ≠ b_12) ∧ H_4.length ≤ H_6.length ∧ Grow H H_6 ∧ (0 : Int) ≤ t46 ∧ t46 ≤ (xb.length : Int) ∧ (xb.length : Int) - t46 ≤ (μ : Int) ∧ p_f17z xb bc ba = p_f17z_l1 xb bc ba (μ + 1) t46 y1_1) (Int.toNat ((xb.length : Int) - (0 : Int))) _ H_5 ?_ ?_
     ·exact ⟨_, o58, o60, o53, ω20, r62, ω2, ω2, ω2, ω2, g56, ω7, ω7, ω2, e⟩
     ·intro μ t46  H_6 hI
      obtain ⟨y1_1, o63, o64, o65, y66, r67, n68, n69, n70, n71, g72, v73, v74, hμ, e⟩ := hI
      rw [f17z_r1]
      have e := e.trans (p_f17z_l1_s xb bc ba μ t46 y1_1)
      have w75 := o63.lt
      have w76 := o64.lt
      have w77 := o65.lt
      have l78 := g72.1
      refine Br.intro (fun c79 => ?_) (fun c79 => ?_)
      ·have e := e.trans (cond_t c79)
       have c_79' := of_decide_eq_true c79
       refine ⟨p_Low_a, ba.length, p_Low_e, (o63.rdC _).trans rfl, ?_⟩
       refine f17z_L2 _ _ _ _ _ _ _ _ _ _ _ _ _ _ _ _ _ (fun (μ2 : Nat) (t52 : Int) (H_7 : AHeap) => ∃ (y2_1 : LN), Own H_7 b_1 ([.slice p_Low_a ba.length p_Low_e]) ∧ Own H_7 b_12 ([.slice gc xb.length kc, .slice sb bc.length vb]) ∧ Own H_7 b49 (y2_1.map fF) ∧ y2_1.length = ((2 * (xb.length : Int))).toNat ∧ OwnS fF H_7 H_3.length a33 (((p_f1tz ba)).length) e35 (p_f1tz ba) ∧ (b_12 ≠ b_1) ∧ (b49 ≠ b_1) ∧ (b49 ≠ b_12) ∧ H_4.length ≤ H_7.length ∧ Grow H H_7 ∧ (0 : Int) ≤ t52 ∧ t52 ≤ (ba.length : Int) ∧ (ba.length : Int) - t52 ≤ (μ2 : Int) ∧ p_f17z xb bc ba = p_f17z_l2 xb bc ba t46 y1_1 (fun (t52 : Int) (y2_1 : LN) => (p_f17z_l1 xb bc ba μ (t46 + 1) y2_1)) (μ2 + 1) t52 y2_1) (Int.toNat ((ba.length : Int) - (0 : Int))) _ H_6 ?_ ?_
       ·exact ⟨_, o63, o64, o65, ω20, r67, ω2, ω2, ω2, ω2, g72, ω7, ω7, ω2, e⟩
       ·intro μ2 t52  H_7 hI
        obtain ⟨y2_1, o80, o81, o82, y83, r84, n85, n86, n87, n88, g89, v90, v91, hμ, e⟩ := hI
        rw [f17z_r2]
        have e := e.trans (p_f17z_l2_s xb bc ba t46 y1_1 (fun (t52 : Int) (y2_1 : LN) => (p_f17z_l1 xb bc ba μ (t46 + 1) y2_1)) μ2 t52 y2_1)
        have w92 := o80.lt
        have w93 := o81.lt
        have w94 := o82.lt
        have l95 := g89.1
        refine Br.intro (fun c96 => ?_) (fun c96 => ?_)
        ·have e := e.trans (cond_t c96)
         have c_96' := of_decide_eq_true c96
         obtain ⟨b97, f98, q99⟩ := ((i_p_Low.grow g89)).pos ω0
         refine ⟨by omega, by omega, b97, f98, q99, ?_⟩
         refine ⟨((ba).getD (t52 : Int).toNat 0), (i_p_Low).rd g89 q99 ω2 _, ?_⟩
         rw [show IntKind.wrap .i64 (2 * t46) = (2 * t46) from wrap64 ω2 ω2]
         rw [show IntKind.wrap .i64 ((2 * t46) + t52) = ((2 * t46) + t52) from wrap64 ω2 ω2]
         refine ⟨ω25, ?_⟩
         have z100 := tmod_rng (((2 * t46) + t52)) ((2 * (xb.length : Int)))
         have z101 := tmod_nn (((2 * t46) + t52)) ((2 * (xb.length : Int)))
         refine ⟨by omega, ω2, _, _, rfl, ?_⟩
         refine ⟨((y2_1).getD (Int.tmod (((2 * t46) + t52)) ((2 * (xb.length : Int))) : Int).toNat 0), o82.rd ω0 _, ?_⟩
         obtain ⟨b102, f103, q104⟩ := ((i_low.grow g89)).pos ω0
         refine ⟨by omega, by omega, b102, f103, q104, ?_⟩
         refine ⟨((xb).getD (t46 : Int).toNat 0), (i_low).rd g89 q104 ω2 _, ?_⟩
         obtain ⟨b105, f_106, q107⟩ := (r84.isL).pos ω0
         refine ⟨by omega, by omega, b105, f_106, q107, ?_⟩
         refine ⟨(((p_f1tz ba)).getD (t52 : Int).toNat 0), (r84.isL).rd (Grow.refl _) q107 ω2 _, ?_⟩
         obtain ⟨b108, f_109, q110⟩ := ((i_high.grow g89)).pos ω0
         refine ⟨by omega, by omega, b108, f_109, q110, ?_⟩
         refine ⟨((bc).getD (t46 : Int).toNat 0), (i_high).rd g89 q110 ω2 _, ?_⟩
         refine ⟨by omega, ω2, _, _, rfl, ?_⟩
         refine Lt.set o82 ω19 (fun H_8 hl_111 o113 k112 => ?_)
         have o113 := map_set o113
         have l114 := k112.1
         have g115 := g89.keep (b := b49) ω2 k112
         have l116 := g115.1
         have o117 := o80.keep ω2 k112
         have w118 := o117.lt
         have o119 := o81.keep ω2 k112
         have w120 := o119.lt
         have r121 := r84.keep u46 ω2 k112
         have w122 := o113.lt
         rw [show IntKind.wrap .i64 (t52 + 1) = (t52 + 1) from wrap64 ω2 ω2]
         refine f17z_n2 (μ2 - 1) ω17 ⟨_, o117, o119, o113, ω13, r121, ω2, ω2, ω2, ω2, g115, ω1, ω1, ω17, ω22⟩
        ·have e := e.trans (cond_f c96)
         have c_96' := of_decide_eq_false c96
         rw [f17z_x2_2]
         rw [show IntKind.wrap .i64 (t46 + 1) = (t46 + 1) from wrap64 ω2 ω2]
         refine f17z_n1 (μ - 1) ω17 ⟨_, o80, o81, o82, ω13, r84, ω2, ω2, ω2, ω2, g89, ω1, ω1, ω17, ω12⟩
      ·have e := e.trans (cond_f c79)
       have c_79' := of_decide_eq_false c79
       rw [f17z_x1_0]
       refine T_fiz_i ⟨_, (o65.isL ω38), ω0, (fun H_9 g127 => ?_)⟩
       have l129 := g127.1
       have g130 := g72.trans g127
       have l131 := g130.1
       have o132 := o63.grow g127
       have w133 := o132.lt
       have o134 := o64.grow g127
       have w135 := o134.lt
       have o136 := o65.grow g127
       have w137 := o136.lt
       have r138 := r67.grow g127
       refine Br.intro (fun c128 => ?_) (fun c128 => ?_)
       ·have e := e.trans (cond_t c128)
        rw [e] at hk
        exact hk _ _ _ H_9 g130 (o136.ownS ω38 ω2)
       ·have e := e.trans (cond_f c128)
        rw [e] at hk
        exact hk _ _ _ H_9 g130 ω9
theorem f17z_ok : FnOk Try.prog 180 S_f17z := by
 refine FnOk.body mix_ok E_f17z_ok Try.func180 rfl ω15 ω15 ?_ ?_ ?_ ?_ ?_
 ·intro args H K K' h hk
  simp only [S_f17z] at *
  unfold F_f17z at *
  split at hk
  ·obtain ⟨xb, bc, ba, i_low, i_high, i_p_Low, bd_142, bd_143, bd_144, k⟩ := hk
   exact ⟨xb, bc, ba, i_low, i_high, i_p_Low, bd_142, bd_143, bd_144, (fun ib kb jb H' gg ow0 => h _ _ (k ib kb jb H' gg ow0))⟩
  ·exact hk.elim
 ·intro hq; cases hq
 ·intro args H K hk
  simp only [S_f17z] at *
  unfold F_f17z at *
  split at hk
  ·obtain ⟨xb, bc, ba, i_low, i_high, i_p_Low, bd_142, bd_143, bd_144, k⟩ := hk
   exact liveS fun a n e H1 g o => ⟨_, _, k a n e H1 g o⟩
  ·exact hk.elim
 ·intro _ args H K hk
  simp only [S_f17z] at *
  unfold F_f17z at *
  split at hk
  ·obtain ⟨xb, bc, ba, i_low, i_high, i_p_Low, bd_142, bd_143, bd_144, k⟩ := hk
   exact ⟨xb, bc, ba, i_low, i_high, i_p_Low, bd_142, bd_143, bd_144, (fun ib kb jb H' gg ow0 => ⟨gg, k ib kb jb H' gg ow0⟩)⟩
  ·exact hk.elim
 ·have mm := @f17z_main
  have ml := fun (args : List Value) (H : AHeap) (K : Value → AHeap → Prop) => bodyL_body (P := Try.prog) (env := E_f17z ) (fn := Try.f180) (args := args) (H := H) (K := K) E_f17z_ok 
  revert mm ml
  generalize bodyK Try.prog E_f17z Try.f180 = Q
  generalize bodyL Try.prog E_f17z Try.f180 = QL
  intro mm ml args H K hk
  simp only [S_f17z] at *
  unfold F_f17z at *
  split at hk
  ·exact ml _ H K (mm _ _ _ _ _ _ _ _ _ H K hk)
  ·exact hk.elim

def p_fez_l1 (fa : LN) (ca : List LN) (ba : LN) : Nat → Bool → LN → Int → LN × Bool
 | 0, _, _, _ => ([], false)
 | μ + 1, t5, ke, i => (bif decide ((0 : Int) ≤ i) then (bif !((p_f17z ke (((ca).getD (i : Int).toNat [])) ba).2) then ([], false) else (p_fez_l1 fa ca ba μ t5 ((p_f17z ke (((ca).getD (i : Int).toNat [])) ba).1) (i - 1))) else (ke, true))
def p_fez_l1_s := fun fa ca ba μ t5 ke i => @p_fez_l1.eq_2 fa ca ba t5 ke i μ
def p_fez (fa : LN) (ca : List LN) (ba : LN) : LN × Bool := (bif !(p_fhz fa ca) then ([], false) else (bif !(p_fuz ba) then ([], false) else (p_fez_l1 fa ca ba (Int.toNat (((((ca.length : Int) - 1))) - 0 + 1) + 1) false fa ((((ca.length : Int) - 1))))))
def p_fez_eq := @p_fez.eq_1
def T_fez (ta : OA) (xa : Nat) (va : Nat) (qa : OA) (ua : Nat) (sa : Nat) (p_Low_a : OA) (p_Low_n : Nat) (p_Low_e : Nat) (H : AHeap) (K : OA → Nat → Nat → Bool → AHeap → Prop) : Prop := ∃ (fa : LN), ∃ (ca : List LN), ∃ (ba : LN), IsL fF H ta xa fa ∧ IsLL fF H qa ua ca ∧ IsL fF H p_Low_a p_Low_n ba ∧ fa.length < 1073741824 ∧ ca.length < 1073741824 ∧ ba.length < 1073741824 ∧ (∀ y ∈ ca, y.length < 1073741824) ∧ ((∀ (ib : OA) (kb jb : Nat), ∀ H' : AHeap, Grow H H' → OwnS fF H' H.length ib kb jb ((p_fez fa ca ba).1) → K ib kb jb ((p_fez fa ca ba).2) H'))
theorem T_fez_i {ta : OA} {xa : Nat} {va : Nat} {qa : OA} {ua : Nat} {sa : Nat} {p_Low_a : OA} {p_Low_n : Nat} {p_Low_e : Nat} {H : AHeap} {K : OA → Nat → Nat → Bool → AHeap → Prop} (h : ∃ (fa : LN), ∃ (ca : List LN), ∃ (ba : LN), IsL fF H ta xa fa ∧ IsLL fF H qa ua ca ∧ IsL fF H p_Low_a p_Low_n ba ∧ fa.length < 1073741824 ∧ ca.length < 1073741824 ∧ ba.length < 1073741824 ∧ (∀ y ∈ ca, y.length < 1073741824) ∧ ((∀ (ib : OA) (kb jb : Nat), ∀ H' : AHeap, Grow H H' → OwnS fF H' H.length ib kb jb ((p_fez fa ca ba).1) → K ib kb jb ((p_fez fa ca ba).2) H'))) : T_fez ta xa va qa ua sa p_Low_a p_Low_n p_Low_e H K := h
theorem fez_len (a : LN) (ds : List LN) (p : LN) : a.length < 1073741824 → (p_fez a ds p).1.length < 1073741824 := by
 intro ha
 have go : ∀ (μ : Nat) (t : Bool) (o : LN) (i : Int), o.length < 1073741824 → (p_fez_l1 a ds p μ t o i).1.length < 1073741824 := by
  intro μ
  induction μ with
  | zero => intro t o i h; exact (by decide : 0 < 1073741824)
  | succ μ ih =>
   intro t o i h
   rw [p_fez_l1_s]
   refine cnb (P := fun r : LN × Bool => r.1.length < 1073741824) (fun _ => ?_) (fun _ => h)
   refine cnb (P := fun r : LN × Bool => r.1.length < 1073741824) (fun _ => (by decide : 0 < 1073741824)) (fun _ => ?_)
   exact ih _ _ _ (Nat.lt_of_le_of_lt (f17z_len _ _ _) ω32)
 rw [p_fez_eq]
 refine cnb (P := fun r : LN × Bool => r.1.length < 1073741824) (fun _ => (by decide : 0 < 1073741824)) (fun _ => ?_)
 refine cnb (P := fun r : LN × Bool => r.1.length < 1073741824) (fun _ => (by decide : 0 < 1073741824)) (fun _ => ?_)
 exact go _ _ _ _ ha
/-! fez: function 129 -/
def E_fez : Env := envOf [(116, S_fhz), (178, S_fuz), (180, S_f17z)]
def F_fez : List Value → AHeap → (Value → AHeap → Prop) → Prop
 | [.agg ⟨[.slice ta xa va, .slice qa ua sa]⟩, .agg ⟨[.slice p_Low_a p_Low_n p_Low_e]⟩], H, K => T_fez ta xa va qa ua sa p_Low_a p_Low_n p_Low_e H fun (ib : OA) (kb : Nat) (jb : Nat) (r2 : Bool) (H' : AHeap) => K (.tuple #[.slice ib kb jb, .bool r2]) H'
 | _, _, _ => False
def S_fez : FSpec := { F := F_fez, quiet := false, tame := true }
theorem fez_vc (ta : OA) (xa : Nat) (va : Nat) (qa : OA) (ua : Nat) (sa : Nat) (p_Low_a : OA) (p_Low_n : Nat) (p_Low_e : Nat) (H : AHeap) (K : Value → AHeap → Prop) : bodyL Try.prog E_fez Try.f129 [.agg #[.slice ta xa va, .slice qa ua sa], .agg #[.slice p_Low_a p_Low_n p_Low_e]] H K =
 (Al [.slice ta xa va, .slice qa ua sa] H fun b1 H1 => Al [.slice p_Low_a p_Low_n p_Low_e] H1 fun b2 H2 => ∃ xe : OA, ∃ ze : Nat, ∃ ye : Nat, ∃ af : OA, ∃ cf : Nat, ∃ bf : Nat,  rdN H2 b1 0 2 = some [.slice xe ze ye, .slice af cf bf] ∧ T_fhz xe ze ye af cf bf H2 fun (r1 : Bool) (H3 : AHeap) => Br (!r1) (K (.tuple #[.slice none 0 0, .bool false]) H3) (∃ yf : OA, ∃ ag : Nat, ∃ zf : Nat,  rdN H3 b2 0 1 = some [.slice yf ag zf] ∧ T_fuz yf ag zf H3 fun (r2 : Bool) (H4 : AHeap) => Br (!r2) (K (.tuple #[.slice none 0 0, .bool false]) H4) (∃ sc : OA, ∃ bb : Nat, ∃ tc : Nat,  rdC H4 b1 0 = some (.slice sc bb tc) ∧ ∃ oe : OA, ∃ je : Nat, ∃ te : Nat,  rdC H4 b1 1 = some (.slice oe je te) ∧ loopK (exL Try.prog E_fez (cl (cl (cr (cl (cr (cr (cr (bodyC Try.f129)))))))) 204 48 [(0, 64)]) (ud2 (.pointer (some ⟨b1, 0, none⟩) :: .pointer (some ⟨b2, 0, none⟩) :: ud2 (.slice sc bb tc :: .int .i64 (IntKind.wrap .i64 ((je : Int) - 1)) :: ud35 []))) H4 (blockQ 0 (seqQ (exL Try.prog E_fez (cr (cr (cr (cr (bodyC Try.f129))))) 48 48 []) (retK Try.prog Try.f129 K)))))) := by kernel_rfl
abbrev fez_P1 (b1 : Nat) (b2 : Nat) (bd : OA) (dd : Nat) (cd : Nat) (i : Int)  : List Value := (ud2 (.pointer (some ⟨b1, 0, none⟩) :: .pointer (some ⟨b2, 0, none⟩) :: ud2 (.slice bd dd cd :: .int .i64 i :: ud35 [])))
theorem fez_r1 (b1 : Nat) (b2 : Nat) (bd : OA) (dd : Nat) (cd : Nat) (i : Int)  (H : AHeap) (R : Post) : exL Try.prog E_fez (cl (cl (cr (cl (cr (cr (cr (bodyC Try.f129)))))))) 204 48 [(0, 64)] (fez_P1 b1 b2 bd dd cd i) H R =
 (Br (decide ((0 : Int) ≤ i)) (∃ bg : OA, ∃ eg : Nat, ∃ dg : Nat,  rdN H b2 0 1 = some [.slice bg eg dg] ∧ ∃ re : OA, ∃ zd : Nat, ∃ ue : Nat,  rdC H b1 1 = some (.slice re zd ue) ∧ (0 : Int) ≤ i ∧ i < (zd : Int) ∧ ∃ b3 f1, (re : OA) = some ⟨b3, f1, none⟩ ∧ ∃ xg : OA, ∃ yg : Nat, ∃ zg : Nat,  rdC H b3 (f1 + (i : Int).toNat * 1) = some (.slice xg yg zg) ∧ T_f17z bd dd cd xg yg zg bg eg dg H fun (a1 : OA) (r3 : Nat) (r4 : Nat) (r5 : Bool) (H5 : AHeap) => Br (!r5) (R .ret (ud4 (.slice none 0 0 :: .bool false :: ud37 [])) H5) (R .normal (ud2 (.pointer (some ⟨b1, 0, none⟩) :: .pointer (some ⟨b2, 0, none⟩) :: ud2 (.slice a1 r3 r4 :: .int .i64 (IntKind.wrap .i64 (i - 1)) :: ud35 []))) H5)) (R (.exit 0) (ud6 (.slice bd dd cd :: ud36 [])) H)) := by kernel_rfl
def fez_I1 (b1 : Nat) (b2 : Nat) (Inv : Nat → OA → Nat → Nat → Int → AHeap → Prop) : Nat → List Value → AHeap → Prop := fun μ tm H => ∃ (bd : OA), ∃ (dd : Nat), ∃ (cd : Nat), ∃ (i : Int), tm = (fez_P1 b1 b2 bd dd cd i) ∧ Inv μ bd dd cd i H
theorem fez_L1 (b1 : Nat) (b2 : Nat) {Q : Post} (Inv : Nat → OA → Nat → Nat → Int → AHeap → Prop) (ν : Nat) (bd : OA) (dd : Nat) (cd : Nat) (i : Int)  (H : AHeap) (h0 : Inv ν bd dd cd i H)
  (hs : ∀ (μ : Nat) (bd : OA) (dd : Nat) (cd : Nat) (i : Int)  (H : AHeap), Inv μ bd dd cd i H → exL Try.prog E_fez (cl (cl (cr (cl (cr (cr (cr (bodyC Try.f129)))))))) 204 48 [(0, 64)] (fez_P1 b1 b2 bd dd cd i) H (loopQ (fez_I1 b1 b2 Inv) μ Q)) : loopK (exL Try.prog E_fez (cl (cl (cr (cl (cr (cr (cr (bodyC Try.f129)))))))) 204 48 [(0, 64)]) (fez_P1 b1 b2 bd dd cd i) H Q :=
 ⟨fez_I1 b1 b2 Inv, ν, ⟨bd, dd, cd, i, rfl, h0⟩, fun μ tm H h => by obtain ⟨bd, dd, cd, i, rfl, hI⟩ := h; exact hs μ bd dd cd i  H hI⟩
theorem fez_n1 {b1 : Nat} {b2 : Nat} {Q : Post} {Inv : Nat → OA → Nat → Nat → Int → AHeap → Prop} {μ : Nat} (μ' : Nat) {bd : OA} {dd : Nat} {cd : Nat} {i : Int}  {H : AHeap} (hm : μ' < μ) (hI : Inv μ' bd dd cd i H) : loopQ (fez_I1 b1 b2 Inv) μ Q .normal (fez_P1 b1 b2 bd dd cd i) H := ⟨μ', hm, bd, dd, cd, i, rfl, hI⟩
theorem fez_x1_0 (bd : OA) (dd : Nat) (cd : Nat) (H : AHeap) (K : Value → AHeap → Prop)  {I : Nat → List Value → AHeap → Prop} {μ : Nat} : loopQ I μ (blockQ 0 (seqQ (exL Try.prog E_fez (cr (cr (cr (cr (bodyC Try.f129))))) 48 48 []) (retK Try.prog Try.f129 K))) (.exit 0) (ud6 (.slice bd dd cd :: ud36 [])) H =
 (K (.tuple #[.slice bd dd cd, .bool true]) H) := by kernel_rfl
theorem fez_x1_ret (ki : OA) (mi : Nat) (li : Nat) (t5 : Bool) (H : AHeap) (K : Value → AHeap → Prop)  {I : Nat → List Value → AHeap → Prop} {μ : Nat} : loopQ I μ (blockQ 0 (seqQ (exL Try.prog E_fez (cr (cr (cr (cr (bodyC Try.f129))))) 48 48 []) (retK Try.prog Try.f129 K))) .ret (ud4 (.slice ki mi li :: .bool t5 :: ud37 [])) H =
 (K (.tuple #[.slice ki mi li, .bool t5]) H) := by kernel_rfl
theorem E_fez_ok : ∀ g, FnOk Try.prog g (E_fez g) := FnOk.envOf (by
 intro x hx
 simp only [List.mem_cons, List.not_mem_nil, or_false] at hx
 rcases hx with rfl | rfl | rfl
 ·exact fhz_ok
 ·exact fuz_ok
 ·exact f17z_ok)
theorem fez_main (ta : OA) (xa : Nat) (va : Nat) (qa : OA) (ua : Nat) (sa : Nat) (p_Low_a : OA) (p_Low_n : Nat) (p_Low_e : Nat) (H : AHeap) (K : Value → AHeap → Prop) (h : T_fez ta xa va qa ua sa p_Low_a p_Low_n p_Low_e H fun (ib : OA) (kb : Nat) (jb : Nat) (r2 : Bool) (H' : AHeap) => K (.tuple #[.slice ib kb jb, .bool r2]) H') : bodyL Try.prog E_fez Try.f129 [.agg #[.slice ta xa va, .slice qa ua sa], .agg #[.slice p_Low_a p_Low_n p_Low_e]] H K := by
 rw [fez_vc]
 obtain ⟨fa, ca, ba, i_b_Coarse, i_b_Details, i_p_Low, bd_86, bd_87, bd_88, bb_l_b_Details, hk⟩ := h
 obtain rfl := i_b_Coarse.eqn
 obtain rfl := i_b_Details.eqn
 obtain rfl := i_p_Low.eqn
 have e : (p_fez fa ca ba) = _ := rfl
 have e := e.trans (p_fez_eq fa ca ba)
 have g0 := Grow.refl H
 refine Al.intro (fun b_1 H_1 hb_2 hl_3 g_4 o_5 => ?_)
 have l7 := g_4.1
 have g8 := g0.trans g_4
 have l9 := g8.1
 have w85 := o_5.lt
 refine Al.intro (fun b_10 H_2 hb_11 hl_12 g13 o14 => ?_)
 have l16 := g13.1
 have g17 := g8.trans g13
 have l18 := g17.1
 have o19 := o_5.grow g13
 have w20 := o19.lt
 have w84 := o14.lt
 refine ⟨ta, fa.length, va, qa, ca.length, sa, (o19.rdN (Nat.le_of_ble_eq_true rfl)).trans rfl, ?_⟩
 refine T_fhz_i ⟨_, ca, (i_b_Coarse.grow g17), (i_b_Details.grow g17), ω0, ω0, ω6, fun  H_3 g21  => ?_⟩
 have l22 := g21.1
 have g23 := g17.trans g21
 have l24 := g23.1
 have o25 := o19.grow g21
 have w26 := o25.lt
 have o27 := o14.grow g21
 have w28 := o27.lt
 refine Br.intro (fun c29 => ?_) (fun c29 => ?_)
 ·have e := e.trans (cond_t c29)
  have c_29n := nf_of_t c29
  rw [e] at hk
  exact hk _ _ _ H_3 g23 ω9
 ·have e := e.trans (cond_f c29)
  have c_29n := nt_of_f c29
  have c_29n' := fhz_t c_29n
  refine ⟨p_Low_a, ba.length, p_Low_e, (o27.rdN (Nat.le_of_ble_eq_true rfl)).trans rfl, ?_⟩
  refine T_fuz_i ⟨_, (i_p_Low.grow g23), ω0, fun  H_4 g30  => ?_⟩
  have l31 := g30.1
  have g32 := g23.trans g30
  have l33 := g32.1
  have o34 := o25.grow g30
  have w35 := o34.lt
  have o36 := o27.grow g30
  have w37 := o36.lt
  refine Br.intro (fun c38 => ?_) (fun c38 => ?_)
  ·have e := e.trans (cond_t c38)
   have c_38n := nf_of_t c38
   rw [e] at hk
   exact hk _ _ _ H_4 g32 ω9
  ·have e := e.trans (cond_f c38)
   have c_38n := nt_of_f c38
   have c_38n' := fuz_t c_38n
   refine ⟨ta, fa.length, va, (o34.rdC _).trans rfl, ?_⟩
   refine ⟨qa, ca.length, sa, (o34.rdC _).trans rfl, ?_⟩
   rw [show IntKind.wrap .i64 ((ca.length : Int) - 1) = ((ca.length : Int) - 1) from wrap64 ω2 ω2]
   refine fez_L1 _ _ (fun (μ : Nat) (bd : OA) (dd : Nat) (cd : Nat) (i : Int) (H_5 : AHeap) => ∃ (t5 : Bool), ∃ (ke : LN), dd = ke.length ∧ IsL fF H_5 bd ke.length ke ∧ (i < (ca.length : Int) - 1 → OwnS fF H_5 H_4.length bd ke.length cd ke) ∧ H_4.length ≤ H_5.length ∧ Own H_5 b_1 ([.slice ta fa.length va, .slice qa ca.length sa]) ∧ Own H_5 b_10 ([.slice p_Low_a ba.length p_Low_e]) ∧ (b_10 ≠ b_1) ∧ Grow H H_5 ∧ i ≤ (((ca.length : Int) - 1)) ∧ ke.length < 1073741824 ∧ i ≤ (ca.length : Int) - 1 ∧ -1 ≤ i ∧ i - 0 + 1 ≤ (μ : Int) ∧ p_fez fa ca ba = p_fez_l1 fa ca ba (μ + 1) t5 ke i) (Int.toNat (((((ca.length : Int) - 1))) - 0 + 1)) _ _ _ _ H_4 ?_ ?_
   ·exact ⟨_, _, ((i_b_Coarse.grow g32).eqn), (i_b_Coarse.grow g32), (fun h => absurd h ω2), ω2, o34, o36, ω2, g32, ω7, ω7, ω7, ω7, ω2, e⟩
   ·intro μ bd dd cd i  H_5 hI
    obtain ⟨t5, ke, rfl, i39, c40, n42, o43, o44, n45, g46, v47, v48, v49, v50, hμ, e⟩ := hI
    rw [fez_r1]
    have e := e.trans (p_fez_l1_s fa ca ba μ t5 ke i)
    have g41 := Grow.refl H_5
    have w51 := o43.lt
    have w52 := o44.lt
    have l53 := g41.1
    have l54 := g46.1
    refine Br.intro (fun c55 => ?_) (fun c55 => ?_)
    ·have e := e.trans (cond_t c55)
     have c_55' := of_decide_eq_true c55
     refine ⟨p_Low_a, ba.length, p_Low_e, (o44.rdN (Nat.le_of_ble_eq_true rfl)).trans rfl, ?_⟩
     refine ⟨qa, ca.length, sa, (o43.rdC _).trans rfl, ?_⟩
     obtain ⟨b56, f57, q58⟩ := ((i_b_Details.grow g46)).pos ω0
     refine ⟨by omega, by omega, b56, f57, q58, ?_⟩
     obtain ⟨a59, n60, e61, r62, i63⟩ := (i_b_Details).rd (i := (i : Int).toNat) g46 q58 ω2
     obtain rfl := i63.eqn
     refine ⟨a59, _, e61, r62, ?_⟩
     have z64 := getD_len bb_l_b_Details (i : Int).toNat
     refine T_f17z_i ⟨_, _, _, (i39.grow g41), (i63.grow g46), (i_p_Low.grow g46), ω0, ω0, ω0, fun a65 n66 e67 H_6 g70 r68 => ?_⟩
     have z69 := f17z_len ke (((ca).getD (i : Int).toNat [])) ba
     have l71 := g70.1
     have g72 := g41.trans g70
     have l73 := g72.1
     have g74 := g46.trans g70
     have l75 := g74.1
     have o76 := o43.grow g70
     have w77 := o76.lt
     have o78 := o44.grow g70
     have w79 := o78.lt
     obtain rfl := r68.isL.eqn
     have u80 := r68.up
     have u81 := r68.lo
     refine Br.intro (fun c83 => ?_) (fun c83 => ?_)
     ·have e := e.trans (cond_t c83)
      have c_83n := nf_of_t c83
      rw [fez_x1_ret]
      rw [e] at hk
      exact hk _ _ _ H_6 g74 ω9
     ·have e := e.trans (cond_f c83)
      have c_83n := nt_of_f c83
      rw [show IntKind.wrap .i64 (i - 1) = (i - 1) from wrap64 ω2 ω2]
      refine fez_n1 (μ - 1) ω17 ⟨_, _, rfl, r68.isL, (fun _ => r68.weak ω2), ω2, o76, o78, ω2, g74, ω1, ω1, ω1, ω1, ω17, ω12⟩
    ·have e := e.trans (cond_f c55)
     have c_55' := of_decide_eq_false c55
     rw [fez_x1_0]
     rw [e] at hk
     exact hk _ _ _ H_5 g46 (((c40 ω2).grow g41).weak ω2)
theorem fez_ok : FnOk Try.prog 129 S_fez := by
 refine FnOk.body mix_ok E_fez_ok Try.func129 rfl ω15 ω15 ?_ ?_ ?_ ?_ ?_
 ·intro args H K K' h hk
  simp only [S_fez] at *
  unfold F_fez at *
  split at hk
  ·obtain ⟨fa, ca, ba, i_b_Coarse, i_b_Details, i_p_Low, bd_86, bd_87, bd_88, bb_l_b_Details, k⟩ := hk
   exact ⟨fa, ca, ba, i_b_Coarse, i_b_Details, i_p_Low, bd_86, bd_87, bd_88, bb_l_b_Details, (fun ib kb jb H' gg ow0 => h _ _ (k ib kb jb H' gg ow0))⟩
  ·exact hk.elim
 ·intro hq; cases hq
 ·intro args H K hk
  simp only [S_fez] at *
  unfold F_fez at *
  split at hk
  ·obtain ⟨fa, ca, ba, i_b_Coarse, i_b_Details, i_p_Low, bd_86, bd_87, bd_88, bb_l_b_Details, k⟩ := hk
   exact liveS fun a n e H1 g o => ⟨_, _, k a n e H1 g o⟩
  ·exact hk.elim
 ·intro _ args H K hk
  simp only [S_fez] at *
  unfold F_fez at *
  split at hk
  ·obtain ⟨fa, ca, ba, i_b_Coarse, i_b_Details, i_p_Low, bd_86, bd_87, bd_88, bb_l_b_Details, k⟩ := hk
   exact ⟨fa, ca, ba, i_b_Coarse, i_b_Details, i_p_Low, bd_86, bd_87, bd_88, bb_l_b_Details, (fun ib kb jb H' gg ow0 => ⟨gg, k ib kb jb H' gg ow0⟩)⟩
  ·exact hk.elim
 ·have mm := @fez_main
  have ml := fun (args : List Value) (H : AHeap) (K : Value → AHeap → Prop) => bodyL_body (P := Try.prog) (env := E_fez ) (fn := Try.f129) (args := args) (H := H) (K := K) E_fez_ok 
  revert mm ml
  generalize bodyK Try.prog E_fez Try.f129 = Q
  generalize bodyL Try.prog E_fez Try.f129 = QL
  intro mm ml args H K hk
  simp only [S_fez] at *
  unfold F_fez at *
  split at hk
  ·exact ml _ H K (mm _ _ _ _ _ _ _ _ _ H K hk)
  ·exact hk.elim

def p_f1dz_l1 (aa : LN) (ba : LN) (levels : Int) (hard : Bool) : Nat → LN → Int → LN × Bool
 | 0, _, _ => ([], false)
 | μ + 1, ya, t48 => (bif decide ((t48 : Int) < (((p_fbz aa ba levels).2.1).length : Int)) then (p_f1dz_l1 aa ba levels hard μ ((ya ++ [((p_ffz ((p_f1ez ((p_fbz aa ba levels).1) ((p_fbz aa ba levels).2.1)).1) (aa.length : Int)).1)])) (t48 + 1)) else (bif !((p_faz ((p_fbz aa ba levels).1) ((p_fbz aa ba levels).2.1) ya hard).2.2) then ([], false) else ((p_fez ((p_faz ((p_fbz aa ba levels).1) ((p_fbz aa ba levels).2.1) ya hard).1) ((p_faz ((p_fbz aa ba levels).1) ((p_fbz aa ba levels).2.1) ya hard).2.1) ba).1, (p_fez ((p_faz ((p_fbz aa ba levels).1) ((p_fbz aa ba levels).2.1) ya hard).1) ((p_faz ((p_fbz aa ba levels).1) ((p_fbz aa ba levels).2.1) ya hard).2.1) ba).2)))
def p_f1dz_l1_s := fun aa ba levels hard μ ya t48 => @p_f1dz_l1.eq_2 aa ba levels hard ya t48 μ
def p_f1dz (aa : LN) (ba : LN) (levels : Int) (hard : Bool) : LN × Bool := (bif !((p_fbz aa ba levels).2.2) then ([], false) else (bif !((p_f1ez ((p_fbz aa ba levels).1) ((p_fbz aa ba levels).2.1)).2) then ([], false) else (bif !((p_ffz ((p_f1ez ((p_fbz aa ba levels).1) ((p_fbz aa ba levels).2.1)).1) (aa.length : Int)).2) then ([], false) else (p_f1dz_l1 aa ba levels hard (Int.toNat ((((p_fbz aa ba levels).2.1).length : Int) - (0 : Int)) + 1) ([] : LN) (0 : Int)))))
def p_f1dz_eq := @p_f1dz.eq_1
def T_f1dz (ea : OA) (da : Nat) (ga : Nat) (p_Low_a : OA) (p_Low_n : Nat) (p_Low_e : Nat) (levels : Int) (hard : Bool) (H : AHeap) (K : OA → Nat → Nat → Bool → AHeap → Prop) : Prop := ∃ (aa : LN), ∃ (ba : LN), IsL fF H ea da aa ∧ IsL fF H p_Low_a p_Low_n ba ∧ aa.length < 1073741824 ∧ ba.length < 1073741824 ∧ ((∀ (ib : OA) (kb jb : Nat), ∀ H' : AHeap, Grow H H' → OwnS fF H' H.length ib kb jb ((p_f1dz aa ba levels hard).1) → K ib kb jb ((p_f1dz aa ba levels hard).2) H'))
theorem T_f1dz_i {ea : OA} {da : Nat} {ga : Nat} {p_Low_a : OA} {p_Low_n : Nat} {p_Low_e : Nat} {levels : Int} {hard : Bool} {H : AHeap} {K : OA → Nat → Nat → Bool → AHeap → Prop} (h : ∃ (aa : LN), ∃ (ba : LN), IsL fF H ea da aa ∧ IsL fF H p_Low_a p_Low_n ba ∧ aa.length < 1073741824 ∧ ba.length < 1073741824 ∧ ((∀ (ib : OA) (kb jb : Nat), ∀ H' : AHeap, Grow H H' → OwnS fF H' H.length ib kb jb ((p_f1dz aa ba levels hard).1) → K ib kb jb ((p_f1dz aa ba levels hard).2) H'))) : T_f1dz ea da ga p_Low_a p_Low_n p_Low_e levels hard H K := h
theorem f1dz_len (l t : LN) (v : Int) (h : Bool) : l.length < 1073741824 → (p_f1dz l t v h).1.length < 1073741824 := by
 intro hl
 have z : ([] : LN).length < 1073741824 := by decide
 have go : ∀ (μ : Nat) (o : LN) (i : Int), (p_f1dz_l1 l t v h μ o i).1.length < 1073741824 := by
  intro μ
  induction μ with
  | zero => intro o i; exact z
  | succ μ ih =>
   intro o i
   rw [p_f1dz_l1_s]
   refine cnb (P := fun r : LN × Bool => r.1.length < 1073741824) (fun _ => ih _ _) (fun _ => ?_)
   refine cnb (P := fun r : LN × Bool => r.1.length < 1073741824) (fun _ => z) (fun _ => ?_)
   exact fez_len _ _ _ (Nat.lt_of_le_of_lt (faz_len _ _ _ _).1 (Nat.lt_of_le_of_lt (fbz_len _ _ _).1 hl))
 rw [p_f1dz_eq]
 refine cnb (P := fun r : LN × Bool => r.1.length < 1073741824) (fun _ => z) (fun _ => ?_)
 refine cnb (P := fun r : LN × Bool => r.1.length < 1073741824) (fun _ => z) (fun _ => ?_)
 refine cnb (P := fun r : LN × Bool => r.1.length < 1073741824) (fun _ => z) (fun _ => ?_)
 exact go _ _ _
/-! f1dz: function 40 -/
def E_f1dz : Env := envOf [(128, S_fbz), (30, S_f1ez), (70, S_ffz), (34, S_faz), (129, S_fez)]
def F_f1dz : List Value → AHeap → (Value → AHeap → Prop) → Prop
 | [.slice ea da ga, .agg ⟨[.slice p_Low_a p_Low_n p_Low_e]⟩, .int .i64 levels, .bool hard], H, K => T_f1dz ea da ga p_Low_a p_Low_n p_Low_e levels hard H fun (ib : OA) (kb : Nat) (jb : Nat) (r2 : Bool) (H' : AHeap) => K (.tuple #[.slice ib kb jb, .bool r2]) H'
 | _, _, _ => False
def S_f1dz : FSpec := { F := F_f1dz, quiet := false, tame := true }
theorem f1dz_vc (ea : OA) (da : Nat) (ga : Nat) (p_Low_a : OA) (p_Low_n : Nat) (p_Low_e : Nat) (levels : Int) (hard : Bool) (H : AHeap) (K : Value → AHeap → Prop) : bodyL Try.prog E_f1dz Try.f40 [.slice ea da ga, .agg #[.slice p_Low_a p_Low_n p_Low_e], .int .i64 levels, .bool hard] H K =
 (Al [.slice p_Low_a p_Low_n p_Low_e] H fun b1 H1 => ∃ xe : OA, ∃ ze : Nat, ∃ ye : Nat,  rdN H1 b1 0 1 = some [.slice xe ze ye] ∧ T_fbz ea da ga xe ze ye levels H1 fun (a1 : OA) (r1 : Nat) (r2 : Nat) (a2 : OA) (r3 : Nat) (r4 : Nat) (r5 : Bool) (H2 : AHeap) => Al [.slice none 0 0, .slice none 0 0] H2 fun b2 H3 => isOwn H3 b2 ∧ (∃ l, rdN H3 b2 0 2 = some l) ∧ Lt (setN H3 b2 0 [.slice a1 r1 r2, .slice a2 r3 r4]) fun H4 => Br (!r5) (K (.tuple #[.slice none 0 0, .bool false]) H4) (∃ af : OA, ∃ cf : Nat, ∃ bf : Nat, ∃ yf : OA, ∃ ag : Nat, ∃ zf : Nat,  rdN H4 b2 0 2 = some [.slice af cf bf, .slice yf ag zf] ∧ T_f1ez af cf bf yf ag zf H4 fun (r6 : Nat) (r7 : Bool) (H5 : AHeap) => T_ffz r6 (da : Int) H5 fun (r8 : Nat) (r9 : Bool) (H6 : AHeap) => Br (!r7) (K (.tuple #[.slice none 0 0, .bool false]) H6) (Br (!r9) (K (.tuple #[.slice none 0 0, .bool false]) H6) (Al [] H6 fun b3 H7 => ∃ sc : OA, ∃ bb : Nat, ∃ tc : Nat,  rdC H7 b2 1 = some (.slice sc bb tc) ∧ loopK (exL Try.prog E_f1dz (cl (cl (cr (cl (cr (cr (cr (cr (cr (cr (cr (bodyC Try.f40)))))))))))) 422212465148968 768 [(0, 66600)]) (ud3 (.bool hard :: ud :: .pointer (some ⟨b1, 0, none⟩) :: ud4 (.pointer (some ⟨b2, 0, none⟩) :: ud3 (.float .f32 r8 :: ud :: .slice (some ⟨b3, 0, none⟩) 0 1 :: ud30 (.int .i64 (bb : Int) :: .int .i64 0 :: ud20 []))))) H7 (blockQ 0 (seqQ (exL Try.prog E_f1dz (cr (cr (cr (cr (cr (cr (cr (cr (bodyC Try.f40))))))))) 768 768 []) (retK Try.prog Try.f40 K))))))) := by kernel_rfl
abbrev f1dz_P1 (b1 : Nat) (b2 : Nat) (hard : Bool) (r8 : Nat) (bb : Nat) (za : OA) (wa : Nat) (cb : Nat) (t48 : Int)  : List Value := (ud3 (.bool hard :: ud :: .pointer (some ⟨b1, 0, none⟩) :: ud4 (.pointer (some ⟨b2, 0, none⟩) :: ud3 (.float .f32 r8 :: ud :: .slice za wa cb :: ud30 (.int .i64 (bb : Int) :: .int .i64 t48 :: ud20 [])))))
theorem f1dz_r1 (b1 : Nat) (b2 : Nat) (hard : Bool) (r8 : Nat) (bb : Nat) (za : OA) (wa : Nat) (cb : Nat) (t48 : Int)  (H : AHeap) (R : Post) : exL Try.prog E_f1dz (cl (cl (cr (cl (cr (cr (cr (cr (cr (cr (cr (bodyC Try.f40)))))))))))) 422212465148968 768 [(0, 66600)] (f1dz_P1 b1 b2 hard r8 bb za wa cb t48) H R =
 (Br (decide ((t48 : Int) < (bb : Int))) (Al [.float .f32 r8] H fun b4 H8 => ∃ o1 w1 : List Value, ownB H8 za wa cb 1 = some o1 ∧ rdS H8 (some ⟨b4, 0, none⟩) (1 * 1) = some w1 ∧ ((za : OA) = none → 0 < (1 : Nat)) ∧ (wa : Nat) + 1 < most ∧ Ap H8 (killB H8 za ++ [some ⟨o1 ++ w1, true⟩]) fun b5 H9 => R .normal (ud3 (.bool hard :: ud :: .pointer (some ⟨b1, 0, none⟩) :: ud4 (.pointer (some ⟨b2, 0, none⟩) :: ud3 (.float .f32 r8 :: ud :: .slice (some ⟨b5, 0, none⟩) (wa + 1) 1 :: ud30 (.int .i64 (bb : Int) :: .int .i64 (IntKind.wrap .i64 (t48 + 1)) :: ud20 []))))) H9) (R (.exit 0) (ud3 (.bool hard :: ud :: .pointer (some ⟨b1, 0, none⟩) :: ud4 (.pointer (some ⟨b2, 0, none⟩) :: ud5 (.slice za wa cb :: ud52 [])))) H)) := by kernel_rfl
def f1dz_I1 (b1 : Nat) (b2 : Nat) (hard : Bool) (r8 : Nat) (bb : Nat) (Inv : Nat → OA → Nat → Nat → Int → AHeap → Prop) : Nat → List Value → AHeap → Prop := fun μ tm H => ∃ (za : OA), ∃ (wa : Nat), ∃ (cb : Nat), ∃ (t48 : Int), tm = (f1dz_P1 b1 b2 hard r8 bb za wa cb t48) ∧ Inv μ za wa cb t48 H
theorem f1dz_L1 (b1 : Nat) (b2 : Nat) (hard : Bool) (r8 : Nat) (bb : Nat) {Q : Post} (Inv : Nat → OA → Nat → Nat → Int → AHeap → Prop) (ν : Nat) (za : OA) (wa : Nat) (cb : Nat) (t48 : Int)  (H : AHeap) (h0 : Inv ν za wa cb t48 H)
  (hs : ∀ (μ : Nat) (za : OA) (wa : Nat) (cb : Nat) (t48 : Int)  (H : AHeap), Inv μ za wa cb t48 H → exL Try.prog E_f1dz (cl (cl (cr (cl (cr (cr (cr (cr (cr (cr (cr (bodyC Try.f40)))))))))))) 422212465148968 768 [(0, 66600)] (f1dz_P1 b1 b2 hard r8 bb za wa cb t48) H (loopQ (f1dz_I1 b1 b2 hard r8 bb Inv) μ Q)) : loopK (exL Try.prog E_f1dz (cl (cl (cr (cl (cr (cr (cr (cr (cr (cr (cr (bodyC Try.f40)))))))))))) 422212465148968 768 [(0, 66600)]) (f1dz_P1 b1 b2 hard r8 bb za wa cb t48) H Q :=
 ⟨f1dz_I1 b1 b2 hard r8 bb Inv, ν, ⟨za, wa, cb, t48, rfl, h0⟩, fun μ tm H h => by obtain ⟨za, wa, cb, t48, rfl, hI⟩ := h; exact hs μ za wa cb t48  H hI⟩
theorem f1dz_n1 {b1 : Nat} {b2 : Nat} {hard : Bool} {r8 : Nat} {bb : Nat} {Q : Post} {Inv : Nat → OA → Nat → Nat → Int → AHeap → Prop} {μ : Nat} (μ' : Nat) {za : OA} {wa : Nat} {cb : Nat} {t48 : Int}  {H : AHeap} (hm : μ' < μ) (hI : Inv μ' za wa cb t48 H) : loopQ (f1dz_I1 b1 b2 hard r8 bb Inv) μ Q .normal (f1dz_P1 b1 b2 hard r8 bb za wa cb t48) H := ⟨μ', hm, za, wa, cb, t48, rfl, hI⟩
theorem f1dz_x1_0 (b1 : Nat) (b2 : Nat) (hard : Bool) (za : OA) (wa : Nat) (cb : Nat) (H : AHeap) (K : Value → AHeap → Prop)  {I : Nat → List Value → AHeap → Prop} {μ : Nat} : loopQ I μ (blockQ 0 (seqQ (exL Try.prog E_f1dz (cr (cr (cr (cr (cr (cr (cr (cr (bodyC Try.f40))))))))) 768 768 []) (retK Try.prog Try.f40 K))) (.exit 0) (ud3 (.bool hard :: ud :: .pointer (some ⟨b1, 0, none⟩) :: ud4 (.pointer (some ⟨b2, 0, none⟩) :: ud5 (.slice za wa cb :: ud52 [])))) H =
 (∃ bg : OA, ∃ eg : Nat, ∃ dg : Nat, ∃ fg : OA, ∃ jg : Nat, ∃ ig : Nat,  rdN H b2 0 2 = some [.slice bg eg dg, .slice fg jg ig] ∧ T_faz bg eg dg fg jg ig za wa cb hard H fun (a3 : OA) (r10 : Nat) (r11 : Nat) (a4 : OA) (r12 : Nat) (r13 : Nat) (r14 : Bool) (H10 : AHeap) => isOwn H10 b2 ∧ (∃ l, rdN H10 b2 0 2 = some l) ∧ Lt (setN H10 b2 0 [.slice a3 r10 r11, .slice a4 r12 r13]) fun H11 => Br (!r14) (K (.tuple #[.slice none 0 0, .bool false]) H11) (∃ kg : OA, ∃ mg : Nat, ∃ lg : Nat, ∃ ng : OA, ∃ pg : Nat, ∃ og : Nat,  rdN H11 b2 0 2 = some [.slice kg mg lg, .slice ng pg og] ∧ ∃ qg : OA, ∃ tg : Nat, ∃ rg : Nat,  rdN H11 b1 0 1 = some [.slice qg tg rg] ∧ T_fez kg mg lg ng pg og qg tg rg H11 fun (a5 : OA) (r15 : Nat) (r16 : Nat) (r17 : Bool) (H12 : AHeap) => K (.tuple #[.slice a5 r15 r16, .bool r17]) H12)) := by kernel_rfl
theorem E_f1dz_ok : ∀ g, FnOk Try.prog g (E_f1dz g) := FnOk.envOf (by
 intro x hx
 simp only [List.mem_cons, List.not_mem_nil, or_false] at hx
 rcases hx with rfl | rfl | rfl | rfl | rfl
 ·exact fbz_ok
 ·exact f1ez_ok
 ·exact ffz_ok
 ·exact faz_ok
 ·exact fez_ok)
theorem f1dz_main (ea : OA) (da : Nat) (ga : Nat) (p_Low_a : OA) (p_Low_n : Nat) (p_Low_e : Nat) (levels : Int) (hard : Bool) (H : AHeap) (K : Value → AHeap → Prop) (h : T_f1dz ea da ga p_Low_a p_Low_n p_Low_e levels hard H fun (ib : OA) (kb : Nat) (jb : Nat) (r2 : Bool) (H' : AHeap) => K (.tuple #[.slice ib kb jb, .bool r2]) H') : bodyL Try.prog E_f1dz Try.f40 [.slice ea da ga, .agg #[.slice p_Low_a p_Low_n p_Low_e], .int .i64 levels, .bool hard] H K := by
 rw [f1dz_vc]
 obtain ⟨aa, ba, i_list, i_p_Low, bd_212, bd_213, hk⟩ := h
 obtain rfl := i_list.eqn
 obtain rfl := i_p_Low.eqn
 have e : (p_f1dz aa ba levels hard) = _ := rfl
 have e := e.trans (p_f1dz_eq aa ba levels hard)
 have g0 := Grow.refl H
 refine Al.intro (fun b_1 H_1 hb_2 hl_3 g_4 o_5 => ?_)
 have l7 := g_4.1
 have g8 := g0.trans g_4
 have l9 := g8.1
 have w211 := o_5.lt
 refine ⟨p_Low_a, ba.length, p_Low_e, (o_5.rdN (Nat.le_of_ble_eq_true rfl)).trans rfl, ?_⟩
 refine T_fbz_i ⟨_, _, (i_list.grow g8), (i_p_Low.grow g8), ω0, ω0, fun a_10 n11 e12 a14 n15 e16 H_2 g20 r_13 r_17 => ?_⟩
 have z18 := fbz_len aa ba levels
 have z19 := fbz_big aa ba levels ω2
 have l21 := g20.1
 have g22 := g8.trans g20
 have l23 := g22.1
 have o24 := o_5.grow g20
 have w25 := o24.lt
 obtain rfl := r_13.isL.eqn
 have u26 := r_13.up
 have u27 := r_13.lo
 obtain rfl := r_17.isL.eqn
 have u29 := r_17.up
 have u30 := r_17.lo
 refine Al.intro (fun b_32 H_3 hb_33 hl_34 g35 o36 => ?_)
 have l38 := g35.1
 have g39 := g22.trans g35
 have l40 := g39.1
 have o41 := o24.grow g35
 have w42 := o41.lt
 have r43 := r_13.grow g35
 have r44 := r_17.grow g35
 have w210 := o36.lt
 refine Lt.setN (n := 2) o36 (Nat.le_of_ble_eq_true rfl) rfl (fun H_4 hl_45 o47 k46 => ?_)
 have o47 : Own H_4 b_32 [.slice a_10 (((p_fbz aa ba levels).1).length) e12, .slice a14 (((p_fbz aa ba levels).2.1).length) e16] := o47
 have l48 := k46.1
 have g49 := g39.keep (b := b_32) ω2 k46
 have l50 := g49.1
 have o51 := o41.keep ω2 k46
 have w52 := o51.lt
 have r53 := r43.keep u26 ω2 k46
 have r54 := r44.keep ω2 k46
 have w209 := o47.lt
 refine Br.intro (fun c55 => ?_) (fun c55 => ?_)
 ·have e := e.trans (cond_t c55)
  have c_55n := nf_of_t c55
  rw [e] at hk
  exact hk _ _ _ H_4 g49 ω9
 ·have e := e.trans (cond_f c55)
  have c_55n := nt_of_f c55
  refine ⟨a_10, ((p_fbz aa ba levels).1).length, e12, a14, ((p_fbz aa ba levels).2.1).length, e16, (o47.rdN (Nat.le_of_ble_eq_true rfl)).trans rfl, ?_⟩
  refine T_f1ez_i ⟨_, (p_fbz aa ba levels).2.1, r53.isL, r54.isL, ω0, ω0, ω6, fun  H_5 g56  => ?_⟩
  have l57 := g56.1
  have g58 := g49.trans g56
  have l59 := g58.1
  have o60 := o51.grow g56
  have w61 := o60.lt
  have o62 := o47.grow g56
  have w63 := o62.lt
  have r64 := r53.grow g56
  have r65 := r54.grow g56
  refine T_ffz_i ?_
  refine Br.intro (fun c66 => ?_) (fun c66 => ?_)
  ·have e := e.trans (cond_t c66)
   have c_66n := nf_of_t c66
   rw [e] at hk
   exact hk _ _ _ H_5 g58 ω9
  ·have e := e.trans (cond_f c66)
   have c_66n := nt_of_f c66
   refine Br.intro (fun c67 => ?_) (fun c67 => ?_)
   ·have e := e.trans (cond_t c67)
    have c_67n := nf_of_t c67
    rw [e] at hk
    exact hk _ _ _ H_5 g58 ω9
   ·have e := e.trans (cond_f c67)
    have c_67n := nt_of_f c67
    refine Al.intro (fun b68 H_6 hb_69 hl_70 g71 o72 => ?_)
    have o72 : Own H_6 b68 ((([] : LN)).map fF) := o72
    have l74 := g71.1
    have g75 := g58.trans g71
    have l76 := g75.1
    have o77 := o60.grow g71
    have w78 := o77.lt
    have o79 := o62.grow g71
    have w80 := o79.lt
    have r81 := r64.grow g71
    have r82 := r65.grow g71
    have w208 := o72.lt
    refine ⟨a14, ((p_fbz aa ba levels).2.1).length, e16, (o79.rdC _).trans rfl, ?_⟩
    refine f1dz_L1 _ _ _ _ _ (fun (μ : Nat) (za : OA) (wa : Nat) (cb : Nat) (t48 : Int) (H_7 : AHeap) => ∃ (ya : LN), ∃ (b83 : Nat), za = some ⟨b83, 0, none⟩ ∧ wa = ya.length ∧ cb = 1 ∧ Own H_7 b83 (ya.map fF) ∧ Own H_7 b_1 ([.slice p_Low_a ba.length p_Low_e]) ∧ Own H_7 b_32 ([.slice a_10 (((p_fbz aa ba levels).1).length) e12, .slice a14 (((p_fbz aa ba levels).2.1).length) e16]) ∧ OwnS fF H_7 H_1.length a_10 (((p_fbz aa ba levels).1).length) e12 ((p_fbz aa ba levels).1) ∧ OwnLL fF H_7 H_1.length H_2.length a14 (((p_fbz aa ba levels).2.1).length) e16 ((p_fbz aa ba levels).2.1) ∧ (b_32 ≠ b_1) ∧ (b83 ≠ b_1) ∧ (b83 ≠ b_32) ∧ H_2.length ≤ H_7.length ∧ (b83 < H_1.length ∨ H_2.length ≤ b83) ∧ H_2.length ≤ H_7.length ∧ (b83 < H_1.length ∨ H_2.length ≤ b83) ∧ Grow H H_7 ∧ H.length ≤ b83 ∧ (0 : Int) ≤ t48 ∧ t48 ≤ (((p_fbz aa ba levels).2.1).length : Int) ∧ (ya.length : Int) ≤ t48 - (0 : Int) + 0 ∧ (((p_fbz aa ba levels).2.1).length : Int) - t48 ≤ (μ : Int) ∧ p_f1dz aa ba levels hard = p_f1dz_l1 aa ba levels hard (μ + 1) ya t48) (Int.toNat ((((p_fbz aa ba levels).2.1).length : Int) - (0 : Int))) _ _ _ _ H_6 ?_ ?_
    ·exact ⟨_, _, rfl, ω10, rfl, o72, o77, o79, r81, r82, ω2, ω2, ω2, ω2, ω2, ω2, ω2, g75, ω2, ω7, ω7, ω7, ω2, e⟩
    ·intro μ za wa cb t48  H_7 hI
     obtain ⟨ya, b83, rfl, rfl, rfl, o84, o85, o86, r87, r88, n89, n90, n91, n92, n93, n94, n95, g96, l97, v98, v99, v100, hμ, e⟩ := hI
     rw [f1dz_r1]
     have e := e.trans (p_f1dz_l1_s aa ba levels hard μ ya t48)
     have w101 := o85.lt
     have w102 := o86.lt
     have w103 := o84.lt
     have l104 := g96.1
     refine Br.intro (fun c105 => ?_) (fun c105 => ?_)
     ·have e := e.trans (cond_t c105)
      have c_105' := of_decide_eq_true c105
      refine Al.intro (fun b106 H_8 hb_107 hl_108 g109 o110 => ?_)
      have o110 : Own H_8 b106 (([((p_ffz ((p_f1ez ((p_fbz aa ba levels).1) ((p_fbz aa ba levels).2.1)).1) (aa.length : Int)).1)]).map fF) := o110
      have l112 := g109.1
      have g113 := g96.trans g109
      have l114 := g113.1
      have o115 := o85.grow g109
      have w116 := o115.lt
      have o117 := o86.grow g109
      have w118 := o117.lt
      have o119 := o84.grow g109
      have w120 := o119.lt
      have r121 := r87.grow g109
      have r122 := r88.grow g109
      have w141 := o110.lt
      refine ⟨_, _, o119.ownB ω5 rfl, (isl_rdS (o110.isL ω10)), (fun h => by cases h), ω24, ?_⟩
      refine Ap.app o119 rfl rfl (fun b127 H_9 q139 hl_123 o124 k125 => ?_)
      have o124 := map_snoc o124
      have l128 := k125.1
      have g129 := g113.keep (b := b83) ω2 k125
      have l130 := g129.1
      have o131 := o115.keep ω2 k125
      have w132 := o131.lt
      have o133 := o117.keep ω2 k125
      have w134 := o133.lt
      have o135 := o110.keep ω2 k125
      have w136 := o135.lt
      have r137 := r121.keep u26 ω2 k125
      have r138 := r122.keep ω2 k125
      have w140 := o124.lt
      rw [show IntKind.wrap .i64 (t48 + 1) = (t48 + 1) from wrap64 ω2 ω2]
      refine f1dz_n1 (μ - 1) ω17 ⟨_, _, rfl, ω8, rfl, o124, o131, o133, r137, r138, ω2, ω2, ω2, ω2, ω2, ω2, ω2, g129, ω2, ω1, ω1, ω1, ω17, ω12⟩
     ·have e := e.trans (cond_f c105)
      have c_105' := of_decide_eq_false c105
      rw [f1dz_x1_0]
      refine ⟨a_10, ((p_fbz aa ba levels).1).length, e12, a14, ((p_fbz aa ba levels).2.1).length, e16, (o86.rdN (Nat.le_of_ble_eq_true rfl)).trans rfl, ?_⟩
      refine T_faz_i ⟨_, (p_fbz aa ba levels).2.1, _, r87.isL, r88.isL, (o84.isL ω10), ω0, ω0, ω0, ω6, fun a142 n143 e144 a146 n147 e148 H_10 g152 r145 r149 => ?_⟩
      have z150 := faz_len ((p_fbz aa ba levels).1) ((p_fbz aa ba levels).2.1) ya hard
      have z151 := faz_big ((p_fbz aa ba levels).1) ((p_fbz aa ba levels).2.1) ya hard (by assumption)
      have l153 := g152.1
      have g154 := g96.trans g152
      have l155 := g154.1
      have o156 := o85.grow g152
      have w157 := o156.lt
      have o158 := o86.grow g152
      have w159 := o158.lt
      have o160 := o84.grow g152
      have w161 := o160.lt
      have r162 := r87.grow g152
      have r163 := r88.grow g152
      obtain rfl := r145.isL.eqn
      have u164 := r145.up
      have u165 := r145.lo
      obtain rfl := r149.isL.eqn
      have u167 := r149.up
      have u168 := r149.lo
      refine Lt.setN (n := 2) o158 (Nat.le_of_ble_eq_true rfl) rfl (fun H_11 hl_170 o172 k171 => ?_)
      have o172 : Own H_11 b_32 [.slice a142 (((p_faz ((p_fbz aa ba levels).1) ((p_fbz aa ba levels).2.1) ya hard).1).length) e144, .slice a146 (((p_faz ((p_fbz aa ba levels).1) ((p_fbz aa ba levels).2.1) ya hard).2.1).length) e148] := o172
      have l173 := k171.1
      have g174 := g154.keep (b := b_32) ω2 k171
      have l175 := g174.1
      have o176 := o156.keep ω2 k171
      have w177 := o176.lt
      have o178 := o160.keep ω2 k171
      have w179 := o178.lt
      have r180 := r162.keep u26 ω2 k171
      have r181 := r163.keep ω2 k171
      have r182 := r145.keep u164 ω2 k171
      have r183 := r149.keep ω2 k171
      have w207 := o172.lt
      refine Br.intro (fun c184 => ?_) (fun c184 => ?_)
      ·have e := e.trans (cond_t c184)
       have c_184n := nf_of_t c184
       rw [e] at hk
       exact hk _ _ _ H_11 g174 ω9
      ·have e := e.trans (cond_f c184)
       have c_184n := nt_of_f c184
       refine ⟨a142, ((p_faz ((p_fbz aa ba levels).1) ((p_fbz aa ba levels).2.1) ya hard).1).length, e144, a146, ((p_faz ((p_fbz aa ba levels).1) ((p_fbz aa ba levels).2.1) ya hard).2.1).length, e148, (o172.rdN (Nat.le_of_ble_eq_true rfl)).trans rfl, ?_⟩
       refine ⟨p_Low_a, ba.length, p_Low_e, (o176.rdN (Nat.le_of_ble_eq_true rfl)).trans rfl, ?_⟩
       refine T_fez_i ⟨_, (p_faz ((p_fbz aa ba levels).1) ((p_fbz aa ba levels).2.1) ya hard).2.1, _, r182.isL, r183.isL, (i_p_Low.grow g174), ω0, ω0, ω0, ω6, fun a185 n186 e187 H_12 g190 r188 => ?_⟩
       have z189 := fez_len ((p_faz ((p_fbz aa ba levels).1) ((p_fbz aa ba levels).2.1) ya hard).1) ((p_faz ((p_fbz aa ba levels).1) ((p_fbz aa ba levels).2.1) ya hard).2.1) ba
       have l191 := g190.1
       have g192 := g174.trans g190
       have l193 := g192.1
       have o194 := o176.grow g190
       have w195 := o194.lt
       have o196 := o172.grow g190
       have w197 := o196.lt
       have o198 := o178.grow g190
       have w199 := o198.lt
       have r200 := r180.grow g190
       have r201 := r181.grow g190
       have r202 := r182.grow g190
       have r203 := r183.grow g190
       obtain rfl := r188.isL.eqn
       have u204 := r188.up
       have u205 := r188.lo
       rw [e] at hk
       exact hk _ _ _ H_12 g192 (r188.weak ω2)
theorem f1dz_ok : FnOk Try.prog 40 S_f1dz := by
 refine FnOk.body mix_ok E_f1dz_ok Try.func40 rfl ω15 ω15 ?_ ?_ ?_ ?_ ?_
 ·intro args H K K' h hk
  simp only [S_f1dz] at *
  unfold F_f1dz at *
  split at hk
  ·obtain ⟨aa, ba, i_list, i_p_Low, bd_212, bd_213, k⟩ := hk
   exact ⟨aa, ba, i_list, i_p_Low, bd_212, bd_213, (fun ib kb jb H' gg ow0 => h _ _ (k ib kb jb H' gg ow0))⟩
  ·exact hk.elim
 ·intro hq; cases hq
 ·intro args H K hk
  simp only [S_f1dz] at *
  unfold F_f1dz at *
  split at hk
  ·obtain ⟨aa, ba, i_list, i_p_Low, bd_212, bd_213, k⟩ := hk
   exact liveS fun a n e H1 g o => ⟨_, _, k a n e H1 g o⟩
  ·exact hk.elim
 ·intro _ args H K hk
  simp only [S_f1dz] at *
  unfold F_f1dz at *
  split at hk
  ·obtain ⟨aa, ba, i_list, i_p_Low, bd_212, bd_213, k⟩ := hk
   exact ⟨aa, ba, i_list, i_p_Low, bd_212, bd_213, (fun ib kb jb H' gg ow0 => ⟨gg, k ib kb jb H' gg ow0⟩)⟩
  ·exact hk.elim
 ·have mm := @f1dz_main
  have ml := fun (args : List Value) (H : AHeap) (K : Value → AHeap → Prop) => bodyL_body (P := Try.prog) (env := E_f1dz ) (fn := Try.f40) (args := args) (H := H) (K := K) E_f1dz_ok 
  revert mm ml
  generalize bodyK Try.prog E_f1dz Try.f40 = Q
  generalize bodyL Try.prog E_f1dz Try.f40 = QL
  intro mm ml args H K hk
  simp only [S_f1dz] at *
  unfold F_f1dz at *
  split at hk
  ·exact ml _ H K (mm _ _ _ _ _ _ _ _ H K hk)
  ·exact hk.elim
def p_fwz (a : Nat) (b : Nat) : Bool := ((bif !(feq .f64 a a) then (bif !(feq .f64 a a) then !(feq .f64 b b) else false) else (bif !(feq .f64 b b) then (bif !(feq .f64 a a) then !(feq .f64 b b) else false) else (bif feq .f64 a 0 then (bif feq .f64 b 0 then (flt .f64 0 (fdiv .f64 4607182418800017408 a)) == (flt .f64 0 (fdiv .f64 4607182418800017408 b)) else feq .f64 a b) else feq .f64 a b))))
def p_fwz_eq := @p_fwz.eq_1
def T_fwz (a : Nat) (b : Nat) (H : AHeap) (K : Bool → AHeap → Prop) : Prop := K (p_fwz a b) H

theorem T_fwz_i {a : Nat} {b : Nat} {H : AHeap} {K : Bool → AHeap → Prop} (h : K (p_fwz a b) H) : T_fwz a b H K := h
/-! fwz: function 31 -/
def E_fwz : Env := envOf []
def F_fwz : List Value → AHeap → (Value → AHeap → Prop) → Prop
 | [.float .f64 a, .float .f64 b], H, K => T_fwz a b H fun (r1 : Bool) (H' : AHeap) => K (.bool r1) H'
 | _, _, _ => False
def S_fwz : FSpec := { F := F_fwz, quiet := true, tame := false }
theorem fwz_vc (a : Nat) (b : Nat) (H : AHeap) (K : Value → AHeap → Prop) : bodyL Try.prog E_fwz Try.f31 [.float .f64 a, .float .f64 b] H K =
 (Br (!(feq .f64 a a)) (Br (!(feq .f64 a a)) (K (.bool (!(feq .f64 b b))) H) (K (.bool false) H)) (Br (!(feq .f64 b b)) (Br (!(feq .f64 a a)) (K (.bool (!(feq .f64 b b))) H) (K (.bool false) H)) (Br (feq .f64 a 0) (Br (feq .f64 b 0) (K (.bool ((flt .f64 0 (fdiv .f64 4607182418800017408 a)) == (flt .f64 0 (fdiv .f64 4607182418800017408 b)))) H) (K (.bool (feq .f64 a b)) H)) (K (.bool (feq .f64 a b)) H)))) := by kernel_rfl
theorem E_fwz_ok : ∀ g, FnOk Try.prog g (E_fwz g) := FnOk.envOf (by
 intro x hx; cases hx)
theorem fwz_main (a : Nat) (b : Nat) (H : AHeap) (K : Value → AHeap → Prop) (h : T_fwz a b H fun (r1 : Bool) (H' : AHeap) => K (.bool r1) H') : bodyL Try.prog E_fwz Try.f31 [.float .f64 a, .float .f64 b] H K := by
 rw [fwz_vc]
 unfold T_fwz p_fwz at h
 repeat' (first | exact h | (exfalso; simp_all; done) | (refine ⟨by decide, ?_⟩) | (refine Br.intro (fun hb => ?_) (fun hb => ?_) <;> (try simp only [hb, cond_true, cond_false, Bool.not_true, Bool.not_false] at h)))
theorem fwz_ok : FnOk Try.prog 31 S_fwz := by
 refine FnOk.body mix_ok E_fwz_ok Try.func31 rfl ω15 ω15 ?_ ?_ ?_ ?_ ?_
 ·intro args H K K' h hk
  simp only [S_fwz] at *
  unfold F_fwz at *
  split at hk
  ·have k := hk
   exact h _ _ k
  ·exact hk.elim
 ·intro _ args H K hk
  simp only [S_fwz] at *
  unfold F_fwz at *
  split at hk
  ·have k := hk
   exact ⟨_, k, fun K' k' => k'⟩
  ·exact hk.elim
 ·intro args H K hk
  simp only [S_fwz] at *
  unfold F_fwz at *
  split at hk
  ·have k := hk
   exact ⟨_, _, k⟩
  ·exact hk.elim
 ·intro hq; cases hq
 ·have mm := @fwz_main
  have ml := fun (args : List Value) (H : AHeap) (K : Value → AHeap → Prop) => bodyL_body (P := Try.prog) (env := E_fwz ) (fn := Try.f31) (args := args) (H := H) (K := K) E_fwz_ok 
  revert mm ml
  generalize bodyK Try.prog E_fwz Try.f31 = Q
  generalize bodyL Try.prog E_fwz Try.f31 = QL
  intro mm ml args H K hk
  simp only [S_fwz] at *
  unfold F_fwz at *
  split at hk
  ·exact ml _ H K (mm _ _ H K hk)
  ·exact hk.elim

def p_flz_l1 (l_a : LN) (l_b : LN) : Nat → Bool → Int → Bool
 | 0, _, _ => false
 | μ + 1, t4, i => (bif decide ((i : Int) < (l_a.length : Int)) then (bif !((p_fwz (fwide (((l_a).getD (i : Int).toNat 0))) (fwide (((l_b).getD (i : Int).toNat 0))))) then false else (p_flz_l1 l_a l_b μ t4 (i + 1))) else true)
def p_flz_l1_s := fun l_a l_b μ t4 i => @p_flz_l1.eq_2 l_a l_b t4 i μ
def p_flz (l_a : LN) (l_b : LN) : Bool := ((bif ((l_a.length : Int) : Int) != (l_b.length : Int) then false else (p_flz_l1 l_a l_b (Int.toNat ((l_a.length : Int) - (0 : Int)) + 1) false (0 : Int))))
def p_flz_eq := @p_flz.eq_1
def T_flz (a_a : OA) (a_n : Nat) (a_e : Nat) (b_a : OA) (b_n : Nat) (b_e : Nat) (H : AHeap) (K : Bool → AHeap → Prop) : Prop := ∃ (l_a : LN), ∃ (l_b : LN), IsL fF H a_a a_n l_a ∧ IsL fF H b_a b_n l_b ∧ l_a.length < 1073741824 ∧ l_b.length < 1073741824 ∧ K (p_flz l_a l_b) H
theorem T_flz_i {a_a : OA} {a_n : Nat} {a_e : Nat} {b_a : OA} {b_n : Nat} {b_e : Nat} {H : AHeap} {K : Bool → AHeap → Prop} (h : ∃ (l_a : LN), ∃ (l_b : LN), IsL fF H a_a a_n l_a ∧ IsL fF H b_a b_n l_b ∧ l_a.length < 1073741824 ∧ l_b.length < 1073741824 ∧ K (p_flz l_a l_b) H) : T_flz a_a a_n a_e b_a b_n b_e H K := h
theorem fwz_self (y : Nat) : p_fwz y y = true := by
 rw [p_fwz_eq]
 cases feq .f64 y y <;> simp
theorem flz_go (l : LN) : ∀ (μ : Nat) (t : Bool) (i : Nat), l.length - i < μ → p_flz_l1 l l μ t (i : Int) = true := by
 intro μ
 induction μ with
 | zero => intro t i h; omega
 | succ μ ih =>
  intro t i hm
  rw [p_flz_l1_s]
  by_cases h : i < l.length
  ·rw [decide_eq_true (show (i : Int) < (l.length : Int) by omega), cond_true, fwz_self]
   simp only [Bool.not_true, cond_false]
   exact ih t (i + 1) ω2
  ·rw [decide_eq_false (show ¬ (i : Int) < (l.length : Int) by omega), cond_false]
theorem flz_self (l : LN) : p_flz l l = true := by
 rw [p_flz_eq]
 have h0 : ((l.length : Int) != (l.length : Int)) = false := by simp
 rw [h0, cond_false]
 exact flz_go l _ false 0 ω2
/-! flz: function 24 -/
def E_flz : Env := envOf [(31, S_fwz)]
def F_flz : List Value → AHeap → (Value → AHeap → Prop) → Prop
 | [.slice a_a a_n a_e, .slice b_a b_n b_e], H, K => T_flz a_a a_n a_e b_a b_n b_e H fun (r1 : Bool) (H' : AHeap) => K (.bool r1) H'
 | _, _, _ => False
def S_flz : FSpec := { F := F_flz, quiet := true, tame := false }
theorem flz_vc (a_a : OA) (a_n : Nat) (a_e : Nat) (b_a : OA) (b_n : Nat) (b_e : Nat) (H : AHeap) (K : Value → AHeap → Prop) : bodyL Try.prog E_flz Try.f24 [.slice a_a a_n a_e, .slice b_a b_n b_e] H K =
 (Br (((a_n : Int) : Int) != (b_n : Int)) (K (.bool false) H) (loopK (exL Try.prog E_flz (cl (cl (cr (cl (cr (cr (bodyC Try.f24))))))) 35 16 [(0, 0)]) (.slice a_a a_n a_e :: .slice b_a b_n b_e :: ud3 (.int .i64 0 :: ud23 [])) H (blockQ 0 (seqQ (exL Try.prog E_flz (cr (cr (cr (bodyC Try.f24)))) 16 16 []) (retK Try.prog Try.f24 K))))) := by kernel_rfl
abbrev flz_P1 (a_a : OA) (a_e : Nat) (a_n : Nat) (b_a : OA) (b_e : Nat) (b_n : Nat) (i : Int)  : List Value := (.slice a_a a_n a_e :: .slice b_a b_n b_e :: ud3 (.int .i64 i :: ud23 []))
theorem flz_r1 (a_a : OA) (a_e : Nat) (a_n : Nat) (b_a : OA) (b_e : Nat) (b_n : Nat) (i : Int)  (H : AHeap) (R : Post) : exL Try.prog E_flz (cl (cl (cr (cl (cr (cr (bodyC Try.f24))))))) 35 16 [(0, 0)] (flz_P1 a_a a_e a_n b_a b_e b_n i) H R =
 (Br (decide ((i : Int) < (a_n : Int))) ((0 : Int) ≤ i ∧ i < (a_n : Int) ∧ ∃ b1 f1, (a_a : OA) = some ⟨b1, f1, none⟩ ∧ ∃ x1 : Nat,  rdC H b1 (f1 + (i : Int).toNat * 1) = some (.float .f32 x1) ∧ (0 : Int) ≤ i ∧ i < (b_n : Int) ∧ ∃ b2 f2, (b_a : OA) = some ⟨b2, f2, none⟩ ∧ ∃ x2 : Nat,  rdC H b2 (f2 + (i : Int).toNat * 1) = some (.float .f32 x2) ∧ T_fwz (fwide x1) (fwide x2) H fun (r1 : Bool) (H1 : AHeap) => Br (!r1) (R .ret (ud4 (.bool false :: ud24 [])) H1) (R .normal (.slice a_a a_n a_e :: .slice b_a b_n b_e :: ud3 (.int .i64 (IntKind.wrap .i64 (i + 1)) :: ud23 [])) H1)) (R (.exit 0) (ud29 []) H)) := by kernel_rfl
def flz_I1 (a_a : OA) (a_e : Nat) (a_n : Nat) (b_a : OA) (b_e : Nat) (b_n : Nat) (Inv : Nat → Int → AHeap → Prop) : Nat → List Value → AHeap → Prop := fun μ tm H => ∃ (i : Int), tm = (flz_P1 a_a a_e a_n b_a b_e b_n i) ∧ Inv μ i H
theorem flz_L1 (a_a : OA) (a_e : Nat) (a_n : Nat) (b_a : OA) (b_e : Nat) (b_n : Nat) {Q : Post} (Inv : Nat → Int → AHeap → Prop) (ν : Nat) (i : Int)  (H : AHeap) (h0 : Inv ν i H)
  (hs : ∀ (μ : Nat) (i : Int)  (H : AHeap), Inv μ i H → exL Try.prog E_flz (cl (cl (cr (cl (cr (cr (bodyC Try.f24))))))) 35 16 [(0, 0)] (flz_P1 a_a a_e a_n b_a b_e b_n i) H (loopQ (flz_I1 a_a a_e a_n b_a b_e b_n Inv) μ Q)) : loopK (exL Try.prog E_flz (cl (cl (cr (cl (cr (cr (bodyC Try.f24))))))) 35 16 [(0, 0)]) (flz_P1 a_a a_e a_n b_a b_e b_n i) H Q :=
 ⟨flz_I1 a_a a_e a_n b_a b_e b_n Inv, ν, ⟨i, rfl, h0⟩, fun μ tm H h => by obtain ⟨i, rfl, hI⟩ := h; exact hs μ i  H hI⟩
theorem flz_n1 {a_a : OA} {a_e : Nat} {a_n : Nat} {b_a : OA} {b_e : Nat} {b_n : Nat} {Q : Post} {Inv : Nat → Int → AHeap → Prop} {μ : Nat} (μ' : Nat) {i : Int}  {H : AHeap} (hm : μ' < μ) (hI : Inv μ' i H) : loopQ (flz_I1 a_a a_e a_n b_a b_e b_n Inv) μ Q .normal (flz_P1 a_a a_e a_n b_a b_e b_n i) H := ⟨μ', hm, i, rfl, hI⟩
theorem flz_x1_0  (H : AHeap) (K : Value → AHeap → Prop)  {I : Nat → List Value → AHeap → Prop} {μ : Nat} : loopQ I μ (blockQ 0 (seqQ (exL Try.prog E_flz (cr (cr (cr (bodyC Try.f24)))) 16 16 []) (retK Try.prog Try.f24 K))) (.exit 0) (ud29 []) H =
 (K (.bool true) H) := by kernel_rfl
theorem flz_x1_ret (t4 : Bool) (H : AHeap) (K : Value → AHeap → Prop)  {I : Nat → List Value → AHeap → Prop} {μ : Nat} : loopQ I μ (blockQ 0 (seqQ (exL Try.prog E_flz (cr (cr (cr (bodyC Try.f24)))) 16 16 []) (retK Try.prog Try.f24 K))) .ret (ud4 (.bool t4 :: ud24 [])) H =
 (K (.bool t4) H) := by kernel_rfl
theorem E_flz_ok : ∀ g, FnOk Try.prog g (E_flz g) := FnOk.envOf (by
 intro x hx
 simp only [List.mem_cons, List.not_mem_nil, or_false] at hx
 subst hx; exact fwz_ok)
theorem flz_main (a_a : OA) (a_n : Nat) (a_e : Nat) (b_a : OA) (b_n : Nat) (b_e : Nat) (H : AHeap) (K : Value → AHeap → Prop) (h : T_flz a_a a_n a_e b_a b_n b_e H fun (r1 : Bool) (H' : AHeap) => K (.bool r1) H') : bodyL Try.prog E_flz Try.f24 [.slice a_a a_n a_e, .slice b_a b_n b_e] H K := by
 rw [flz_vc]
 obtain ⟨l_a, l_b, i_a, i_b, bd_13, bd_14, hk⟩ := h
 obtain rfl := i_a.eqn
 obtain rfl := i_b.eqn
 have e : (p_flz l_a l_b) = _ := rfl
 have e := e.trans (p_flz_eq l_a l_b)
 have g0 := Grow.refl H
 refine Br.intro (fun c_1 => ?_) (fun c_1 => ?_)
 ·have e := e.trans (cond_t c_1)
  have c_1' := ine_t c_1
  rw [e] at hk
  exact hk
 ·have e := e.trans (cond_f c_1)
  have c_1' := ine_f c_1
  refine flz_L1 _ _ _ _ _ _ (fun (μ : Nat) (i : Int) (H_1 : AHeap) => ∃ (t4 : Bool), H = H_1 ∧ (0 : Int) ≤ i ∧ i ≤ (l_a.length : Int) ∧ (l_a.length : Int) - i ≤ (μ : Int) ∧ p_flz l_a l_b = p_flz_l1 l_a l_b (μ + 1) t4 i) (Int.toNat ((l_a.length : Int) - (0 : Int))) _ H ?_ ?_
  ·exact ⟨_, rfl, ω7, ω7, ω2, e⟩
  ·intro μ i  H_1 hI
   obtain ⟨t4, rfl, v_2, v_3, hμ, e⟩ := hI
   rw [flz_r1]
   have e := e.trans (p_flz_l1_s l_a l_b μ t4 i)
   have l4 := g0.1
   refine Br.intro (fun c_5 => ?_) (fun c_5 => ?_)
   ·have e := e.trans (cond_t c_5)
    have c_5' := of_decide_eq_true c_5
    obtain ⟨b_6, f_7, q8⟩ := ((i_a.grow g0)).pos ω0
    refine ⟨by omega, by omega, b_6, f_7, q8, ?_⟩
    refine ⟨((l_a).getD (i : Int).toNat 0), (i_a).rd g0 q8 ω2 _, ?_⟩
    obtain ⟨b_9, f_10, q11⟩ := ((i_b.grow g0)).pos ω0
    refine ⟨by omega, by omega, b_9, f_10, q11, ?_⟩
    refine ⟨((l_b).getD (i : Int).toNat 0), (i_b).rd g0 q11 ω2 _, ?_⟩
    refine T_fwz_i ?_
    refine Br.intro (fun c12 => ?_) (fun c12 => ?_)
    ·have e := e.trans (cond_t c12)
     have c_12n := nf_of_t c12
     rw [flz_x1_ret]
     rw [e] at hk
     exact hk
    ·have e := e.trans (cond_f c12)
     have c_12n := nt_of_f c12
     rw [show IntKind.wrap .i64 (i + 1) = (i + 1) from wrap64 ω2 ω2]
     refine flz_n1 (μ - 1) ω17 ⟨_, rfl, ω1, ω1, ω17, ω12⟩
   ·have e := e.trans (cond_f c_5)
    have c_5' := of_decide_eq_false c_5
    rw [flz_x1_0]
    rw [e] at hk
    exact hk
theorem flz_ok : FnOk Try.prog 24 S_flz := by
 refine FnOk.body mix_ok E_flz_ok Try.func24 rfl ω15 ω15 ?_ ?_ ?_ ?_ ?_
 ·intro args H K K' h hk
  simp only [S_flz] at *
  unfold F_flz at *
  split at hk
  ·obtain ⟨l_a, l_b, i_a, i_b, bd_13, bd_14, k⟩ := hk
   exact ⟨l_a, l_b, i_a, i_b, bd_13, bd_14, h _ _ k⟩
  ·exact hk.elim
 ·intro _ args H K hk
  simp only [S_flz] at *
  unfold F_flz at *
  split at hk
  ·obtain ⟨l_a, l_b, i_a, i_b, bd_13, bd_14, k⟩ := hk
   exact ⟨_, k, fun K' k' => ⟨l_a, l_b, i_a, i_b, bd_13, bd_14, k'⟩⟩
  ·exact hk.elim
 ·intro args H K hk
  simp only [S_flz] at *
  unfold F_flz at *
  split at hk
  ·obtain ⟨l_a, l_b, i_a, i_b, bd_13, bd_14, k⟩ := hk
   exact ⟨_, _, k⟩
  ·exact hk.elim
 ·intro hq; cases hq
 ·have mm := @flz_main
  have ml := fun (args : List Value) (H : AHeap) (K : Value → AHeap → Prop) => bodyL_body (P := Try.prog) (env := E_flz ) (fn := Try.f24) (args := args) (H := H) (K := K) E_flz_ok 
  revert mm ml
  generalize bodyK Try.prog E_flz Try.f24 = Q
  generalize bodyL Try.prog E_flz Try.f24 = QL
  intro mm ml args H K hk
  simp only [S_flz] at *
  unfold F_flz at *
  split at hk
  ·exact ml _ H K (mm _ _ _ _ _ _ H K hk)
  ·exact hk.elim

def p_f1zz (qb : LN) (me : LN) : Bool := (bif !(p_flz qb me) then false else true)
def p_f1zz_eq := @p_f1zz.eq_1
def T_f1zz (dc : OA) (lc : Nat) (mc : Nat) (ff : OA) (lf : Nat) (sf : Nat) (H : AHeap) (K : Bool → AHeap → Prop) : Prop := ∃ (qb : LN), ∃ (me : LN), IsL fF H dc lc qb ∧ IsL fF H ff lf me ∧ qb.length < 1073741824 ∧ me.length < 1073741824 ∧ ((∀ H' : AHeap, Grow H H' → K (p_f1zz qb me) H'))
theorem T_f1zz_i {dc : OA} {lc : Nat} {mc : Nat} {ff : OA} {lf : Nat} {sf : Nat} {H : AHeap} {K : Bool → AHeap → Prop} (h : ∃ (qb : LN), ∃ (me : LN), IsL fF H dc lc qb ∧ IsL fF H ff lf me ∧ qb.length < 1073741824 ∧ me.length < 1073741824 ∧ ((∀ H' : AHeap, Grow H H' → K (p_f1zz qb me) H'))) : T_f1zz dc lc mc ff lf sf H K := h
theorem f1zz_self (l : LN) : p_f1zz l l = true := by
 rw [p_f1zz_eq, flz_self]; rfl
/-! f1zz: function 41 -/
def E_f1zz : Env := envOf [(24, S_flz)]
def F_f1zz : List Value → AHeap → (Value → AHeap → Prop) → Prop
 | [.agg ⟨[.slice dc lc mc]⟩, .agg ⟨[.slice ff lf sf]⟩], H, K => T_f1zz dc lc mc ff lf sf H fun (r1 : Bool) (H' : AHeap) => K (.bool r1) H'
 | _, _, _ => False
def S_f1zz : FSpec := { F := F_f1zz, quiet := false, tame := true }
theorem f1zz_vc (dc : OA) (lc : Nat) (mc : Nat) (ff : OA) (lf : Nat) (sf : Nat) (H : AHeap) (K : Value → AHeap → Prop) : bodyL Try.prog E_f1zz Try.f41 [.agg #[.slice dc lc mc], .agg #[.slice ff lf sf]] H K =
 (Al [.slice dc lc mc] H fun b1 H1 => Al [.slice ff lf sf] H1 fun b2 H2 => ∃ sc : OA, ∃ bb : Nat, ∃ tc : Nat,  rdC H2 b1 0 = some (.slice sc bb tc) ∧ ∃ oe : OA, ∃ je : Nat, ∃ te : Nat,  rdC H2 b2 0 = some (.slice oe je te) ∧ T_flz sc bb tc oe je te H2 fun (r1 : Bool) (H3 : AHeap) => Br (!r1) (K (.bool false) H3) (K (.bool true) H3)) := by kernel_rfl
theorem E_f1zz_ok : ∀ g, FnOk Try.prog g (E_f1zz g) := FnOk.envOf (by
 intro x hx
 simp only [List.mem_cons, List.not_mem_nil, or_false] at hx
 subst hx; exact flz_ok)
theorem f1zz_main (dc : OA) (lc : Nat) (mc : Nat) (ff : OA) (lf : Nat) (sf : Nat) (H : AHeap) (K : Value → AHeap → Prop) (h : T_f1zz dc lc mc ff lf sf H fun (r1 : Bool) (H' : AHeap) => K (.bool r1) H') : bodyL Try.prog E_f1zz Try.f41 [.agg #[.slice dc lc mc], .agg #[.slice ff lf sf]] H K := by
 rw [f1zz_vc]
 obtain ⟨qb, me, i_a_Low, i_b_Low, bd_24, bd_25, hk⟩ := h
 obtain rfl := i_a_Low.eqn
 obtain rfl := i_b_Low.eqn
 have e : (p_f1zz qb me) = _ := rfl
 have e := e.trans (p_f1zz_eq qb me)
 have g0 := Grow.refl H
 refine Al.intro (fun b_1 H_1 hb_2 hl_3 g_4 o_5 => ?_)
 have l7 := g_4.1
 have g8 := g0.trans g_4
 have l9 := g8.1
 have w23 := o_5.lt
 refine Al.intro (fun b_10 H_2 hb_11 hl_12 g13 o14 => ?_)
 have l16 := g13.1
 have g17 := g8.trans g13
 have l18 := g17.1
 have o19 := o_5.grow g13
 have w20 := o19.lt
 have w22 := o14.lt
 refine ⟨dc, qb.length, mc, (o19.rdC _).trans rfl, ?_⟩
 refine ⟨ff, me.length, sf, (o14.rdC _).trans rfl, ?_⟩
 refine T_flz_i ⟨_, _, (i_a_Low.grow g17), (i_b_Low.grow g17), ω0, ω0, ?_⟩
 refine Br.intro (fun c21 => ?_) (fun c21 => ?_)
 ·have e := e.trans (cond_t c21)
  have c_21n := nf_of_t c21
  rw [e] at hk
  exact hk  H_2 g17 
 ·have e := e.trans (cond_f c21)
  have c_21n := nt_of_f c21
  rw [e] at hk
  exact hk  H_2 g17 
theorem f1zz_ok : FnOk Try.prog 41 S_f1zz := by
 refine FnOk.body mix_ok E_f1zz_ok Try.func41 rfl ω15 ω15 ?_ ?_ ?_ ?_ ?_
 ·intro args H K K' h hk
  simp only [S_f1zz] at *
  unfold F_f1zz at *
  split at hk
  ·obtain ⟨qb, me, i_a_Low, i_b_Low, bd_24, bd_25, k⟩ := hk
   exact ⟨qb, me, i_a_Low, i_b_Low, bd_24, bd_25, (fun  H' gg  => h _ _ (k  H' gg ))⟩
  ·exact hk.elim
 ·intro hq; cases hq
 ·intro args H K hk
  simp only [S_f1zz] at *
  unfold F_f1zz at *
  split at hk
  ·obtain ⟨qb, me, i_a_Low, i_b_Low, bd_24, bd_25, k⟩ := hk
   exact ⟨_, _, k H (Grow.refl H)⟩
  ·exact hk.elim
 ·intro _ args H K hk
  simp only [S_f1zz] at *
  unfold F_f1zz at *
  split at hk
  ·obtain ⟨qb, me, i_a_Low, i_b_Low, bd_24, bd_25, k⟩ := hk
   exact ⟨qb, me, i_a_Low, i_b_Low, bd_24, bd_25, (fun  H' gg  => ⟨gg, k  H' gg ⟩)⟩
  ·exact hk.elim
 ·have mm := @f1zz_main
  have ml := fun (args : List Value) (H : AHeap) (K : Value → AHeap → Prop) => bodyL_body (P := Try.prog) (env := E_f1zz ) (fn := Try.f41) (args := args) (H := H) (K := K) E_f1zz_ok 
  revert mm ml
  generalize bodyK Try.prog E_f1zz Try.f41 = Q
  generalize bodyL Try.prog E_f1zz Try.f41 = QL
  intro mm ml args H K hk
  simp only [S_f1zz] at *
  unfold F_f1zz at *
  split at hk
  ·exact ml _ H K (mm _ _ _ _ _ _ H K hk)
  ·exact hk.elim

def p_f9z_l1 (l_a : LN) (k : Int) : Nat → Int → Int → LN → Int × LN
 | 0, _, _, _ => (0, [])
 | μ + 1, k_1, i, y1_1 => (bif decide ((i : Int) < (l_a.length : Int)) then (p_f9z_l1 l_a k μ (IntKind.wrap .i64 (k_1 + 1)) (i + 1) (((y1_1).set (i : Int).toNat (FloatKind.nearest .f32 k_1)))) else (k_1, y1_1))
def p_f9z_l1_s := fun l_a k μ k_1 i y1_1 => @p_f9z_l1.eq_2 l_a k k_1 i y1_1 μ
def p_f9z (l_a : LN) (k : Int) : Int × LN := (p_f9z_l1 l_a k (Int.toNat ((l_a.length : Int) - (0 : Int)) + 1) k (0 : Int) l_a)
def p_f9z_eq := @p_f9z.eq_1
def T_f9z (a_a : OA) (a_n : Nat) (a_e : Nat) (k : Int) (H : AHeap) (K : Int → AHeap → Prop) : Prop := ∃ lo : Nat, ∃ (l_a : LN), OwnS fF H lo a_a a_n a_e l_a ∧ l_a.length < 1073741824 ∧ ((∀ H' : AHeap, KeepA a_a H H' → OwnS fF H' lo a_a a_n a_e (marks (FloatKind.nearest .f32) k l_a.length) → K (wk k l_a.length) H'))
theorem T_f9z_i {a_a : OA} {a_n : Nat} {a_e : Nat} {k : Int} {H : AHeap} {K : Int → AHeap → Prop} (h : ∃ lo : Nat, ∃ (l_a : LN), OwnS fF H lo a_a a_n a_e l_a ∧ l_a.length < 1073741824 ∧ ((∀ H' : AHeap, KeepA a_a H H' → OwnS fF H' lo a_a a_n a_e (marks (FloatKind.nearest .f32) k l_a.length) → K (wk k l_a.length) H'))) : T_f9z a_a a_n a_e k H K := h
theorem f9z_go (l : LN) (k0 : Int) : ∀ (μ : Nat) (k : Int) (i : Nat) (ys : LN), ys.length = l.length → i ≤ l.length → l.length - i < μ →
  p_f9z_l1 l k0 μ k (i : Int) ys = (wk k (l.length - i), ys.take i ++ marks (FloatKind.nearest .f32) k (l.length - i)) := by
 intro μ
 induction μ with
 | zero => intro k i ys _ _ h; omega
 | succ μ ih =>
  intro k i ys hy hi hm
  rw [p_f9z_l1_s]
  by_cases h : i < l.length
  ·rw [decide_eq_true (show (i : Int) < (l.length : Int) by omega), cond_true, Int.toNat_natCast]
   have := ih (IntKind.wrap .i64 (k + 1)) (i + 1) (ys.set i ((FloatKind.nearest .f32) k)) (by simp [hy]) ω2 ω2
   obtain ⟨d, hd⟩ : ∃ d, l.length - i = d + 1 := ⟨l.length - i - 1, by omega⟩
   rw [show l.length - (i + 1) = d by omega] at this
   rw [hd, wk, marks]
   refine Eq.trans this ?_
   rw [List.take_add_one, List.getElem?_set_self ω2, List.take_set_of_le (Nat.le_refl i)]
   simp
  ·rw [decide_eq_false (show ¬ (i : Int) < (l.length : Int) by omega), cond_false]
   rw [show l.length - i = 0 by omega, wk, marks, List.append_nil, List.take_of_length_le ω2]
theorem f9z_val (l : LN) (k : Int) : p_f9z l k = (wk k l.length, marks (FloatKind.nearest .f32) k l.length) := by
 rw [p_f9z_eq]
 have := f9z_go l k (Int.toNat ((l.length : Int) - 0) + 1) k 0 l rfl ω2 ω2
 simpa using this
/-! f9z: function 25 -/
def E_f9z : Env := envOf []
def F_f9z : List Value → AHeap → (Value → AHeap → Prop) → Prop
 | [.slice a_a a_n a_e, .int .i64 k], H, K => T_f9z a_a a_n a_e k H fun (r1 : Int) (H' : AHeap) => K (.int .i64 r1) H'
 | _, _, _ => False
def S_f9z : FSpec := { F := F_f9z, quiet := false, tame := false }
theorem f9z_vc (a_a : OA) (a_n : Nat) (a_e : Nat) (k : Int) (H : AHeap) (K : Value → AHeap → Prop) : bodyL Try.prog E_f9z Try.f25 [.slice a_a a_n a_e, .int .i64 k] H K =
 (loopK (exL Try.prog E_f9z (cl (cl (cr (cl (cr (bodyC Try.f25)))))) 35 16 [(0, 2)]) (.slice a_a a_n a_e :: .int .i64 k :: ud3 (.int .i64 0 :: ud14 [])) H (blockQ 0 (seqQ (exL Try.prog E_f9z (cr (cr (bodyC Try.f25))) 16 16 []) (retK Try.prog Try.f25 K)))) := by kernel_rfl
abbrev f9z_P1 (a_a : OA) (a_e : Nat) (a_n : Nat) (k_1 : Int) (i : Int)  : List Value := (.slice a_a a_n a_e :: .int .i64 k_1 :: ud3 (.int .i64 i :: ud14 []))
theorem f9z_r1 (a_a : OA) (a_e : Nat) (a_n : Nat) (k_1 : Int) (i : Int)  (H : AHeap) (R : Post) : exL Try.prog E_f9z (cl (cl (cr (cl (cr (bodyC Try.f25)))))) 35 16 [(0, 2)] (f9z_P1 a_a a_e a_n k_1 i) H R =
 (Br (decide ((i : Int) < (a_n : Int))) ((0 : Int) ≤ i ∧ i < (a_n : Int) ∧ ∃ b1 f1, (a_a : OA) = some ⟨b1, f1, none⟩ ∧ isOwn H b1 ∧ (∃ l, rdN H b1 (f1 + (i : Int).toNat * 1) 1 = some l) ∧ Lt (setC H b1 (f1 + (i : Int).toNat * 1) (.float .f32 (FloatKind.nearest .f32 k_1))) fun H1 => R .normal (.slice a_a a_n a_e :: .int .i64 (IntKind.wrap .i64 (k_1 + 1)) :: ud3 (.int .i64 (IntKind.wrap .i64 (i + 1)) :: ud14 [])) H1) (R (.exit 0) (ud :: .int .i64 k_1 :: ud18 []) H)) := by kernel_rfl
def f9z_I1 (a_a : OA) (a_e : Nat) (a_n : Nat) (Inv : Nat → Int → Int → AHeap → Prop) : Nat → List Value → AHeap → Prop := fun μ tm H => ∃ (k_1 : Int), ∃ (i : Int), tm = (f9z_P1 a_a a_e a_n k_1 i) ∧ Inv μ k_1 i H
theorem f9z_L1 (a_a : OA) (a_e : Nat) (a_n : Nat) {Q : Post} (Inv : Nat → Int → Int → AHeap → Prop) (ν : Nat) (k_1 : Int) (i : Int)  (H : AHeap) (h0 : Inv ν k_1 i H)
  (hs : ∀ (μ : Nat) (k_1 : Int) (i : Int)  (H : AHeap), Inv μ k_1 i H → exL Try.prog E_f9z (cl (cl (cr (cl (cr (bodyC Try.f25)))))) 35 16 [(0, 2)] (f9z_P1 a_a a_e a_n k_1 i) H (loopQ (f9z_I1 a_a a_e a_n Inv) μ Q)) : loopK (exL Try.prog E_f9z (cl (cl (cr (cl (cr (bodyC Try.f25)))))) 35 16 [(0, 2)]) (f9z_P1 a_a a_e a_n k_1 i) H Q :=
 ⟨f9z_I1 a_a a_e a_n Inv, ν, ⟨k_1, i, rfl, h0⟩, fun μ tm H h => by obtain ⟨k_1, i, rfl, hI⟩ := h; exact hs μ k_1 i  H hI⟩
theorem f9z_n1 {a_a : OA} {a_e : Nat} {a_n : Nat} {Q : Post} {Inv : Nat → Int → Int → AHeap → Prop} {μ : Nat} (μ' : Nat) {k_1 : Int} {i : Int}  {H : AHeap} (hm : μ' < μ) (hI : Inv μ' k_1 i H) : loopQ (f9z_I1 a_a a_e a_n Inv) μ Q .normal (f9z_P1 a_a a_e a_n k_1 i) H := ⟨μ', hm, k_1, i, rfl, hI⟩
theorem f9z_x1_0 (k_1 : Int) (H : AHeap) (K : Value → AHeap → Prop)  {I : Nat → List Value → AHeap → Prop} {μ : Nat} : loopQ I μ (blockQ 0 (seqQ (exL Try.prog E_f9z (cr (cr (bodyC Try.f25))) 16 16 []) (retK Try.prog Try.f25 K))) (.exit 0) (ud :: .int .i64 k_1 :: ud18 []) H =
 (K (.int .i64 k_1) H) := by kernel_rfl
theorem E_f9z_ok : ∀ g, FnOk Try.prog g (E_f9z g) := FnOk.envOf (by
 intro x hx; cases hx)
theorem f9z_main (a_a : OA) (a_n : Nat) (a_e : Nat) (k : Int) (H : AHeap) (K : Value → AHeap → Prop) (h : T_f9z a_a a_n a_e k H fun (r1 : Int) (H' : AHeap) => K (.int .i64 r1) H') : bodyL Try.prog E_f9z Try.f25 [.slice a_a a_n a_e, .int .i64 k] H K := by
 rw [f9z_vc]
 obtain ⟨lo, l_a, i_a, bd_18, hk⟩ := h
 have hk : (∀ H' : AHeap, KeepA a_a H H' → OwnS fF H' lo a_a a_n a_e ((p_f9z l_a k).2) → (fun (r1 : Int) (H' : AHeap) => K (.int .i64 r1) H') ((p_f9z l_a k).1) H') := by rw [f9z_val l_a k]; exact hk
 obtain rfl := i_a.len
 have up_m := i_a.up
 have lo_m := i_a.lo
 have e : (p_f9z l_a k) = _ := rfl
 have e := e.trans (p_f9z_eq l_a k)
 have g0 := KeepA.refl a_a H
 refine f9z_L1 _ _ _ (fun (μ : Nat) (k_1 : Int) (i : Int) (H_1 : AHeap) => ∃ (y1_1 : LN), OwnS fF H_1 lo a_a l_a.length a_e y1_1 ∧ y1_1.length = (l_a).length ∧ H.length ≤ H_1.length ∧ KeepA a_a H H_1 ∧ (0 : Int) ≤ i ∧ i ≤ (l_a.length : Int) ∧ (l_a.length : Int) - i ≤ (μ : Int) ∧ p_f9z l_a k = p_f9z_l1 l_a k (μ + 1) k_1 i y1_1) (Int.toNat ((l_a.length : Int) - (0 : Int))) _ _ H ?_ ?_
 ·exact ⟨_, i_a, ω20, ω2, g0, ω7, ω7, ω2, e⟩
 ·intro μ k_1 i  H_1 hI
  obtain ⟨y1_1, r_1, y_2, n3, g_4, v5, v6, hμ, e⟩ := hI
  rw [f9z_r1]
  have e := e.trans (p_f9z_l1_s l_a k μ k_1 i y1_1)
  have l7 := g_4.1
  refine Br.intro (fun c8 => ?_) (fun c8 => ?_)
  ·have e := e.trans (cond_t c8)
   have c_8' := of_decide_eq_true c8
   obtain ⟨b_9, f_10, q11⟩ := (r_1.isL).pos ω0
   refine ⟨by omega, by omega, b_9, f_10, q11, ?_⟩
   refine Lt.setS r_1 q11 ω11 (fun H_2 hl_12 o14 k13 => ?_)
   have l15 := k13.1
   have g16 := g_4.transA k13
   have l17 := g16.1
   rw [show IntKind.wrap .i64 (i + 1) = (i + 1) from wrap64 ω2 ω2]
   refine f9z_n1 (μ - 1) ω17 ⟨_, o14, ω13, ω2, g16, ω1, ω1, ω17, ω12⟩
  ·have e := e.trans (cond_f c8)
   have c_8' := of_decide_eq_false c8
   rw [f9z_x1_0]
   rw [e] at hk
   exact hk H_1 g_4 r_1
theorem f9z_ok : FnOk Try.prog 25 S_f9z := by
 refine FnOk.body mix_ok E_f9z_ok Try.func25 rfl ω15 ω15 ?_ ?_ ?_ ?_ ?_
 ·intro args H K K' h hk
  simp only [S_f9z] at *
  unfold F_f9z at *
  split at hk
  ·obtain ⟨lo, l_a, i_a, bd_18, k⟩ := hk
   exact ⟨lo, l_a, i_a, bd_18, (fun H' gg ow => h _ _ (k H' gg ow))⟩
  ·exact hk.elim
 ·intro hq; cases hq
 ·intro args H K hk
  simp only [S_f9z] at *
  unfold F_f9z at *
  split at hk
  ·obtain ⟨lo, l_a, i_a, bd_18, k⟩ := hk
   exact (i_a.put _ (by rw [marks_length])).elim fun H1 h => ⟨_, _, k H1 h.1 h.2⟩
  ·exact hk.elim
 ·intro hq; cases hq
 ·have mm := @f9z_main
  have ml := fun (args : List Value) (H : AHeap) (K : Value → AHeap → Prop) => bodyL_body (P := Try.prog) (env := E_f9z ) (fn := Try.f25) (args := args) (H := H) (K := K) E_f9z_ok 
  revert mm ml
  generalize bodyK Try.prog E_f9z Try.f25 = Q
  generalize bodyL Try.prog E_f9z Try.f25 = QL
  intro mm ml args H K hk
  simp only [S_f9z] at *
  unfold F_f9z at *
  split at hk
  ·exact ml _ H K (mm _ _ _ _ H K hk)
  ·exact hk.elim

def p_f18z (qb : LN) (k : Int) : Int × LN := ((wk k qb.length), (marks (FloatKind.nearest .f32) k qb.length))
def p_f18z_eq := @p_f18z.eq_1
def T_f18z (dc : OA) (lc : Nat) (mc : Nat) (k : Int) (H : AHeap) (K : Int → AHeap → Prop) : Prop := ∃ lo : Nat, ∃ (qb : LN), OwnS fF H lo dc lc mc qb ∧ qb.length < 1073741824 ∧ ((∀ H' : AHeap, KeepA dc H H' → OwnS fF H' lo dc lc mc (marks (FloatKind.nearest .f32) k qb.length) → K (wk k qb.length) H'))
theorem T_f18z_i {dc : OA} {lc : Nat} {mc : Nat} {k : Int} {H : AHeap} {K : Int → AHeap → Prop} (h : ∃ lo : Nat, ∃ (qb : LN), OwnS fF H lo dc lc mc qb ∧ qb.length < 1073741824 ∧ ((∀ H' : AHeap, KeepA dc H H' → OwnS fF H' lo dc lc mc (marks (FloatKind.nearest .f32) k qb.length) → K (wk k qb.length) H'))) : T_f18z dc lc mc k H K := h
theorem f18z_val (qb : LN) (k : Int) : p_f18z qb k = (wk k qb.length, marks (FloatKind.nearest .f32) k qb.length) := rfl
/-! f18z: function 42 -/
def E_f18z : Env := envOf [(25, S_f9z)]
def F_f18z : List Value → AHeap → (Value → AHeap → Prop) → Prop
 | [.agg ⟨[.slice dc lc mc]⟩, .int .i64 k], H, K => T_f18z dc lc mc k H fun (r1 : Int) (H' : AHeap) => K (.int .i64 r1) H'
 | _, _, _ => False
def S_f18z : FSpec := { F := F_f18z, quiet := false, tame := false }
theorem f18z_vc (dc : OA) (lc : Nat) (mc : Nat) (k : Int) (H : AHeap) (K : Value → AHeap → Prop) : bodyL Try.prog E_f18z Try.f42 [.agg #[.slice dc lc mc], .int .i64 k] H K =
 (Al [.slice dc lc mc] H fun b1 H1 => ∃ sc : OA, ∃ bb : Nat, ∃ tc : Nat,  rdC H1 b1 0 = some (.slice sc bb tc) ∧ T_f9z sc bb tc k H1 fun (r1 : Int) (H2 : AHeap) => K (.int .i64 r1) H2) := by kernel_rfl
theorem E_f18z_ok : ∀ g, FnOk Try.prog g (E_f18z g) := FnOk.envOf (by
 intro x hx
 simp only [List.mem_cons, List.not_mem_nil, or_false] at hx
 subst hx; exact f9z_ok)
theorem f18z_main (dc : OA) (lc : Nat) (mc : Nat) (k : Int) (H : AHeap) (K : Value → AHeap → Prop) (h : T_f18z dc lc mc k H fun (r1 : Int) (H' : AHeap) => K (.int .i64 r1) H') : bodyL Try.prog E_f18z Try.f42 [.agg #[.slice dc lc mc], .int .i64 k] H K := by
 rw [f18z_vc]
 obtain ⟨lo, qb, i_a_Low, bd_19, hk⟩ := h
 have hk : (∀ H' : AHeap, KeepA dc H H' → OwnS fF H' lo dc lc mc ((p_f18z qb k).2) → (fun (r1 : Int) (H' : AHeap) => K (.int .i64 r1) H') ((p_f18z qb k).1) H') := by rw [f18z_val qb k]; exact hk
 obtain rfl := i_a_Low.len
 have up_m := i_a_Low.up
 have lo_m := i_a_Low.lo
 have e : (p_f18z qb k) = _ := rfl
 have e := e.trans (p_f18z_eq qb k)
 have g0 := KeepA.refl dc H
 refine Al.intro (fun b_1 H_1 hb_2 hl_3 g_4 o_5 => ?_)
 have l7 := g_4.1
 have g8 := g0.trans g_4
 have l9 := g8.1
 have r_10 := i_a_Low.grow g_4
 have w18 := o_5.lt
 refine ⟨dc, qb.length, mc, (o_5.rdC _).trans rfl, ?_⟩
 refine T_f9z_i ⟨_, _, r_10, ω0, (fun H_2 k11 o12 => ?_)⟩
 have l13 := k11.1
 have g14 := g8.transA k11
 have l15 := g14.1
 have o16 := o_5.keepA (fun x hx => by have := lo_m x hx; have := up_m x hx; omega) k11
 have w17 := o16.lt
 rw [e] at hk
 exact hk H_2 g14 o12
theorem f18z_ok : FnOk Try.prog 42 S_f18z := by
 refine FnOk.body mix_ok E_f18z_ok Try.func42 rfl ω15 ω15 ?_ ?_ ?_ ?_ ?_
 ·intro args H K K' h hk
  simp only [S_f18z] at *
  unfold F_f18z at *
  split at hk
  ·obtain ⟨lo, qb, i_a_Low, bd_19, k⟩ := hk
   exact ⟨lo, qb, i_a_Low, bd_19, (fun H' gg ow => h _ _ (k H' gg ow))⟩
  ·exact hk.elim
 ·intro hq; cases hq
 ·intro args H K hk
  simp only [S_f18z] at *
  unfold F_f18z at *
  split at hk
  ·obtain ⟨lo, qb, i_a_Low, bd_19, k⟩ := hk
   exact (i_a_Low.put _ (by rw [marks_length])).elim fun H1 h => ⟨_, _, k H1 h.1 h.2⟩
  ·exact hk.elim
 ·intro hq; cases hq
 ·have mm := @f18z_main
  have ml := fun (args : List Value) (H : AHeap) (K : Value → AHeap → Prop) => bodyL_body (P := Try.prog) (env := E_f18z ) (fn := Try.f42) (args := args) (H := H) (K := K) E_f18z_ok 
  revert mm ml
  generalize bodyK Try.prog E_f18z Try.f42 = Q
  generalize bodyL Try.prog E_f18z Try.f42 = QL
  intro mm ml args H K hk
  simp only [S_f18z] at *
  unfold F_f18z at *
  split at hk
  ·exact ml _ H K (mm _ _ _ _ H K hk)
  ·exact hk.elim

def p_f8z_l1 (l_a : LN) (k : Int) : Nat → Int → Int → Int → Int
 | 0, _, _, _ => 0
 | μ + 1, k_1, t4, i => (bif decide ((i : Int) < (l_a.length : Int)) then (bif !(feq .f32 (((l_a).getD (i : Int).toNat 0)) (FloatKind.nearest .f32 k_1)) then ((-1) : Int) else (p_f8z_l1 l_a k μ (IntKind.wrap .i64 (k_1 + 1)) t4 (i + 1))) else k_1)
def p_f8z_l1_s := fun l_a k μ k_1 t4 i => @p_f8z_l1.eq_2 l_a k k_1 t4 i μ
def p_f8z (l_a : LN) (k : Int) : Int := (p_f8z_l1 l_a k (Int.toNat ((l_a.length : Int) - (0 : Int)) + 1) k (0 : Int) (0 : Int))
def p_f8z_eq := @p_f8z.eq_1
def T_f8z (a_a : OA) (a_n : Nat) (a_e : Nat) (k : Int) (H : AHeap) (K : Int → AHeap → Prop) : Prop := ∃ (l_a : LN), IsL fF H a_a a_n l_a ∧ l_a.length < 1073741824 ∧ K (p_f8z l_a k) H
theorem T_f8z_i {a_a : OA} {a_n : Nat} {a_e : Nat} {k : Int} {H : AHeap} {K : Int → AHeap → Prop} (h : ∃ (l_a : LN), IsL fF H a_a a_n l_a ∧ l_a.length < 1073741824 ∧ K (p_f8z l_a k) H) : T_f8z a_a a_n a_e k H K := h
theorem f8z_go (k0 : Int) : ∀ (μ : Nat) (i : Nat) (pre : LN) (k t : Int) (n : Nat), pre.length = i → n < μ →
  p_f8z_l1 (pre ++ marks (FloatKind.nearest .f32) k n) k0 μ k t (i : Int) = wk k n := by
 intro μ
 induction μ with
 | zero => intro i pre k t n _ h; omega
 | succ μ ih =>
  intro i pre k t n hp hm
  rw [p_f8z_l1_s]
  have hl : (pre ++ marks (FloatKind.nearest .f32) k n).length = i + n := by rw [List.length_append, hp, marks_length]
  rw [hl]
  cases n with
  | zero => rw [decide_eq_false (show ¬ (i : Int) < ((i + 0 : Nat) : Int) by omega), cond_false]; rfl
  | succ n =>
   rw [decide_eq_true (show (i : Int) < ((i + (n + 1) : Nat) : Int) by omega), cond_true, Int.toNat_natCast]
   have hx : (pre ++ marks (FloatKind.nearest .f32) k (n + 1)).getD i 0 = (FloatKind.nearest .f32) k := by
    rw [List.getD_eq_getElem?_getD, List.getElem?_append_right ω2, hp, Nat.sub_self]; rfl
   rw [hx]
   have hq : (!(feq .f32 (FloatKind.nearest .f32 k) (FloatKind.nearest .f32 k))) = false := by rw [feq_nearest]; rfl
   simp only [hq, cond_false]
   have := ih (i + 1) (pre ++ [(FloatKind.nearest .f32) k]) (IntKind.wrap .i64 (k + 1)) t n (by simp [hp]) ω2
   rw [List.append_assoc] at this
   rw [wk]; exact this
theorem f8z_marks (k : Int) (n : Nat) : p_f8z (marks (FloatKind.nearest .f32) k n) k = wk k n := by
 rw [p_f8z_eq]
 have := f8z_go k (Int.toNat (((marks (FloatKind.nearest .f32) k n).length : Int) - 0) + 1) 0 [] k 0 n rfl (by rw [marks_length]; omega)
 simpa using this
/-! f8z: function 26 -/
def E_f8z : Env := envOf []
def F_f8z : List Value → AHeap → (Value → AHeap → Prop) → Prop
 | [.slice a_a a_n a_e, .int .i64 k], H, K => T_f8z a_a a_n a_e k H fun (r1 : Int) (H' : AHeap) => K (.int .i64 r1) H'
 | _, _, _ => False
def S_f8z : FSpec := { F := F_f8z, quiet := true, tame := false }
theorem f8z_vc (a_a : OA) (a_n : Nat) (a_e : Nat) (k : Int) (H : AHeap) (K : Value → AHeap → Prop) : bodyL Try.prog E_f8z Try.f26 [.slice a_a a_n a_e, .int .i64 k] H K =
 (loopK (exL Try.prog E_f8z (cl (cl (cr (cl (cr (bodyC Try.f26)))))) 35 16 [(0, 2)]) (.slice a_a a_n a_e :: .int .i64 k :: ud3 (.int .i64 0 :: ud16 [])) H (blockQ 0 (seqQ (exL Try.prog E_f8z (cr (cr (bodyC Try.f26))) 16 16 []) (retK Try.prog Try.f26 K)))) := by kernel_rfl
abbrev f8z_P1 (a_a : OA) (a_e : Nat) (a_n : Nat) (k_1 : Int) (i : Int)  : List Value := (.slice a_a a_n a_e :: .int .i64 k_1 :: ud3 (.int .i64 i :: ud16 []))
theorem f8z_r1 (a_a : OA) (a_e : Nat) (a_n : Nat) (k_1 : Int) (i : Int)  (H : AHeap) (R : Post) : exL Try.prog E_f8z (cl (cl (cr (cl (cr (bodyC Try.f26)))))) 35 16 [(0, 2)] (f8z_P1 a_a a_e a_n k_1 i) H R =
 (Br (decide ((i : Int) < (a_n : Int))) ((0 : Int) ≤ i ∧ i < (a_n : Int) ∧ ∃ b1 f1, (a_a : OA) = some ⟨b1, f1, none⟩ ∧ ∃ x1 : Nat,  rdC H b1 (f1 + (i : Int).toNat * 1) = some (.float .f32 x1) ∧ Br (!(feq .f32 x1 (FloatKind.nearest .f32 k_1))) (R .ret (ud4 (.int .i64 (-1) :: ud17 [])) H) (R .normal (.slice a_a a_n a_e :: .int .i64 (IntKind.wrap .i64 (k_1 + 1)) :: ud3 (.int .i64 (IntKind.wrap .i64 (i + 1)) :: ud16 [])) H)) (R (.exit 0) (ud :: .int .i64 k_1 :: ud20 []) H)) := by kernel_rfl
def f8z_I1 (a_a : OA) (a_e : Nat) (a_n : Nat) (Inv : Nat → Int → Int → AHeap → Prop) : Nat → List Value → AHeap → Prop := fun μ tm H => ∃ (k_1 : Int), ∃ (i : Int), tm = (f8z_P1 a_a a_e a_n k_1 i) ∧ Inv μ k_1 i H
theorem f8z_L1 (a_a : OA) (a_e : Nat) (a_n : Nat) {Q : Post} (Inv : Nat → Int → Int → AHeap → Prop) (ν : Nat) (k_1 : Int) (i : Int)  (H : AHeap) (h0 : Inv ν k_1 i H)
  (hs : ∀ (μ : Nat) (k_1 : Int) (i : Int)  (H : AHeap), Inv μ k_1 i H → exL Try.prog E_f8z (cl (cl (cr (cl (cr (bodyC Try.f26)))))) 35 16 [(0, 2)] (f8z_P1 a_a a_e a_n k_1 i) H (loopQ (f8z_I1 a_a a_e a_n Inv) μ Q)) : loopK (exL Try.prog E_f8z (cl (cl (cr (cl (cr (bodyC Try.f26)))))) 35 16 [(0, 2)]) (f8z_P1 a_a a_e a_n k_1 i) H Q :=
 ⟨f8z_I1 a_a a_e a_n Inv, ν, ⟨k_1, i, rfl, h0⟩, fun μ tm H h => by obtain ⟨k_1, i, rfl, hI⟩ := h; exact hs μ k_1 i  H hI⟩
theorem f8z_n1 {a_a : OA} {a_e : Nat} {a_n : Nat} {Q : Post} {Inv : Nat → Int → Int → AHeap → Prop} {μ : Nat} (μ' : Nat) {k_1 : Int} {i : Int}  {H : AHeap} (hm : μ' < μ) (hI : Inv μ' k_1 i H) : loopQ (f8z_I1 a_a a_e a_n Inv) μ Q .normal (f8z_P1 a_a a_e a_n k_1 i) H := ⟨μ', hm, k_1, i, rfl, hI⟩
theorem f8z_x1_0 (k_1 : Int) (H : AHeap) (K : Value → AHeap → Prop)  {I : Nat → List Value → AHeap → Prop} {μ : Nat} : loopQ I μ (blockQ 0 (seqQ (exL Try.prog E_f8z (cr (cr (bodyC Try.f26))) 16 16 []) (retK Try.prog Try.f26 K))) (.exit 0) (ud :: .int .i64 k_1 :: ud20 []) H =
 (K (.int .i64 k_1) H) := by kernel_rfl
theorem f8z_x1_ret (t4 : Int) (H : AHeap) (K : Value → AHeap → Prop)  {I : Nat → List Value → AHeap → Prop} {μ : Nat} : loopQ I μ (blockQ 0 (seqQ (exL Try.prog E_f8z (cr (cr (bodyC Try.f26))) 16 16 []) (retK Try.prog Try.f26 K))) .ret (ud4 (.int .i64 t4 :: ud17 [])) H =
 (K (.int .i64 t4) H) := by kernel_rfl
theorem E_f8z_ok : ∀ g, FnOk Try.prog g (E_f8z g) := FnOk.envOf (by
 intro x hx; cases hx)
theorem f8z_main (a_a : OA) (a_n : Nat) (a_e : Nat) (k : Int) (H : AHeap) (K : Value → AHeap → Prop) (h : T_f8z a_a a_n a_e k H fun (r1 : Int) (H' : AHeap) => K (.int .i64 r1) H') : bodyL Try.prog E_f8z Try.f26 [.slice a_a a_n a_e, .int .i64 k] H K := by
 rw [f8z_vc]
 obtain ⟨l_a, i_a, bd_9, hk⟩ := h
 obtain rfl := i_a.eqn
 have e : (p_f8z l_a k) = _ := rfl
 have e := e.trans (p_f8z_eq l_a k)
 have g0 := Grow.refl H
 refine f8z_L1 _ _ _ (fun (μ : Nat) (k_1 : Int) (i : Int) (H_1 : AHeap) => ∃ (t4 : Int), H = H_1 ∧ (0 : Int) ≤ i ∧ i ≤ (l_a.length : Int) ∧ (l_a.length : Int) - i ≤ (μ : Int) ∧ p_f8z l_a k = p_f8z_l1 l_a k (μ + 1) k_1 t4 i) (Int.toNat ((l_a.length : Int) - (0 : Int))) _ _ H ?_ ?_
 ·exact ⟨_, rfl, ω7, ω7, ω2, e⟩
 ·intro μ k_1 i  H_1 hI
  obtain ⟨t4, rfl, v_1, v_2, hμ, e⟩ := hI
  rw [f8z_r1]
  have e := e.trans (p_f8z_l1_s l_a k μ k_1 t4 i)
  have l3 := g0.1
  refine Br.intro (fun c_4 => ?_) (fun c_4 => ?_)
  ·have e := e.trans (cond_t c_4)
   have c_4' := of_decide_eq_true c_4
   obtain ⟨b_5, f_6, q7⟩ := ((i_a.grow g0)).pos ω0
   refine ⟨by omega, by omega, b_5, f_6, q7, ?_⟩
   refine ⟨((l_a).getD (i : Int).toNat 0), (i_a).rd g0 q7 ω2 _, ?_⟩
   refine Br.intro (fun c8 => ?_) (fun c8 => ?_)
   ·have e := e.trans (cond_t c8)
    have c_8n := nf_of_t c8
    rw [f8z_x1_ret]
    rw [e] at hk
    exact hk
   ·have e := e.trans (cond_f c8)
    have c_8n := nt_of_f c8
    rw [show IntKind.wrap .i64 (i + 1) = (i + 1) from wrap64 ω2 ω2]
    refine f8z_n1 (μ - 1) ω17 ⟨_, rfl, ω1, ω1, ω17, ω12⟩
  ·have e := e.trans (cond_f c_4)
   have c_4' := of_decide_eq_false c_4
   rw [f8z_x1_0]
   rw [e] at hk
   exact hk
theorem f8z_ok : FnOk Try.prog 26 S_f8z := by
 refine FnOk.body mix_ok E_f8z_ok Try.func26 rfl ω15 ω15 ?_ ?_ ?_ ?_ ?_
 ·intro args H K K' h hk
  simp only [S_f8z] at *
  unfold F_f8z at *
  split at hk
  ·obtain ⟨l_a, i_a, bd_9, k⟩ := hk
   exact ⟨l_a, i_a, bd_9, h _ _ k⟩
  ·exact hk.elim
 ·intro _ args H K hk
  simp only [S_f8z] at *
  unfold F_f8z at *
  split at hk
  ·obtain ⟨l_a, i_a, bd_9, k⟩ := hk
   exact ⟨_, k, fun K' k' => ⟨l_a, i_a, bd_9, k'⟩⟩
  ·exact hk.elim
 ·intro args H K hk
  simp only [S_f8z] at *
  unfold F_f8z at *
  split at hk
  ·obtain ⟨l_a, i_a, bd_9, k⟩ := hk
   exact ⟨_, _, k⟩
  ·exact hk.elim
 ·intro hq; cases hq
 ·have mm := @f8z_main
  have ml := fun (args : List Value) (H : AHeap) (K : Value → AHeap → Prop) => bodyL_body (P := Try.prog) (env := E_f8z ) (fn := Try.f26) (args := args) (H := H) (K := K) E_f8z_ok 
  revert mm ml
  generalize bodyK Try.prog E_f8z Try.f26 = Q
  generalize bodyL Try.prog E_f8z Try.f26 = QL
  intro mm ml args H K hk
  simp only [S_f8z] at *
  unfold F_f8z at *
  split at hk
  ·exact ml _ H K (mm _ _ _ _ H K hk)
  ·exact hk.elim

def p_laws_FnExactDenoise (qc : LN) (ac : LN) (aLevels : Int) (aHard : Bool) : Bool := ((bif decide ((1048576 : Int) < (qc.length : Int)) then true else (bif decide (((p_f20z ac (1048576 : Int)) : Int) < 0) then true else (bif !((p_flz ((p_f1dz qc ac aLevels aHard).1) ((p_f1hz qc ac aLevels aHard).1))) then false else (bif !(((p_f1dz qc ac aLevels aHard).2) == ((p_f1hz qc ac aLevels aHard).2)) then false else (bif !(p_flz qc qc) then false else (bif !(p_f1zz ac ac) then false else (bif decide (((wk ((wk (1 : Int) qc.length)) ac.length) : Int) < 0) then false else (bif !((p_flz ((p_f1dz qc ac aLevels aHard).1) ((p_f1hz qc ac aLevels aHard).1))) then false else (bif !(((p_f1dz qc ac aLevels aHard).2) == ((p_f1hz qc ac aLevels aHard).2)) then false else (bif decide (((p_f8z ((marks (FloatKind.nearest .f32) (1 : Int) ((p_f1dz qc ac aLevels aHard).1).length)) (1 : Int)) : Int) < 0) then false else (bif ((p_f8z ((marks (FloatKind.nearest .f32) (1 : Int) ((p_f1dz qc ac aLevels aHard).1).length)) (1 : Int)) : Int) != (wk (1 : Int) ((p_f1dz qc ac aLevels aHard).1).length) then false else (bif !((p_flz ((p_f1dz qc ac aLevels aHard).1) ((p_f1hz qc ac aLevels aHard).1))) then false else (bif !(((p_f1dz qc ac aLevels aHard).2) == ((p_f1hz qc ac aLevels aHard).2)) then false else (bif decide (((p_f8z ((marks (FloatKind.nearest .f32) (1 : Int) ((p_f1dz qc ac aLevels aHard).1).length)) (1 : Int)) : Int) < 0) then false else (bif ((p_f8z ((marks (FloatKind.nearest .f32) (1 : Int) ((p_f1dz qc ac aLevels aHard).1).length)) (1 : Int)) : Int) != (wk (1 : Int) ((p_f1dz qc ac aLevels aHard).1).length) then false else true))))))))))))))))
def p_laws_FnExactDenoise_eq := @p_laws_FnExactDenoise.eq_1
def T_laws_FnExactDenoise (kf : OA) (ef : Nat) (qf : Nat) (pe : OA) (rf : Nat) (qe : Nat) (aLevels : Int) (aHard : Bool) (H : AHeap) (K : Bool → AHeap → Prop) : Prop := ∃ qc : LN, ∃ ac : LN, IsL fF H kf ef qc ∧ (∀ y ∈ qc, W32 y) ∧ qc.length ≤ 9223372036854775807 ∧ IsL fF H pe rf ac ∧ (∀ y ∈ ac, W32 y) ∧ ac.length ≤ 9223372036854775807 ∧ I64 aLevels ∧ ∀ H' : AHeap, K true H'
theorem wk_one {n : Nat} (h : n < 1073741824) : decide (wk 1 n < (0 : Int)) = false := by
 rw [wk_eq n 1 ω2 ω2]; exact decide_eq_false ω2
theorem spec_fin (x : Nat) : p_fyz x = fin .f32 x := fin_asked x
theorem impl_fin (x : Nat) : p_f16z x = fin .f32 x := fin_asked x
theorem w32_wd {x : Nat} (h : W32 x) : Wd .f32 x := ⟨h.1, h.2⟩
theorem wd_w32 {x : Nat} (h : Wd .f32 x) : W32 x := ⟨h.1, h.2⟩
theorem l02Finite_go (l : LN) : ∀ (μ : Nat) (t : Bool) (i : Nat), l.length - i < μ → p_f10z_l1 l μ t (i : Int) = (l.drop i).all (fin .f32) := by
 intro μ
 induction μ with
 | zero => intro t i h; omega
 | succ μ ih =>
  intro t i hm
  rw [p_f10z_l1_s]
  by_cases h : i < l.length
  ·rw [decide_eq_true (show (i : Int) < (l.length : Int) by omega), cond_true, Int.toNat_natCast, spec_fin]
   rw [List.drop_eq_getElem_cons h, List.all_cons, List.getD_eq_getElem?_getD, List.getElem?_eq_getElem h, Option.getD_some]
   have := ih t (i + 1) ω2
   cases fin .f32 l[i]
   ·rfl
   ·simp only [Bool.not_true, cond_false, Bool.true_and]; exact this
  ·rw [decide_eq_false (show ¬ (i : Int) < (l.length : Int) by omega), cond_false, List.drop_eq_nil_of_le ω2]; rfl
theorem l02Finite_all (l : LN) : p_f10z l = l.all (fin .f32) := by
 rw [p_f10z_eq]
 have := l02Finite_go l (Int.toNat ((l.length : Int) - (0 : Int)) + 1) false 0 ω2
 simpa using this
theorem areFinite_in (ls : List LN) (t2 : Bool) (t9 : Int) (k : Bool → Int → Bool) : ∀ (μ : Nat) (t : Bool) (i : Nat), i ≤ (ls.getD t9.toNat []).length → (ls.getD t9.toNat []).length - i < μ →
  p_fvz_l2 ls t2 t9 k μ t (i : Int) = bif ((ls.getD t9.toNat []).drop i).all (fin .f32) then k t ((ls.getD t9.toNat []).length : Int) else false := by
 intro μ
 generalize hl : ls.getD t9.toNat [] = l
 induction μ with
 | zero => intro t i _ h; omega
 | succ μ ih =>
  intro t i hi hm
  rw [p_fvz_l2_s, hl]
  by_cases h : i < l.length
  ·rw [decide_eq_true (show (i : Int) < (l.length : Int) by omega), cond_true, Int.toNat_natCast, impl_fin]
   rw [List.drop_eq_getElem_cons h, List.all_cons, List.getD_eq_getElem?_getD, List.getElem?_eq_getElem h, Option.getD_some]
   have := ih t (i + 1) ω2 ω2
   cases fin .f32 l[i]
   ·rfl
   ·simp only [Bool.not_true, cond_false, Bool.true_and]; exact this
  ·rw [decide_eq_false (show ¬ (i : Int) < (l.length : Int) by omega), cond_false, List.drop_eq_nil_of_le ω2, show i = l.length by omega]; rfl
theorem areFinite_go (ls : List LN) : ∀ (μ : Nat) (t : Bool) (i : Nat), ls.length - i < μ → p_fvz_l1 ls μ t (i : Int) = (ls.drop i).all (fun l => l.all (fin .f32)) := by
 intro μ
 induction μ with
 | zero => intro t i h; omega
 | succ μ ih =>
  intro t i hm
  rw [p_fvz_l1_s]
  by_cases h : i < ls.length
  ·rw [decide_eq_true (show (i : Int) < (ls.length : Int) by omega), cond_true]
   have := areFinite_in ls t (i : Int) (fun t2 t15 => p_fvz_l1 ls μ t2 ((i : Int) + 1)) (Int.toNat ((((ls).getD ((i : Int) : Int).toNat []).length : Int) - (0 : Int)) + 1) t 0 (Nat.zero_le _) ω2
   refine Eq.trans this ?_
   rw [Int.toNat_natCast, List.drop_zero, List.drop_eq_getElem_cons h, List.all_cons, List.getD_eq_getElem?_getD, List.getElem?_eq_getElem h, Option.getD_some]
   have := ih t (i + 1) ω2
   cases ls[i].all (fin .f32)
   ·rfl
   ·simp only [cond_true, Bool.true_and]; exact this
  ·rw [decide_eq_false (show ¬ (i : Int) < (ls.length : Int) by omega), cond_false, List.drop_eq_nil_of_le ω2]; rfl
theorem areFinite_all (ls : List LN) : p_fvz ls = ls.all (fun l => l.all (fin .f32)) := by
 rw [p_fvz_eq]
 have := areFinite_go ls (Int.toNat ((ls.length : Int) - (0 : Int)) + 1) false 0 ω2
 simpa using this
theorem finite_same (l : LN) : p_fvz [l] = p_f10z l := by rw [areFinite_all, l02Finite_all]; simp
theorem size_le {x : Nat} (hw : Wd .f32 x) : fle .f32 (p_f26z x) 981668463 = (bif fle .f32 x 981668463 then fle .f32 3129152111 x else false) := by
 unfold p_f26z
 rcases hw.cases with hf | rfl | rfl | rfl
 ·have hc : fin .f32 981668463 = true := by decide +kernel
  have hn : sv .f32 3129152111 = - sv .f32 981668463 := by
   have := sv_neg hc
   rwa [show fneg .f32 981668463 = 3129152111 by decide +kernel] at this
  have hnf : fin .f32 3129152111 = true := by decide +kernel
  have hp : 0 < sv .f32 981668463 := by decide +kernel
  generalize hA : sv .f32 981668463 = A at *
  rw [flt_fin hf (fin_zero _), feq_fin hf (fin_zero _), sv_zero, fle_fin hf hc, fle_fin hnf hf, hn, hA]
  by_cases c1 : sv .f32 x < 0
  ·rw [decide_eq_true c1, cond_true, fle_fin (fin_neg hf) hc, sv_neg hf, hA]
   rw [decide_eq_true (show sv .f32 x ≤ A by omega), cond_true]
   exact decide_eq_decide.2 ω2
  ·rw [decide_eq_false c1, cond_false]
   by_cases c2 : sv .f32 x = 0
   ·rw [decide_eq_true c2, cond_true, fle_fin (fin_zero _) hc, sv_zero, c2, hA]
    rw [decide_eq_true (show (0 : Int) ≤ A by omega), cond_true, decide_eq_true (show - A ≤ 0 by omega)]
   ·rw [decide_eq_false c2, cond_false, fle_fin hf hc, hA, decide_eq_true (show - A ≤ sv .f32 x by omega)]
    cases decide (sv .f32 x ≤ A) <;> rfl
 ·decide +kernel
 ·decide +kernel
 ·decide +kernel
theorem pair_sq (l : LN) (t : Bool) (K : Nat → Int → Bool) (hK : ∀ s k, K s k = K s 0) : ∀ (μ s : Nat) (i : Int), ((l.length : Int) - i).toNat < μ → p_f1nz_l2 l t 0 K μ s i = K (p_f1gz_l1 l μ s i) 0 := by
 intro μ
 induction μ with
 | zero => intro s i h; omega
 | succ μ ih =>
  intro s i h
  rw [p_f1nz_l2_s, p_f1gz_l1_s, Int.add_zero]
  by_cases hi : i < (l.length : Int)
  ·rw [decide_eq_true hi, cond_true, cond_true]; exact ih _ _ ω2
  ·rw [decide_eq_false hi, cond_false, cond_false]; exact hK _ _
theorem pair_l2 (l : LN) (t t' : Bool) (sh : Int) (K K' : Nat → Int → Bool) (hK : ∀ s k, Wd .f32 s → K s k = K' s k) : ∀ (μ s : Nat) (k : Int), Wd .f32 s → p_fuz_l2 l t sh K μ s k = p_f1nz_l2 l t' sh K' μ s k := by
 intro μ
 induction μ with
 | zero => intro s k h; rfl
 | succ μ ih =>
  intro s k h
  rw [p_fuz_l2_s, p_f1nz_l2_s, ih _ _ (Wd.add _ _ _), hK _ _ h]
theorem pair_l1 (l : LN) : ∀ (μ μ' : Nat) (t t' : Bool) (sh : Int), 2 ≤ sh → ((l.length : Int) - sh).toNat < μ → ((l.length : Int) - sh).toNat < μ' → p_fuz_l1 l μ t sh = p_f1nz_l1 l μ' t' sh := by
 intro μ
 induction μ with
 | zero => intro μ' t t' sh h0 h1 h2; omega
 | succ μ ih =>
  intro μ' t t' sh h0 h1 h2
  cases μ' with
  | zero => omega
  | succ μ' =>
   rw [p_fuz_l1_s, p_f1nz_l1_s]
   by_cases h : sh < (l.length : Int)
   ·rw [decide_eq_true h, cond_true, cond_true]
    refine pair_l2 l t t' sh _ _ (fun s k hs => ?_) _ _ _ (w32_wd ⟨by decide, by decide +kernel⟩)
    rw [show ((sh : Int) == 0) = false from beq_eq_false_iff_ne.2 ω2, cond_false, size_le hs, ih μ' t t' (sh + 2) ω2 ω2 ω2]
    cases fle .f32 s 981668463
    ·rfl
    ·cases fle .f32 3129152111 s <;> rfl
   ·rw [decide_eq_false h, cond_false, cond_false]
theorem pair_same (l : LN) : p_fuz l = p_f1nz l := by
 rw [p_fuz_eq, p_f1nz_eq, finite_same]
 unfold p_f1yz
 by_cases h1 : (l.length : Int) < 2
 ·rw [decide_eq_true h1, decide_eq_false (show ¬ (2 : Int) ≤ (l.length : Int) by omega)]; rfl
 ·rw [decide_eq_false h1, decide_eq_true (show (2 : Int) ≤ (l.length : Int) by omega), cond_true, cond_false]
  by_cases h2 : (8 : Int) < (l.length : Int)
  ·rw [decide_eq_true h2, decide_eq_false (show ¬ (l.length : Int) ≤ 8 by omega)]; rfl
  ·rw [decide_eq_false h2, decide_eq_true (show (l.length : Int) ≤ 8 by omega), Bool.not_true, cond_false, cond_false]
   have ht : Int.tmod (l.length : Int) 2 = (l.length : Int) % 2 := Int.tmod_eq_emod_of_nonneg ω2
   rw [ht]
   rcases Int.emod_two_eq (l.length : Int) with h3 | h3
   ·rw [h3]
    rw [show ((0 : Int) == 1) = false from rfl, show ((0 : Int) != 0) = false from rfl, cond_false, cond_false]
    cases hf : p_f10z l
    ·rfl
    ·rw [Bool.not_true, cond_false, cond_false, p_f1nz_l1_s, decide_eq_true (show (0 : Int) < (l.length : Int) by omega), cond_true]
     rw [pair_sq l false _ (fun s k => rfl) _ _ _ ω2]
     rw [show ((0 : Int) == 0) = true from rfl, cond_true, p_f1gz_eq, size_le (Wd.sub _ _ _), show (0 : Int) + 2 = 2 from rfl, pair_l1 l _ (Int.toNat ((l.length : Int) - (0 : Int))) false false 2 ω2 ω2 ω2]
     cases fle .f32 (fsub .f32 (p_f1gz_l1 l (Int.toNat ((l.length : Int) - (0 : Int)) + 1) 0 0) 1065353216) 981668463
     ·rfl
     ·cases fle .f32 3129152111 (fsub .f32 (p_f1gz_l1 l (Int.toNat ((l.length : Int) - (0 : Int)) + 1) 0 0) 1065353216) <;> rfl
   ·rw [h3]; rfl
theorem long_same (l : LN) : p_f1uz l = p_f1mz l := by
 rw [p_f1uz_eq, p_f1mz_eq, finite_same]
 unfold p_f1yz
 cases decide ((1 : Int) ≤ (l.length : Int)) <;> cases decide (((l.length : Int) : Int) ≤ 128) <;> rfl
theorem w32_zero : W32 0 := ⟨by decide, by decide +kernel⟩
theorem w32_getD {l : LN} (h : ∀ y ∈ l, W32 y) (i : Nat) : W32 (l.getD i 0) := by
 rw [List.getD_eq_getElem?_getD]
 cases hx : l[i]? with
 | none => exact w32_zero
 | some y => exact h y (List.mem_of_getElem? hx)
theorem high_go (l : LN) : ∀ (μ : Nat) (o : LN) (i : Int), p_f1tz_l1 l μ o i = p_f1kz_l1 l μ o i := by
 intro μ
 induction μ with
 | zero => intro o i; rfl
 | succ μ ih => intro o i; rw [p_f1tz_l1_s, p_f1kz_l1_s, ih, ih]
theorem high_same (l : LN) : p_f1tz l = p_f1kz l := by rw [p_f1tz_eq, p_f1kz_eq, high_go]
def tapS (l t : LN) (j : Int) : Nat → Nat → Int → Nat
 | 0, s, _ => s
 | μ + 1, s, i => bif decide (i < (t.length : Int)) then tapS l t j μ (fadd .f32 s (fmul .f32 (t.getD i.toNat 0) (l.getD (Int.tmod (2 * j + i) (l.length : Int)).toNat 0))) (i + 1) else s
theorem tapS_wd (l t : LN) (j : Int) : ∀ (μ s : Nat) (i : Int), Wd .f32 s → Wd .f32 (tapS l t j μ s i) := by
 intro μ
 induction μ with
 | zero => intro s i h; exact h
 | succ μ ih =>
  intro s i h
  exact cnb (P := fun r => Wd .f32 r) (fun _ => ih _ _ (Wd.add _ _ _)) (fun _ => h)
theorem taps_l2 (l t o : LN) (j : Int) (K : Nat → Int → LN → LN) (hK : ∀ s i y, K s i y = K s 0 y) : ∀ (μ s : Nat) (i : Int) (y : LN), ((t.length : Int) - i).toNat < μ → p_f1pz_l2 l t o j K μ s i y = K (tapS l t j μ s i) 0 y := by
 intro μ
 induction μ with
 | zero => intro s i y h; omega
 | succ μ ih =>
  intro s i y h
  rw [p_f1pz_l2_s]; unfold tapS
  by_cases hi : i < (t.length : Int)
  ·rw [decide_eq_true hi, cond_true, cond_true]; exact ih _ _ _ ω2
  ·rw [decide_eq_false hi, cond_false, cond_false]; exact hK _ _ _
theorem ring_l2 (l t o o2 : LN) (j : Int) (K : Nat → Nat → Int → LN → LN → LN × LN × Bool) (hK : ∀ a b i y z, K a b i y z = K a b 0 y z) : ∀ (μ a b : Nat) (i : Int) (y z : LN), ((t.length : Int) - i).toNat < μ →
  p_ftz_l2 l t o o2 j K μ a b i y z = K (tapS l t j μ a i) (tapS l (p_f1kz t) j μ b i) 0 y z := by
 intro μ
 induction μ with
 | zero => intro a b i y z h; omega
 | succ μ ih =>
  intro a b i y z h
  rw [p_ftz_l2_s]; unfold tapS
  rw [f1kz_len, high_same]
  by_cases hi : i < (t.length : Int)
  ·rw [decide_eq_true hi, cond_true, cond_true, cond_true]; exact ih _ _ _ _ _ ω2
  ·rw [decide_eq_false hi, cond_false, cond_false, cond_false]; exact hK _ _ _ _ _
theorem taps_next (l t : LN) (μ : Nat) (o : LN) (j : Int) : p_f1pz_l1 l t (μ + 1) o j = (bif decide (2 * j < (l.length : Int)) then p_f1pz_l1 l t μ (o ++ [tapS l t j (Int.toNat ((t.length : Int) - (0 : Int)) + 1) 0 0]) (j + 1) else o) := by
 rw [p_f1pz_l1_s, taps_l2 l t o j _ (fun s i y => rfl) _ _ _ _ ω2]
theorem ring_go (l t : LN) (n : Int) (hl : (l.length : Int) = 2 * n) : ∀ (μ μ' : Nat) (o o2 : LN) (j : Int), (n - j).toNat < μ → (n - j).toNat < μ' → p_ftz_l1 l t μ o o2 j =
  (bif !(p_fvz [p_f1pz_l1 l t μ' o j, p_f1pz_l1 l (p_f1kz t) μ' o2 j]) then ([], [], false) else (p_f1pz_l1 l t μ' o j, p_f1pz_l1 l (p_f1kz t) μ' o2 j, true)) := by
 intro μ
 induction μ with
 | zero => intro μ' o o2 j h1 h2; omega
 | succ μ ih =>
  intro μ' o o2 j h1 h2
  cases μ' with
  | zero => omega
  | succ μ' =>
   have ht : Int.tdiv (l.length : Int) 2 = n := by rw [Int.tdiv_eq_ediv_of_nonneg ω2]; omega
   rw [p_ftz_l1_s, taps_next, taps_next, f1kz_len, ht, ring_l2 l t o o2 j _ (fun a b i y z => rfl) _ _ _ _ _ _ ω2]
   by_cases h : j < n
   ·rw [decide_eq_true h, decide_eq_true (show 2 * j < (l.length : Int) by omega), cond_true, cond_true, cond_true]
    exact ih μ' _ _ _ ω2 ω2
   ·rw [decide_eq_false h, decide_eq_false (show ¬ 2 * j < (l.length : Int) by omega), cond_false, cond_false, cond_false]
theorem ring_same (l t : LN) : p_ftz l t = p_fxz l t := by
 rw [p_ftz_eq, p_fxz_eq, long_same, pair_same]
 have ht : Int.tmod (l.length : Int) 2 = (l.length : Int) % 2 := Int.tmod_eq_emod_of_nonneg ω2
 rw [ht]
 cases p_f1mz l
 ·rfl
 ·rcases Int.emod_two_eq (l.length : Int) with h3 | h3
  ·rw [h3, show ((0 : Int) == 1) = false from rfl, show ((0 : Int) != 0) = false from rfl]
   cases p_f1nz t
   ·rfl
   ·simp only [Bool.not_true, cond_false]
    have hd : Int.tdiv (l.length : Int) 2 = (l.length : Int) / 2 := Int.tdiv_eq_ediv_of_nonneg ω2
    rw [ring_go l t ((l.length : Int) / 2) ω2 _ (Int.toNat ((l.length : Int) - (0 : Int)) + 1) _ _ _ ω2 ω2, ← p_f1pz_eq, ← p_f1pz_eq, areFinite_all, l02Finite_all, l02Finite_all]
    simp only [List.all_cons, List.all_nil, Bool.and_true]
    cases (p_f1pz l t).all (fin .f32) <;> cases (p_f1pz l (p_f1kz t)).all (fin .f32) <;> rfl
  ·rw [h3]; rfl
theorem taps_w (l t : LN) : ∀ y ∈ p_f1pz l t, W32 y := by
 have go : ∀ (μ : Nat) (o : LN) (j : Int), (∀ y ∈ o, W32 y) → ∀ y ∈ p_f1pz_l1 l t μ o j, W32 y := by
  intro μ
  induction μ with
  | zero => intro o j h y hy; cases hy
  | succ μ ih =>
   intro o j h
   rw [taps_next]
   refine cnb (P := fun r : LN => ∀ y ∈ r, W32 y) (fun _ => ih _ _ (fun y hy => ?_)) (fun _ => h)
   rcases List.mem_append.1 hy with hy | hy
   ·exact h y hy
   ·rw [List.mem_singleton.1 hy]; exact wd_w32 (tapS_wd _ _ _ _ _ _ (w32_wd w32_zero))
 rw [p_f1pz_eq]
 exact go _ _ _ (fun y hy => by cases hy)
theorem ring_w (l t : LN) : (∀ y ∈ (p_fxz l t).1, W32 y) ∧ ∀ y ∈ (p_fxz l t).2.1, W32 y := by
 have z : ∀ y ∈ ([] : LN), W32 y := fun y hy => by cases hy
 rw [p_fxz_eq]
 refine cnb (P := fun r : LN × LN × Bool => (∀ y ∈ r.1, W32 y) ∧ ∀ y ∈ r.2.1, W32 y) (fun _ => ⟨z, z⟩) (fun _ => ?_)
 refine cnb (P := fun r : LN × LN × Bool => (∀ y ∈ r.1, W32 y) ∧ ∀ y ∈ r.2.1, W32 y) (fun _ => ⟨z, z⟩) (fun _ => ?_)
 refine cnb (P := fun r : LN × LN × Bool => (∀ y ∈ r.1, W32 y) ∧ ∀ y ∈ r.2.1, W32 y) (fun _ => ⟨z, z⟩) (fun _ => ?_)
 refine cnb (P := fun r : LN × LN × Bool => (∀ y ∈ r.1, W32 y) ∧ ∀ y ∈ r.2.1, W32 y) (fun _ => ⟨z, z⟩) (fun _ => ?_)
 exact cnb (P := fun r : LN × LN × Bool => (∀ y ∈ r.1, W32 y) ∧ ∀ y ∈ r.2.1, W32 y) (fun _ => ⟨z, z⟩) (fun _ => ⟨taps_w _ _, taps_w _ _⟩)
theorem split_go (l t : LN) (v : Int) : ∀ (μ μ' : Nat) (b b' : Bool) (i k : Int) (q : LN) (ds : List LN), k = v - i → k.toNat < μ → k.toNat < μ' → p_fbz_l1 l t v μ b i q ds = p_fdz_l1 l t v μ' k b' q ds := by
 intro μ
 induction μ with
 | zero => intro μ' b b' i k q ds h0 h1 h2; omega
 | succ μ ih =>
  intro μ' b b' i k q ds h0 h1 h2
  cases μ' with
  | zero => omega
  | succ μ' =>
   rw [p_fbz_l1_s, p_fdz_l1_s, ring_same]
   by_cases h : i < v
   ·rw [decide_eq_true h, decide_eq_true (show (0 : Int) < k by omega), cond_true, cond_true, ih μ' b b' (i + 1) (k - 1) _ _ ω2 ω2 ω2]
   ·rw [decide_eq_false h, decide_eq_false (show ¬ (0 : Int) < k by omega), cond_false, cond_false]
theorem split_same (l t : LN) (v : Int) : p_fbz l t v = p_fdz l t v := by
 rw [p_fbz_eq, p_fdz_eq, long_same, pair_same, f1rz_is]
 rw [split_go l t v _ (Int.toNat (v - 0) + 1) false false 0 v _ _ ω2 ω2 ω2]
 rfl
theorem split_w (l t : LN) (v : Int) : ∀ d ∈ (p_fdz l t v).2.1, ∀ y ∈ d, W32 y := by
 have z : ∀ d ∈ ([] : List LN), ∀ y ∈ d, W32 y := fun y hy => by cases hy
 have go : ∀ (μ : Nat) (i : Int) (b : Bool) (q : LN) (ds : List LN), (∀ d ∈ ds, ∀ y ∈ d, W32 y) → ∀ d ∈ (p_fdz_l1 l t v μ i b q ds).2.1, ∀ y ∈ d, W32 y := by
  intro μ
  induction μ with
  | zero => intro i b q ds h; exact z
  | succ μ ih =>
   intro i b q ds h
   rw [p_fdz_l1_s]
   refine cnb (P := fun r : LN × List LN × Bool => ∀ d ∈ r.2.1, ∀ y ∈ d, W32 y) (fun _ => ?_) (fun _ => h)
   refine cnb (P := fun r : LN × List LN × Bool => ∀ d ∈ r.2.1, ∀ y ∈ d, W32 y) (fun _ => z) (fun _ => ih _ _ _ _ (fun d hd => ?_))
   rcases List.mem_append.1 hd with hd | hd
   ·exact h d hd
   ·rw [List.mem_singleton.1 hd]; exact (ring_w q t).2
 rw [p_fdz_eq]
 refine cnb (P := fun r : LN × List LN × Bool => ∀ d ∈ r.2.1, ∀ y ∈ d, W32 y) (fun _ => z) (fun _ => ?_)
 refine cnb (P := fun r : LN × List LN × Bool => ∀ d ∈ r.2.1, ∀ y ∈ d, W32 y) (fun _ => z) (fun _ => ?_)
 refine cnb (P := fun r : LN × List LN × Bool => ∀ d ∈ r.2.1, ∀ y ∈ d, W32 y) (fun _ => z) (fun _ => ?_)
 refine cnb (P := fun r : LN × List LN × Bool => ∀ d ∈ r.2.1, ∀ y ∈ d, W32 y) (fun _ => z) (fun _ => ?_)
 exact go _ _ _ _ _ z
theorem bands_go (a : LN) (ds : List LN) : ∀ (μ : Nat) (t t' : Bool) (i : Nat), ds.length - i < μ → p_f1az_l1 a ds μ t (i : Int) = ((ds.drop i).all (fun l => l.all (fin .f32)) && p_fhz_l1 a ds μ t' (i : Int)) := by
 intro μ
 induction μ with
 | zero => intro t t' i h; omega
 | succ μ ih =>
  intro t t' i hm
  rw [p_f1az_l1_s, p_fhz_l1_s]
  by_cases h : i < ds.length
  ·rw [decide_eq_true (show (i : Int) < (ds.length : Int) by omega), cond_true, cond_true, Int.toNat_natCast, l02Finite_all]
   have hx : ds.getD i [] = ds[i] := by rw [List.getD_eq_getElem?_getD, List.getElem?_eq_getElem h]; rfl
   have e1 := ih t t' (i + 1) ω2
   rw [show ((i + 1 : Nat) : Int) = (i : Int) + 1 by omega] at e1
   rw [hx, e1, List.drop_eq_getElem_cons h, List.all_cons]
   generalize p_fhz_l1 a ds μ t' ((i : Int) + 1) = R
   generalize (ds.drop (i + 1)).all (fun l => l.all (fin .f32)) = S
   generalize ds.getD ((i : Int) - 1).toNat [] = prev
   generalize hd : ds[i] = d
   by_cases h0 : d.length = 0
   ·rw [decide_eq_true (show ((d.length : Int)) < 1 by omega), show ((d.length : Int) == 0) = true by rw [h0]; rfl]
    cases d.all (fin .f32) <;> cases S <;> rfl
   ·rw [decide_eq_false (show ¬ ((d.length : Int)) < 1 by omega), show ((d.length : Int) == 0) = false by simpa using h0]
    rw [show ((prev.length : Int) != IntKind.wrap .i64 (2 * (d.length : Int))) = (IntKind.wrap .i64 (2 * (d.length : Int)) != (prev.length : Int)) by unfold bne; rw [Bool.beq_comm]]
    cases d.all (fin .f32) <;> cases S <;> cases decide ((0 : Int) < (i : Int)) <;> cases (IntKind.wrap .i64 (2 * (d.length : Int)) != (prev.length : Int)) <;> cases R <;> rfl
  ·rw [decide_eq_false (show ¬ (i : Int) < (ds.length : Int) by omega), cond_false, cond_false, List.drop_eq_nil_of_le ω2]; rfl
theorem bands_same (a : LN) (ds : List LN) : p_fhz a ds = p_f1az a ds := by
 rw [p_fhz_eq, p_f1az_eq, areFinite_all, areFinite_all, l02Finite_all]
 have e := bands_go a ds (Int.toNat ((ds.length : Int) - (0 : Int)) + 1) false false 0 ω2
 rw [show ((0 : Nat) : Int) = 0 from rfl] at e
 rw [e, List.drop_zero]
 have hs : ([a].all fun l => l.all (fin .f32)) = a.all (fin .f32) := by simp
 rw [hs]
 unfold p_f1yz
 by_cases h1 : (ds.length : Int) < 1
 ·rw [decide_eq_true h1, decide_eq_false (show ¬ (1 : Int) ≤ (ds.length : Int) by omega)]; rfl
 ·rw [decide_eq_false h1, decide_eq_true (show (1 : Int) ≤ (ds.length : Int) by omega), cond_true]
  by_cases h2 : (6 : Int) < (ds.length : Int)
  ·rw [decide_eq_true h2, decide_eq_false (show ¬ (ds.length : Int) ≤ 6 by omega)]; rfl
  ·rw [decide_eq_false h2, decide_eq_true (show (ds.length : Int) ≤ 6 by omega)]
   generalize p_fhz_l1 a ds _ false 0 = R
   cases decide ((64 : Int) < ((ds.getD (0 : Int).toNat []).length : Int)) <;> cases ds.all (fun l => l.all (fin .f32)) <;> cases a.all (fin .f32) <;> cases R <;> rfl
theorem bands_t {a : LN} {ds : List LN} (h : p_fhz a ds = true) : 1 ≤ ds.length ∧ ds.length ≤ 6 ∧ ds.all (fun l => l.all (fin .f32)) = true ∧ a.all (fin .f32) = true ∧ (ds.getD 0 []).length ≤ 64 := by
 rw [p_fhz_eq, areFinite_all, areFinite_all] at h
 have hs : ([a].all fun l => l.all (fin .f32)) = a.all (fin .f32) := by simp
 rw [hs] at h
 unfold p_f1yz at h
 by_cases h1 : (1 : Int) ≤ (ds.length : Int)
 ·by_cases h2 : (ds.length : Int) ≤ 6
  ·rw [decide_eq_true h1, decide_eq_true h2] at h
   by_cases h3 : (64 : Int) < ((ds.getD (0 : Int).toNat []).length : Int)
   ·rw [decide_eq_true h3] at h; cases h
   ·rw [decide_eq_false h3] at h
    have h3 : ¬ (64 : Int) < ((ds.getD 0 []).length : Int) := h3
    cases hd : ds.all (fun l => l.all (fin .f32))
    ·rw [hd] at h; cases h
    ·cases ha : a.all (fin .f32)
     ·rw [hd, ha] at h; cases h
     ·exact ⟨by omega, by omega, rfl, rfl, by omega⟩
  ·rw [decide_eq_true h1, decide_eq_false h2] at h; cases h
 ·rw [decide_eq_false h1] at h; cases h
theorem sorted_same (l : LN) (h : ∀ y ∈ l, (FloatKind.f32.format.read y).isNaN = false) : p_f0z l = p_f15z l :=
 So.SS.unique (slices_SortStable_ss l) (l05Sorted_ss l h)
theorem median_same (l : LN) (h : ∀ y ∈ l, (FloatKind.f32.format.read y).isNaN = false) : p_f1vz l = p_f13z l := by
 rw [p_f1vz_eq, p_f13z_eq, f1rz_is, sorted_same l h]
theorem number_same (x : Nat) : p_f1sz x = p_f11z x := by
 unfold p_f1sz p_f11z
 rw [impl_fin, spec_fin]
theorem size_nn {x : Nat} (h : (FloatKind.f32.format.read x).isNaN = false) : (FloatKind.f32.format.read (p_f26z x)).isNaN = false := by
 unfold p_f26z
 cases flt .f32 x 0
 ·rw [cond_false]
  cases feq .f32 x 0
  ·exact h
  ·exact fin_nn (fin_zero .f32)
 ·rw [cond_true, read_fneg h]
  cases hr : FloatKind.f32.format.read x <;> first | rfl | (rw [hr] at h; exact h)
theorem rnd_self {x : Nat} (hw : Wd .f32 x) (hf : fin .f32 x = true) (h0 : sv .f32 x ≠ 0) : rnd .f32 (sv .f32 x) = x := by
 obtain ⟨s, m, e, hr⟩ := fin_num hf
 have hp := read_place hr
 have hx := write_read .f32 hw.1 (fin_nn hf)
 rw [hr] at hx
 have hx : FloatKind.f32.format.nearest s m e = x := hx
 have hm : m ≠ 0 := fun h => h0 ((sv_mag hr).2 h)
 have hs : sv .f32 x = Ieee.signed s m (e - FloatKind.f32.format.leastPlace).toNat := by unfold sv; rw [hr]
 have h1 : rnd .f32 (sv .f32 x) = FloatKind.f32.format.nearest (decide (sv .f32 x < 0)) (sv .f32 x).natAbs FloatKind.f32.format.leastPlace := rfl
 rw [h1, hs, signed_neg hm, signed_natAbs, ← nearest_up .f32 s m hp, hx]
theorem sub_zero {x : Nat} (hw : Wd .f32 x) (hf : fin .f32 x = true) (h0 : sv .f32 x ≠ 0) : fsub .f32 x 0 = x := by
 have hz := sv_zero .f32
 rw [fsub_val hf (fin_zero .f32) (by rw [hz]; omega), hz, Int.sub_zero, rnd_self hw hf h0]
theorem size_sub {x : Nat} (hw : Wd .f32 x) (hf : fin .f32 x = true) : p_f1oz (fsub .f32 x 0) = p_f26z x := by
 by_cases h0 : sv .f32 x = 0
 ·rcases zero_of_sv hw.1 hf h0 with rfl | rfl
  ·decide +kernel
  ·decide +kernel
 ·rw [sub_zero hw hf h0]; exact (size_two hw).symm
theorem noise_same (a : LN) (ds : List LN) (hw : ∀ y ∈ ds, ∀ z ∈ y, W32 z) : p_f1ez a ds = p_f1iz a ds := by
 rw [p_f1ez_eq, p_f1iz_eq, ← bands_same]
 cases hb : p_fhz a ds
 ·rfl
 ·obtain ⟨b1, b2, b3, b4, b5⟩ := bands_t hb
  rw [Bool.not_true, cond_false, cond_false, p_f1bz_eq]
  have hmem : ds.getD 0 [] ∈ ds := by
   rw [List.getD_eq_getElem?_getD, List.getElem?_eq_getElem (by omega : 0 < ds.length)]; exact List.getElem_mem _
  have hd := List.all_eq_true.1 b3 _ hmem
  have hz : ds.getD (0 : Int).toNat [] = ds.getD 0 [] := rfl
  rw [hz]
  have hs : p_f23z (ds.getD 0 []) = p_f1cz (ds.getD 0 []) 0 := by
   rw [f23z_map, l05Sizes_map]
   exact List.map_congr_left fun x hx => (size_sub (w32_wd (hw _ hmem x hx)) (List.all_eq_true.1 hd x hx)).symm
  rw [median_same _ ?_, hs, number_same]
  intro y hy
  rw [f23z_map] at hy
  obtain ⟨x, hx, rfl⟩ := List.mem_map.1 hy
  exact size_nn (fin_nn (List.all_eq_true.1 hd x hx))
theorem size_same {x : Nat} (h : W32 x) : p_f26z x = p_f1oz x := size_two (w32_wd h)
theorem least_same (x : Nat) : p_f1fz x = p_f19z x := rfl
theorem least_t {x : Nat} (h : p_f19z x = true) : fin .f32 x = true ∧ 0 ≤ sv .f32 x := by
 unfold p_f19z at h
 rw [spec_fin] at h
 cases hf : fin .f32 x
 ·rw [hf] at h; cases h
 ·rw [hf, cond_true, fle_fin (fin_zero _) hf, sv_zero] at h
  exact ⟨rfl, of_decide_eq_true h⟩
theorem soft_same {x y : Nat} (hx : W32 x) (hy : W32 y) (fx : fin .f32 x = true) (ly : p_f19z y = true) (h : flt .f32 y (p_f1oz x) = true) :
  p_f1xz x y = (bif flt .f32 x 0 then fneg .f32 (fsub .f32 (p_f1oz x) y) else fsub .f32 (p_f1oz x) y) := by
 obtain ⟨fy, py⟩ := least_t ly
 have wx := w32_wd hx
 have wy := w32_wd hy
 rw [← size_same hx] at h ⊢
 unfold p_f26z at h ⊢
 unfold p_f1xz
 have e1 : flt .f32 x 0 = decide (sv .f32 x < 0) := by rw [flt_fin fx (fin_zero _), sv_zero]
 have e2 : feq .f32 x 0 = decide (sv .f32 x = 0) := by rw [feq_fin fx (fin_zero _), sv_zero]
 rw [e1, e2] at h ⊢
 by_cases c : sv .f32 x < 0
 ·rw [decide_eq_true c, cond_true] at h ⊢
  rw [flt_fin fy (fin_neg fx), sv_neg fx] at h
  have h := of_decide_eq_true h
  have e3 : flt .f32 y x = false := by rw [flt_fin fy fx]; exact decide_eq_false ω2
  have e4 : flt .f32 x (fneg .f32 y) = true := by rw [flt_fin fx (fin_neg fy), sv_neg fy]; exact decide_eq_true ω2
  rw [e3, e4, cond_false, cond_true, cond_true, fsub_neg (fin_nn fy)]
  rw [← fadd_negs (fin_neg fx) (fin_neg fy) (by rw [sv_neg fx, sv_neg fy]; omega), fneg_fneg wx, fneg_fneg wy]
 ·rw [decide_eq_false c, cond_false] at h ⊢
  by_cases c2 : sv .f32 x = 0
  ·rw [decide_eq_true c2, cond_true, flt_fin fy (fin_zero _), sv_zero] at h
   have h := of_decide_eq_true h
   omega
  ·rw [decide_eq_false c2, cond_false] at h ⊢
   rw [h, cond_true, cond_false]
theorem shrunk_same {x y : Nat} (hard : Bool) (hx : W32 x) (hy : W32 y) (fx : fin .f32 x = true) (ly : p_f19z y = true) : p_f1wz x y hard = p_f14z x y hard := by
 rw [p_f1wz_eq, p_f14z_eq, size_same hx]
 cases h : flt .f32 y (p_f1oz x)
 ·rfl
 ·cases hard
  ·simp only [Bool.not_true, cond_false]
   exact soft_same hx hy fx ly h
  ·rfl
theorem log_l3_eq {x x0 ve x' ve_3 : Nat} {y y_0 : Nat} {we we_3 : Int} {Ki : Nat → Nat → Nat} {Ks : Nat → Int → Nat} (hK : ∀ q k n, Ki q k = Ks q n) :
  ∀ (μ ν : Nat) (n : Int) (q : Nat), n < μ → n < ν → 0 < μ → 0 < ν → n ≤ 25 → -1 ≤ n → p_fjz_l3 x x0 ve x' ve_3 Ki μ q (FloatKind.nearest .f64 n) = p_fqz_l3 y y_0 we x' we_3 Ks ν q n := by
 intro μ
 induction μ with
 | zero => intro ν n q _ _ h _ _ _; exact absurd h (Nat.lt_irrefl 0)
 | succ μ ih =>
  intro ν n q hm hv _ hv0 hn hn1
  obtain ⟨ν, rfl⟩ : ∃ j, ν = j + 1 := ⟨ν - 1, by omega⟩
  rw [p_fjz_l3_s, p_fqz_l3_s]
  have hc := cnt_at (n := n) ω2 ω2
  rw [hc.2.1]
  by_cases h : (1 : Int) ≤ n
  ·rw [decide_eq_true h, cond_true, cond_true, hc.2.2.2]
   exact ih ν (n - 2) _ ω2 ω2 ω2 ω2 ω2 ω2
  ·rw [decide_eq_false h, cond_false, cond_false]
   exact hK _ _ _
theorem log_l2_eq {x x0 ve : Nat} {y y_0 : Nat} {we : Int} {Ki : Nat → Nat → Nat} {Ks : Nat → Int → Nat} (hK : ∀ x' (e : Int), Ki x' (FloatKind.nearest .f64 e) = Ks x' e) :
  ∀ (μ : Nat) (x' : Nat) (e : Int), 4503599627370496 ≤ x' → x' < 4609434218613702656 → (4609434218613702656 : Int) - x' ≤ (e + 3000) * 4503599627370496 → e ≤ 2100 →
   p_fjz_l2 x x0 ve Ki μ x' (FloatKind.nearest .f64 e) = p_fqz_l2 y y_0 we Ks μ x' e := by
 intro μ
 induction μ with
 | zero => intro x' e _ _ _ _; unfold p_fjz_l2 p_fqz_l2; rfl
 | succ μ ih =>
  intro x' e h0 h1 h2 h3
  rw [p_fjz_l2_s, p_fqz_l2_s]
  cases hc : flt .f64 x' 4604930618986332160 with
  | true =>
   have := twice_step h0 ω2 hc
   rw [cond_true, cond_true, near_down ω2, wrap64 (n := e - 1) ω2 ω2, this.1]
   exact ih _ _ ω2 ω2 ω2 ω2
  | false =>
   rw [cond_false, cond_false]
   exact hK _ _
theorem log_l1_eq {x : Nat} :
  ∀ (μ : Nat) (x0 : Nat) (e : Int), 4503599627370496 ≤ x0 → x0 < 9218868437227405312 → e * 4503599627370496 + x0 ≤ 9218868437227405312 → 0 ≤ e →
   p_fjz_l1 x μ x0 (FloatKind.nearest .f64 e) = p_fqz_l1 x μ x0 e := by
 intro μ
 induction μ with
 | zero => intro x0 e _ _ _ _; unfold p_fjz_l1 p_fqz_l1; rfl
 | succ μ ih =>
  intro x0 e h0 h1 h2 h3
  rw [p_fjz_l1_s, p_fqz_l1_s]
  cases hc : fle .f64 4609434218613702656 x0 with
  | true =>
   have := half_step h0 h1 hc
   rw [cond_true, cond_true, near_up ω2, wrap64 (n := e + 1) ω2 ω2, this.1]
   exact ih _ _ ω2 ω2 ω2 ω2
  | false =>
   rw [cond_false, cond_false]
   rw [pos_le ω32 ω32 h0 h1] at hc
   have := of_decide_eq_false hc
   refine log_l2_eq ?_ _ _ _ h0 ω2 ω2 ω2
   intro x' e'
   have e25 : (4627730092099895296 : Nat) = FloatKind.nearest .f64 25 := by decide +kernel
   have c25 : cnt 4627730092099895296 = 25 := by rw [e25]; exact (cnt_at (n := 25) ω32 ω32).1
   rw [c25, e25]
   refine log_l3_eq ?_ _ _ 25 0 ?_ ?_ ?_ ?_ ω32 ω32
   ·intro q k n; rfl
   ·decide
   ·decide
   ·decide
   ·decide
theorem log_wide_eq {x : Nat} (h0 : 4503599627370496 ≤ x) (h1 : x < 9218868437227405312) : p_fjz x = p_fqz_l1 x (Int.toNat ((x : Int)) + 1) x (0 : Int) := by
 have g := log_l1_eq (x := x) (Int.toNat ((x : Int)) + 1) x 0 h0 h1 ω2 ω32
 rw [show FloatKind.nearest .f64 0 = 0 by decide +kernel] at g
 rw [p_fjz_eq]
 exact g
theorem log_at_zero : p_frz 0 = p_f22z 0 := by decide +kernel
theorem log_at_nzero : p_frz 2147483648 = p_f22z 2147483648 := by decide +kernel
theorem log_at_inf : p_frz 2139095040 = p_f22z 2139095040 := by decide +kernel
theorem log_at_ninf : p_frz 4286578688 = p_f22z 4286578688 := by decide +kernel
theorem log_at_nan : p_frz (qnan .f32) = p_f22z (qnan .f32) := by decide +kernel
theorem log_eq {x : Nat} (h : Wd .f32 x) : p_frz x = p_f22z x := by
 rcases h.cases with hf | rfl | rfl | rfl
 ·cases h0 : feq .f32 x 0 with
  | true =>
   rw [feq_fin hf (fin_zero _), sv_zero] at h0
   rcases zero_of_sv h.1 hf (of_decide_eq_true h0) with rfl | rfl
   ·exact log_at_zero
   ·exact log_at_nzero
  | false =>
   have w0 := wide_feq hf
   have w1 := wide_flt hf
   rw [p_frz_eq, p_f22z_eq, p_fqz_eq, wide_self hf, w0, w1, h0, Bool.not_true, cond_false, cond_false, cond_false]
   cases h1 : flt .f32 x 0 with
   | true => rw [cond_true, cond_true]; rfl
   | false =>
    have hp := log_pre' h0 h1 hf
    have hi : p_f24z (fwide x) 1 = false := by
     show flt .f64 9218868437227405311 (fwide x) = false
     rw [pos_lt ω32 ω32 hp.1 hp.2]
     exact decide_eq_false ω2
    have hi2 : p_f16z x = true := (fin_asked x).trans hf
    rw [cond_false, cond_false, hi, cond_false, feq_self (fin_nn hf), hi2, Bool.not_true, cond_false, cond_false, ← log_wide_eq hp.1 hp.2]
    rfl
 ·exact log_at_inf
 ·exact log_at_ninf
 ·exact log_at_nan
theorem sqrt_eq (x : Nat) : p_fgz x = p_f1jz x := rfl
theorem join_l2 (a b c : LN) (t : Int) (y y' : LN) (F : LN → LN × Bool) (K : Int → LN → LN × Bool) (K' : Int → LN → LN) (hK : ∀ j z, z.length = y.length → K j z = F (K' j z)) : ∀ (μ : Nat) (j : Int) (z : LN), z.length = y.length → ((c.length : Int) - j).toNat < μ → p_f17z_l2 a b c t y K μ j z = F (p_f1lz_l2 a b c t y' K' μ j z) := by
 intro μ
 induction μ with
 | zero => intro j z hz h; omega
 | succ μ ih =>
  intro j z hz h
  rw [p_f17z_l2_s, p_f1lz_l2_s, high_same]
  by_cases hj : j < (c.length : Int)
  ·rw [decide_eq_true hj, cond_true, cond_true]; exact ih _ _ (by rw [List.length_set]; exact hz) ω2
  ·rw [decide_eq_false hj, cond_false, cond_false]; exact hK _ _ hz
theorem join_l1 (a b c : LN) : ∀ (μ : Nat) (j : Int) (z : LN), ((a.length : Int) - j).toNat < μ → p_f17z_l1 a b c μ j z = (bif (p_fiz (p_f1lz_l1 a b c μ j z)).2 then (p_f1lz_l1 a b c μ j z, true) else ([], false)) := by
 intro μ
 induction μ with
 | zero => intro j z h; omega
 | succ μ ih =>
  intro j z h
  rw [p_f17z_l1_s, p_f1lz_l1_s]
  by_cases hj : j < (a.length : Int)
  ·rw [decide_eq_true hj, cond_true, cond_true]
   exact join_l2 a b c j z z (fun r => bif (p_fiz r).2 then (r, true) else ([], false)) _ _ (fun j' z' _ => ih _ _ ω2) _ _ _ rfl ω2
  ·rw [decide_eq_false hj, cond_false, cond_false]
theorem join_same {a b c : LN} (h1 : 1 ≤ a.length) (h2 : a.length ≤ 64) (h3 : b.length = a.length) (ha : a.all (fin .f32) = true) (hb : b.all (fin .f32) = true) (hc : p_f1nz c = true) :
  p_f17z a b c = (bif p_f10z (p_f1lz a b c) then (p_f1lz a b c, true) else ([], false)) := by
 rw [p_f17z_eq, pair_same, hc, areFinite_all]
 have hf : ([a, b].all fun l => l.all (fin .f32)) = true := by simp [ha, hb]
 have hw : p_f1yz (a.length : Int) 1 64 = true := by
  unfold p_f1yz
  rw [decide_eq_true (show (1 : Int) ≤ (a.length : Int) by omega), decide_eq_true (show (a.length : Int) ≤ 64 by omega)]; rfl
 rw [hf, hw, show ((b.length : Int) != (a.length : Int)) = false by rw [h3]; simp]
 simp only [Bool.not_true, cond_false]
 rw [join_l1 _ _ _ _ _ _ ω2, ← p_f1lz_eq, p_fiz_eq, finite_same]
 cases p_f10z (p_f1lz a b c) <;> rfl
theorem levels_go (a : LN) (ds : List LN) (p : LN) (hb : bandsRel a ds) (hd : ds.all (fun l => l.all (fin .f32)) = true) (hp : p_f1nz p = true) : ∀ (μ : Nat) (t t' : Bool) (o : LN) (i : Int), i ≤ (ds.length : Int) - 1 → (0 ≤ i → o.length = (ds.getD i.toNat []).length) → o.all (fin .f32) = true →
  p_fez_l1 a ds p μ t o i = p_f12z_l1 a ds p μ t' o i := by
 intro μ
 induction μ with
 | zero => intro t t' o i h1 h2 h3; rfl
 | succ μ ih =>
  intro t t' o i h1 h2 h3
  rw [p_fez_l1_s, p_f12z_l1_s]
  by_cases h : 0 ≤ i
  ·rw [decide_eq_true h, cond_true, cond_true]
   obtain ⟨g1, g2, g3, g4⟩ := bands_now hb h2 h h1
   have hm : (ds.getD i.toNat []).all (fin .f32) = true := by
    have hi : i.toNat < ds.length := by omega
    rw [List.getD_eq_getElem?_getD, List.getElem?_eq_getElem hi]
    exact List.all_eq_true.1 hd _ (List.getElem_mem hi)
   rw [join_same g1 g2 g3 h3 hm hp]
   cases hf : p_f10z (p_f1lz o (ds.getD i.toNat []) p)
   ·rfl
   ·simp only [cond_true, Bool.not_true, cond_false]
    have hj := f1lz_len o (ds.getD i.toNat []) p ω2
    exact ih _ _ _ _ ω2 (fun h => by rw [hj]; exact (g4 ω2).symm) (by rw [← l02Finite_all]; exact hf)
  ·rw [decide_eq_false h, cond_false, cond_false]
theorem levels_same (a : LN) (ds : List LN) (p : LN) (hb : ∀ y ∈ ds, y.length < 1073741824) : p_fez a ds p = p_foz a ds p := by
 rw [p_fez_eq, p_foz_eq, bands_same, pair_same]
 cases h1 : p_f1az a ds
 ·rfl
 ·cases h2 : p_f1nz p
  ·rfl
  ·simp only [Bool.not_true, cond_false]
   have hr := bands_rel h1 hb
   obtain ⟨b1, b2, b3, b4, b5⟩ := bands_t ((bands_same a ds).trans h1)
   obtain ⟨s1, s2, s3, s4, s5⟩ := bands_start hr
   rw [p_f12z_eq, levels_go a ds p hr b3 h2 _ false false _ _ ω2 (fun _ => s2) b4, List.nil_append]
theorem shb_go (a : LN) (ds : List LN) (m : LN) (h : Bool) (hm : ∀ y ∈ m, W32 y) (hw : ∀ d ∈ ds, ∀ y ∈ d, W32 y) (hd : ds.all (fun l => l.all (fin .f32)) = true) : ∀ (μ : Nat) (b b' : Bool) (i : Int) (o : List LN), 0 ≤ i → p_faz_l1 a ds m h μ b i o = p_fcz_l1 a ds m h μ b' i o := by
 intro μ
 induction μ with
 | zero => intro b b' i o h0; rfl
 | succ μ ih =>
  intro b b' i o h0
  rw [p_faz_l1_s, p_fcz_l1_s, least_same, f1rz_is, List.nil_append]
  by_cases hi : i < (ds.length : Int)
  ·rw [decide_eq_true hi, cond_true, cond_true]
   cases hl : p_f19z (m.getD i.toNat 0)
   ·rfl
   ·simp only [Bool.not_true, cond_false]
    have hi : i.toNat < ds.length := by omega
    have hmem : ds.getD i.toNat [] ∈ ds := by
     rw [List.getD_eq_getElem?_getD, List.getElem?_eq_getElem hi]; exact List.getElem_mem _
    have he : p_fkz (ds.getD i.toNat []) (m.getD i.toNat 0) h = p_f1qz (ds.getD i.toNat []) (m.getD i.toNat 0) h := by
     rw [fkz_map, f1qz_map]
     exact List.map_congr_left fun x hx => shrunk_same h (hw _ hmem x hx) (w32_getD hm _) (List.all_eq_true.1 (List.all_eq_true.1 hd _ hmem) x hx) hl
    rw [he]; exact ih _ _ _ _ ω2
  ·rw [decide_eq_false hi, cond_false, cond_false]
theorem shb_same (a : LN) (ds : List LN) (m : LN) (h : Bool) (hm : ∀ y ∈ m, W32 y) (hw : ∀ d ∈ ds, ∀ y ∈ d, W32 y) : p_faz a ds m h = p_fcz a ds m h := by
 rw [p_faz_eq, p_fcz_eq, bands_same]
 cases h1 : p_f1az a ds
 ·rfl
 ·obtain ⟨b1, b2, b3, b4, b5⟩ := bands_t ((bands_same a ds).trans h1)
  rw [shb_go a ds m h hm hw b3 _ false false 0 _ ω2]
theorem limit_same (n : Nat) (c : Int) : p_ffz n c = p_fpz n c := by
 rw [p_ffz_eq, p_fpz_eq, log_eq (Wd.nearest .f32 c), sqrt_eq]
 rfl
theorem limit_w (n : Nat) (c : Int) : W32 (p_fpz n c).1 := by
 have z : W32 0 := w32_zero
 rw [p_fpz_eq]
 refine cnb (P := fun r : Nat × Bool => W32 r.1) (fun _ => z) (fun _ => ?_)
 refine cnb (P := fun r : Nat × Bool => W32 r.1) (fun _ => z) (fun _ => ?_)
 show W32 (p_f11z _).1
 unfold p_f11z
 exact cnb (P := fun r : Nat × Bool => W32 r.1) (fun _ => z) (fun _ => wd_w32 (Wd.mul _ _ _))
theorem denoise_same (l t : LN) (v : Int) (h : Bool) (hl : l.length < 1073741824) : p_f1dz l t v h = p_f1hz l t v h := by
 have hw := split_w l t v
 have hb := fdz_big l t v hl
 have go : ∀ (μ : Nat) (o : LN) (i : Int), (∀ y ∈ o, W32 y) → p_f1dz_l1 l t v h μ o i = p_f1hz_l1 l t v h μ o i := by
  intro μ
  induction μ with
  | zero => intro o i ho; rfl
  | succ μ ih =>
   intro o i ho
   rw [p_f1dz_l1_s, p_f1hz_l1_s, split_same, noise_same _ _ hw, limit_same, shb_same _ _ _ _ ho hw, levels_same _ _ _ (fcz_big _ _ _ _ hb)]
   rw [ih _ _ (fun y hy => ?_)]
   rcases List.mem_append.1 hy with hy | hy
   ·exact ho y hy
   ·rw [List.mem_singleton.1 hy]; exact limit_w _ _
 rw [p_f1dz_eq, p_f1hz_eq, split_same, noise_same _ _ hw, limit_same, go _ _ _ (fun y hy => by cases hy)]
theorem laws_FnExactDenoise_true (qc : LN) (ac : LN) (aLevels : Int) (aHard : Bool) (q0 : (∀ y ∈ qc, W32 y)) (q0' : qc.length ≤ 9223372036854775807) (q1 : (∀ y ∈ ac, W32 y)) (q1' : ac.length ≤ 9223372036854775807) (q2 : I64 aLevels) : p_laws_FnExactDenoise qc ac aLevels aHard = true := by
 rw [p_laws_FnExactDenoise_eq]
 by_cases hL : (1048576 : Int) < (qc.length : Int)
 ·rw [decide_eq_true hL]; rfl
 ·rw [decide_eq_false hL, cond_false, denoise_same _ _ _ _ ω2]
  rcases f20z_f ac 1048576 ω32 ω32 q1' with h | ⟨h, h'⟩
  ·rw [decide_eq_true h]; rfl
  ·have hr := f1hz_len qc ac aLevels aHard ω2
   rw [decide_eq_false (show ¬ p_f20z ac 1048576 < 0 by omega), cond_false]
   have hw := wk_eq qc.length 1 ω2 ω2
   have hv := wk_eq ac.length (wk 1 qc.length) ω2 ω2
   simp only [flz_self, f1zz_self, f8z_marks, Bool.not_true, cond_false, beq_self_eq_true, bne_self_eq_false, decide_eq_false (show ¬ wk (wk 1 qc.length) ac.length < (0 : Int) by omega), wk_one hr]
/-! laws_FnExactDenoise: function 7 -/
def E_laws_FnExactDenoise : Env := envOf [(37, S_f20z), (22, S_fnz), (39, S_f21z), (38, S_f1hz), (40, S_f1dz), (24, S_flz), (41, S_f1zz), (25, S_f9z), (42, S_f18z), (26, S_f8z)]
def F_laws_FnExactDenoise : List Value → AHeap → (Value → AHeap → Prop) → Prop
 | [.slice kf ef qf, .agg ⟨[.slice pe rf qe]⟩, .int .i64 aLevels, .bool aHard], H, K => T_laws_FnExactDenoise kf ef qf pe rf qe aLevels aHard H fun (r1 : Bool) (H' : AHeap) => K (.bool r1) H'
 | _, _, _ => False
def S_laws_FnExactDenoise : FSpec := { F := F_laws_FnExactDenoise, quiet := false, tame := false }
theorem laws_FnExactDenoise_vc (kf : OA) (ef : Nat) (qf : Nat) (pe : OA) (rf : Nat) (qe : Nat) (aLevels : Int) (aHard : Bool) (H : AHeap) (K : Value → AHeap → Prop) : bodyL Try.prog E_laws_FnExactDenoise Try.f7 [.slice kf ef qf, .agg #[.slice pe rf qe], .int .i64 aLevels, .bool aHard] H K =
 (Al [.slice pe rf qe] H fun b1 H1 => Br (decide ((1048576 : Int) < (ef : Int))) (K (.bool true) H1) (∃ xe : OA, ∃ ze : Nat, ∃ ye : Nat,  rdN H1 b1 0 1 = some [.slice xe ze ye] ∧ T_f20z xe ze ye 1048576 H1 fun (r1 : Int) (H2 : AHeap) => Br (decide ((r1 : Int) < 0)) (K (.bool true) H2) (∃ af : OA, ∃ cf : Nat, ∃ bf : Nat,  rdN H2 b1 0 1 = some [.slice af cf bf] ∧ T_fnz kf ef qf H2 fun (a1 : OA) (r2 : Nat) (r3 : Nat) (H3 : AHeap) => T_f21z af cf bf H3 fun (a2 : OA) (r4 : Nat) (r5 : Nat) (H4 : AHeap) => T_f1hz a1 r2 r3 a2 r4 r5 aLevels aHard H4 fun (a3 : OA) (r6 : Nat) (r7 : Nat) (r8 : Bool) (H5 : AHeap) => T_fnz kf ef qf H5 fun (a4 : OA) (r9 : Nat) (r10 : Nat) (H6 : AHeap) => ∃ yf : OA, ∃ ag : Nat, ∃ zf : Nat,  rdN H6 b1 0 1 = some [.slice yf ag zf] ∧ T_f21z yf ag zf H6 fun (a5 : OA) (r11 : Nat) (r12 : Nat) (H7 : AHeap) => Al [.slice none 0 0] H7 fun b2 H8 => isOwn H8 b2 ∧ (∃ l, rdN H8 b2 0 1 = some l) ∧ Lt (setN H8 b2 0 [.slice a5 r11 r12]) fun H9 => ∃ bg : OA, ∃ eg : Nat, ∃ dg : Nat,  rdN H9 b2 0 1 = some [.slice bg eg dg] ∧ T_f1dz a4 r9 r10 bg eg dg aLevels aHard H9 fun (a6 : OA) (r13 : Nat) (r14 : Nat) (r15 : Bool) (H10 : AHeap) => T_flz a6 r13 r14 a3 r6 r7 H10 fun (r16 : Bool) (H11 : AHeap) => Br (!r16) (K (.bool false) H11) (Br (!(r15 == r8)) (K (.bool false) H11) (T_fnz kf ef qf H11 fun (a7 : OA) (r17 : Nat) (r18 : Nat) (H12 : AHeap) => T_flz a4 r9 r10 a7 r17 r18 H12 fun (r19 : Bool) (H13 : AHeap) => Br (!r19) (K (.bool false) H13) (∃ fg : OA, ∃ jg : Nat, ∃ ig : Nat,  rdN H13 b1 0 1 = some [.slice fg jg ig] ∧ ∃ kg : OA, ∃ mg : Nat, ∃ lg : Nat,  rdN H13 b2 0 1 = some [.slice kg mg lg] ∧ T_f21z fg jg ig H13 fun (a8 : OA) (r20 : Nat) (r21 : Nat) (H14 : AHeap) => T_f1zz kg mg lg a8 r20 r21 H14 fun (r22 : Bool) (H15 : AHeap) => Br (!r22) (K (.bool false) H15) (T_f9z a4 r9 r10 1 H15 fun (r23 : Int) (H16 : AHeap) => ∃ ng : OA, ∃ pg : Nat, ∃ og : Nat,  rdN H16 b2 0 1 = some [.slice ng pg og] ∧ T_f18z ng pg og r23 H16 fun (r24 : Int) (H17 : AHeap) => Br (decide ((r24 : Int) < 0)) (K (.bool false) H17) (T_flz a6 r13 r14 a3 r6 r7 H17 fun (r25 : Bool) (H18 : AHeap) => Br (!r25) (K (.bool false) H18) (Br (!(r15 == r8)) (K (.bool false) H18) (T_f9z a6 r13 r14 1 H18 fun (r26 : Int) (H19 : AHeap) => T_f8z a6 r13 r14 1 H19 fun (r27 : Int) (H20 : AHeap) => Br (decide ((r27 : Int) < 0)) (K (.bool false) H20) (Br ((r27 : Int) != r26) (K (.bool false) H20) (∃ qg : OA, ∃ tg : Nat, ∃ rg : Nat,  rdN H20 b1 0 1 = some [.slice qg tg rg] ∧ T_fnz kf ef qf H20 fun (a9 : OA) (r28 : Nat) (r29 : Nat) (H21 : AHeap) => T_f21z qg tg rg H21 fun (a10 : OA) (r30 : Nat) (r31 : Nat) (H22 : AHeap) => T_f1dz a9 r28 r29 a10 r30 r31 aLevels aHard H22 fun (a11 : OA) (r32 : Nat) (r33 : Nat) (r34 : Bool) (H23 : AHeap) => T_flz a11 r32 r33 a3 r6 r7 H23 fun (r35 : Bool) (H24 : AHeap) => Br (!r35) (K (.bool false) H24) (Br (!(r34 == r8)) (K (.bool false) H24) (T_f8z a6 r13 r14 1 H24 fun (r36 : Int) (H25 : AHeap) => Br (decide ((r36 : Int) < 0)) (K (.bool false) H25) (Br ((r36 : Int) != r26) (K (.bool false) H25) (K (.bool true) H25)))))))))))))))) := by kernel_rfl
theorem E_laws_FnExactDenoise_ok : ∀ g, FnOk Try.prog g (E_laws_FnExactDenoise g) := FnOk.envOf (by
 intro x hx
 simp only [List.mem_cons, List.not_mem_nil, or_false] at hx
 rcases hx with rfl | rfl | rfl | rfl | rfl | rfl | rfl | rfl | rfl | rfl
 ·exact f20z_ok
 ·exact fnz_ok
 ·exact f21z_ok
 ·exact f1hz_ok
 ·exact f1dz_ok
 ·exact flz_ok
 ·exact f1zz_ok
 ·exact f9z_ok
 ·exact f18z_ok
 ·exact f8z_ok)
theorem laws_FnExactDenoise_main (kf : OA) (ef : Nat) (qf : Nat) (pe : OA) (rf : Nat) (qe : Nat) (aLevels : Int) (aHard : Bool) (H : AHeap) (K : Value → AHeap → Prop) (h : T_laws_FnExactDenoise kf ef qf pe rf qe aLevels aHard H fun (r1 : Bool) (H' : AHeap) => K (.bool r1) H') : bodyL Try.prog E_laws_FnExactDenoise Try.f7 [.slice kf ef qf, .agg #[.slice pe rf qe], .int .i64 aLevels, .bool aHard] H K := by
 rw [laws_FnExactDenoise_vc]
 obtain ⟨qc, ac, h_0, h_1, h_2, h_3, h_4, h_5, h_6, hk⟩ := h
 have i_aList := h_0
 obtain rfl := i_aList.eqn
 have i_aP_Low := h_3
 obtain rfl := i_aP_Low.eqn
 have hl := laws_FnExactDenoise_true qc ac aLevels aHard h_1 h_2 h_4 h_5 h_6
 have e : p_laws_FnExactDenoise qc ac aLevels aHard = _ := rfl
 have e := e.trans (p_laws_FnExactDenoise_eq qc ac aLevels aHard)
 have e := hl.symm.trans e
 have g0 := Grow.refl H
 refine Al.intro (fun b_1 H_1 hb_2 hl_3 g_4 o_5 => ?_)
 have l7 := g_4.1
 have g8 := g0.trans g_4
 have l9 := g8.1
 have w340 := o_5.lt
 refine Br.intro (fun c10 => ?_) (fun c10 => ?_)
 ·have e := e.trans (cond_t c10)
  have c_10' := of_decide_eq_true c10
  first | exact hk _ | (exfalso; cases e; done) | (rw [← e]; exact hk _)
 ·have e := e.trans (cond_f c10)
  have c_10' := of_decide_eq_false c10
  refine ⟨pe, ac.length, qe, (o_5.rdN (Nat.le_of_ble_eq_true rfl)).trans rfl, ?_⟩
  refine T_f20z_i ⟨_, (i_aP_Low.grow g8), fun  H_2 g12  => ?_⟩
  have z11 := f20z_f ac (1048576 : Int)
  have l13 := g12.1
  have g14 := g8.trans g12
  have l15 := g14.1
  have o16 := o_5.grow g12
  have w17 := o16.lt
  refine Br.intro (fun c18 => ?_) (fun c18 => ?_)
  ·have e := e.trans (cond_t c18)
   have c_18' := of_decide_eq_true c18
   first | exact hk _ | (exfalso; cases e; done) | (rw [← e]; exact hk _)
  ·have e := e.trans (cond_f c18)
   have c_18' := of_decide_eq_false c18
   refine ⟨pe, ac.length, qe, (o16.rdN (Nat.le_of_ble_eq_true rfl)).trans rfl, ?_⟩
   refine T_fnz_i ⟨_, (i_aList.grow g14), ω0, fun a19 n20 e21 H_3 g23 r_22 => ?_⟩
   have l24 := g23.1
   have g25 := g14.trans g23
   have l26 := g25.1
   have o27 := o16.grow g23
   have w28 := o27.lt
   obtain rfl := r_22.isL.eqn
   have u29 := r_22.up
   have u30 := r_22.lo
   refine T_f21z_i ⟨_, (i_aP_Low.grow g25), ω0, fun a32 n33 e34 H_4 g36 r_35 => ?_⟩
   have l37 := g36.1
   have g38 := g25.trans g36
   have l39 := g38.1
   have o40 := o27.grow g36
   have w41 := o40.lt
   have r42 := r_22.grow g36
   obtain rfl := r_35.isL.eqn
   have u43 := r_35.up
   have u44 := r_35.lo
   refine T_f1hz_i ⟨_, _, r42.isL, r_35.isL, ω0, ω0, fun a46 n47 e48 H_5 g51 r49 => ?_⟩
   have z50 := f1hz_len qc ac aLevels aHard
   have l52 := g51.1
   have g53 := g38.trans g51
   have l54 := g53.1
   have o55 := o40.grow g51
   have w56 := o55.lt
   have r57 := r42.grow g51
   have r58 := r_35.grow g51
   obtain rfl := r49.isL.eqn
   have u59 := r49.up
   have u60 := r49.lo
   refine T_fnz_i ⟨_, (i_aList.grow g53), ω0, fun a62 n63 e_64 H_6 g66 r65 => ?_⟩
   have l67 := g66.1
   have g68 := g53.trans g66
   have l69 := g68.1
   have o70 := o55.grow g66
   have w71 := o70.lt
   have r72 := r57.grow g66
   have r73 := r58.grow g66
   have r74 := r49.grow g66
   obtain rfl := r65.isL.eqn
   have u75 := r65.up
   have u76 := r65.lo
   refine ⟨pe, ac.length, qe, (o70.rdN (Nat.le_of_ble_eq_true rfl)).trans rfl, ?_⟩
   refine T_f21z_i ⟨_, (i_aP_Low.grow g68), ω0, fun a78 n79 e80 H_7 g82 r81 => ?_⟩
   have l83 := g82.1
   have g84 := g68.trans g82
   have l85 := g84.1
   have o86 := o70.grow g82
   have w87 := o86.lt
   have r88 := r72.grow g82
   have r89 := r73.grow g82
   have r90 := r74.grow g82
   have r91 := r65.grow g82
   obtain rfl := r81.isL.eqn
   have u92 := r81.up
   have u93 := r81.lo
   refine Al.intro (fun b95 H_8 hb_96 hl_97 g98 o99 => ?_)
   have l101 := g98.1
   have g102 := g84.trans g98
   have l103 := g102.1
   have o104 := o86.grow g98
   have w105 := o104.lt
   have r106 := r88.grow g98
   have r107 := r89.grow g98
   have r108 := r90.grow g98
   have r109 := r91.grow g98
   have r110 := r81.grow g98
   have w339 := o99.lt
   refine Lt.setN (n := 1) o99 (Nat.le_of_ble_eq_true rfl) rfl (fun H_9 hl_111 o113 k112 => ?_)
   have o113 : Own H_9 b95 [.slice a78 ((ac).length) e80] := o113
   have l114 := k112.1
   have g115 := g102.keep (b := b95) ω2 k112
   have l116 := g115.1
   have o117 := o104.keep ω2 k112
   have w118 := o117.lt
   have r119 := r106.keep u29 ω2 k112
   have r120 := r107.keep u43 ω2 k112
   have r121 := r108.keep u59 ω2 k112
   have r122 := r109.keep u75 ω2 k112
   have r123 := r110.keep u92 ω2 k112
   have w338 := o113.lt
   refine ⟨a78, (ac).length, e80, (o113.rdN (Nat.le_of_ble_eq_true rfl)).trans rfl, ?_⟩
   refine T_f1dz_i ⟨_, _, r122.isL, r123.isL, ω0, ω0, fun a124 n125 e126 H_10 g129 r127 => ?_⟩
   have z128 := f1dz_len qc ac aLevels aHard
   have l130 := g129.1
   have g131 := g115.trans g129
   have l132 := g131.1
   have o133 := o117.grow g129
   have w134 := o133.lt
   have o135 := o113.grow g129
   have w136 := o135.lt
   have r137 := r119.grow g129
   have r138 := r120.grow g129
   have r139 := r121.grow g129
   have r140 := r122.grow g129
   have r141 := r123.grow g129
   obtain rfl := r127.isL.eqn
   have u142 := r127.up
   have u143 := r127.lo
   refine T_flz_i ⟨_, _, r127.isL, r139.isL, ω0, ω0, ?_⟩
   refine Br.intro (fun c145 => ?_) (fun c145 => ?_)
   ·have e := e.trans (cond_t c145)
    have c_145n := nf_of_t c145
    first | exact hk _ | (exfalso; cases e; done) | (rw [← e]; exact hk _)
   ·have e := e.trans (cond_f c145)
    have c_145n := nt_of_f c145
    refine Br.intro (fun c146 => ?_) (fun c146 => ?_)
    ·have e := e.trans (cond_t c146)
     have c_146n := nf_of_t c146
     first | exact hk _ | (exfalso; cases e; done) | (rw [← e]; exact hk _)
    ·have e := e.trans (cond_f c146)
     have c_146n := nt_of_f c146
     refine T_fnz_i ⟨_, (i_aList.grow g131), ω0, fun a147 n148 e149 H_11 g151 r150 => ?_⟩
     have l152 := g151.1
     have g153 := g131.trans g151
     have l154 := g153.1
     have o155 := o133.grow g151
     have w156 := o155.lt
     have o157 := o135.grow g151
     have w158 := o157.lt
     have r159 := r137.grow g151
     have r160 := r138.grow g151
     have r161 := r139.grow g151
     have r162 := r140.grow g151
     have r163 := r141.grow g151
     have r164 := r127.grow g151
     obtain rfl := r150.isL.eqn
     have u165 := r150.up
     have u166 := r150.lo
     refine T_flz_i ⟨_, _, r162.isL, r150.isL, ω0, ω0, ?_⟩
     refine Br.intro (fun c168 => ?_) (fun c168 => ?_)
     ·have e := e.trans (cond_t c168)
      have c_168n := nf_of_t c168
      first | exact hk _ | (exfalso; cases e; done) | (rw [← e]; exact hk _)
     ·have e := e.trans (cond_f c168)
      have c_168n := nt_of_f c168
      refine ⟨pe, ac.length, qe, (o155.rdN (Nat.le_of_ble_eq_true rfl)).trans rfl, ?_⟩
      refine ⟨a78, (ac).length, e80, (o157.rdN (Nat.le_of_ble_eq_true rfl)).trans rfl, ?_⟩
      refine T_f21z_i ⟨_, (i_aP_Low.grow g153), ω0, fun a169 n170 e171 H_12 g173 r172 => ?_⟩
      have l174 := g173.1
      have g175 := g153.trans g173
      have l176 := g175.1
      have o177 := o155.grow g173
      have w178 := o177.lt
      have o179 := o157.grow g173
      have w180 := o179.lt
      have r181 := r159.grow g173
      have r182 := r160.grow g173
      have r183 := r161.grow g173
      have r184 := r162.grow g173
      have r185 := r163.grow g173
      have r186 := r164.grow g173
      have r187 := r150.grow g173
      obtain rfl := r172.isL.eqn
      have u188 := r172.up
      have u189 := r172.lo
      refine T_f1zz_i ⟨_, _, r185.isL, r172.isL, ω0, ω0, fun  H_13 g191  => ?_⟩
      have l192 := g191.1
      have g193 := g175.trans g191
      have l194 := g193.1
      have o195 := o177.grow g191
      have w196 := o195.lt
      have o197 := o179.grow g191
      have w198 := o197.lt
      have r199 := r181.grow g191
      have r200 := r182.grow g191
      have r201 := r183.grow g191
      have r202 := r184.grow g191
      have r203 := r185.grow g191
      have r204 := r186.grow g191
      have r205 := r187.grow g191
      have r206 := r172.grow g191
      refine Br.intro (fun c207 => ?_) (fun c207 => ?_)
      ·have e := e.trans (cond_t c207)
       have c_207n := nf_of_t c207
       first | exact hk _ | (exfalso; cases e; done) | (rw [← e]; exact hk _)
      ·have e := e.trans (cond_f c207)
       have c_207n := nt_of_f c207
       refine T_f9z_i ⟨_, _, r202, ω0, (fun H_14 k208 o209 => ?_)⟩
       have l210 := k208.1
       have g211 := g193.keepA (fun x hx => by have := u76 x hx; omega) k208
       have l212 := g211.1
       have o213 := o195.keepA (fun x hx => by have := u76 x hx; have := u75 x hx; omega) k208
       have w214 := o213.lt
       have o215 := o197.keepA (fun x hx => by have := u76 x hx; have := u75 x hx; omega) k208
       have w216 := o215.lt
       have r217 := r199.keepA (fun x y hx hy => by have := u76 x hx; have := u75 x hx; have := u30 y hy; have := u29 y hy; omega) k208
       have r218 := r200.keepA (fun x y hx hy => by have := u76 x hx; have := u75 x hx; have := u44 y hy; have := u43 y hy; omega) k208
       have r219 := r201.keepA (fun x y hx hy => by have := u76 x hx; have := u75 x hx; have := u60 y hy; have := u59 y hy; omega) k208
       have r220 := r203.keepA (fun x y hx hy => by have := u76 x hx; have := u75 x hx; have := u93 y hy; have := u92 y hy; omega) k208
       have r221 := r204.keepA (fun x y hx hy => by have := u76 x hx; have := u75 x hx; have := u143 y hy; have := u142 y hy; omega) k208
       have r222 := r205.keepA (fun x y hx hy => by have := u76 x hx; have := u75 x hx; have := u166 y hy; have := u165 y hy; omega) k208
       have r223 := r206.keepA (fun x y hx hy => by have := u76 x hx; have := u75 x hx; have := u189 y hy; have := u188 y hy; omega) k208
       refine ⟨a78, (ac).length, e80, (o215.rdN (Nat.le_of_ble_eq_true rfl)).trans rfl, ?_⟩
       refine T_f18z_i ⟨_, _, r220, ω0, (fun H_15 k224 o225 => ?_)⟩
       have l226 := k224.1
       have g227 := g211.keepA (fun x hx => by have := u93 x hx; omega) k224
       have l228 := g227.1
       have o229 := o213.keepA (fun x hx => by have := u93 x hx; have := u92 x hx; omega) k224
       have w230 := o229.lt
       have o231 := o215.keepA (fun x hx => by have := u93 x hx; have := u92 x hx; omega) k224
       have w232 := o231.lt
       have r233 := r217.keepA (fun x y hx hy => by have := u93 x hx; have := u92 x hx; have := u30 y hy; have := u29 y hy; omega) k224
       have r234 := r218.keepA (fun x y hx hy => by have := u93 x hx; have := u92 x hx; have := u44 y hy; have := u43 y hy; omega) k224
       have r235 := r219.keepA (fun x y hx hy => by have := u93 x hx; have := u92 x hx; have := u60 y hy; have := u59 y hy; omega) k224
       have r236 := o209.keepA (fun x y hx hy => by have := u93 x hx; have := u92 x hx; have := u76 y hy; have := u75 y hy; omega) k224
       have r237 := r221.keepA (fun x y hx hy => by have := u93 x hx; have := u92 x hx; have := u143 y hy; have := u142 y hy; omega) k224
       have r238 := r222.keepA (fun x y hx hy => by have := u93 x hx; have := u92 x hx; have := u166 y hy; have := u165 y hy; omega) k224
       have r239 := r223.keepA (fun x y hx hy => by have := u93 x hx; have := u92 x hx; have := u189 y hy; have := u188 y hy; omega) k224
       refine Br.intro (fun c240 => ?_) (fun c240 => ?_)
       ·have e := e.trans (cond_t c240)
        have c_240' := of_decide_eq_true c240
        first | exact hk _ | (exfalso; cases e; done) | (rw [← e]; exact hk _)
       ·have e := e.trans (cond_f c240)
        have c_240' := of_decide_eq_false c240
        refine T_flz_i ⟨_, _, r237.isL, r235.isL, ω0, ω0, ?_⟩
        refine Br.intro (fun c241 => ?_) (fun c241 => ?_)
        ·have e := e.trans (cond_t c241)
         have c_241n := nf_of_t c241
         first | exact hk _ | (exfalso; cases e; done) | (rw [← e]; exact hk _)
        ·have e := e.trans (cond_f c241)
         have c_241n := nt_of_f c241
         refine Br.intro (fun c242 => ?_) (fun c242 => ?_)
         ·have e := e.trans (cond_t c242)
          have c_242n := nf_of_t c242
          first | exact hk _ | (exfalso; cases e; done) | (rw [← e]; exact hk _)
         ·have e := e.trans (cond_f c242)
          have c_242n := nt_of_f c242
          refine T_f9z_i ⟨_, _, r237, ω0, (fun H_16 k243 o244 => ?_)⟩
          have l245 := k243.1
          have g246 := g227.keepA (fun x hx => by have := u143 x hx; omega) k243
          have l247 := g246.1
          have o248 := o229.keepA (fun x hx => by have := u143 x hx; have := u142 x hx; omega) k243
          have w249 := o248.lt
          have o250 := o231.keepA (fun x hx => by have := u143 x hx; have := u142 x hx; omega) k243
          have w251 := o250.lt
          have r252 := r233.keepA (fun x y hx hy => by have := u143 x hx; have := u142 x hx; have := u30 y hy; have := u29 y hy; omega) k243
          have r253 := r234.keepA (fun x y hx hy => by have := u143 x hx; have := u142 x hx; have := u44 y hy; have := u43 y hy; omega) k243
          have r254 := r235.keepA (fun x y hx hy => by have := u143 x hx; have := u142 x hx; have := u60 y hy; have := u59 y hy; omega) k243
          have r255 := r236.keepA (fun x y hx hy => by have := u143 x hx; have := u142 x hx; have := u76 y hy; have := u75 y hy; omega) k243
          have r256 := o225.keepA (fun x y hx hy => by have := u143 x hx; have := u142 x hx; have := u93 y hy; have := u92 y hy; omega) k243
          have r257 := r238.keepA (fun x y hx hy => by have := u143 x hx; have := u142 x hx; have := u166 y hy; have := u165 y hy; omega) k243
          have r258 := r239.keepA (fun x y hx hy => by have := u143 x hx; have := u142 x hx; have := u189 y hy; have := u188 y hy; omega) k243
          refine T_f8z_i ⟨_, o244.isL, ω0, ?_⟩
          refine Br.intro (fun c259 => ?_) (fun c259 => ?_)
          ·have e := e.trans (cond_t c259)
           have c_259' := of_decide_eq_true c259
           first | exact hk _ | (exfalso; cases e; done) | (rw [← e]; exact hk _)
          ·have e := e.trans (cond_f c259)
           have c_259' := of_decide_eq_false c259
           refine Br.intro (fun c260 => ?_) (fun c260 => ?_)
           ·have e := e.trans (cond_t c260)
            have c_260' := ine_t c260
            first | exact hk _ | (exfalso; cases e; done) | (rw [← e]; exact hk _)
           ·have e := e.trans (cond_f c260)
            have c_260' := ine_f c260
            refine ⟨pe, ac.length, qe, (o248.rdN (Nat.le_of_ble_eq_true rfl)).trans rfl, ?_⟩
            refine T_fnz_i ⟨_, (i_aList.grow g246), ω0, fun a261 n262 e263 H_17 g265 r264 => ?_⟩
            have l266 := g265.1
            have g267 := g246.trans g265
            have l268 := g267.1
            have o269 := o248.grow g265
            have w270 := o269.lt
            have o271 := o250.grow g265
            have w272 := o271.lt
            have r273 := r252.grow g265
            have r274 := r253.grow g265
            have r275 := r254.grow g265
            have r276 := r255.grow g265
            have r277 := r256.grow g265
            have r278 := o244.grow g265
            have r279 := r257.grow g265
            have r280 := r258.grow g265
            obtain rfl := r264.isL.eqn
            have u281 := r264.up
            have u282 := r264.lo
            refine T_f21z_i ⟨_, (i_aP_Low.grow g267), ω0, fun a284 n285 e286 H_18 g288 r287 => ?_⟩
            have l289 := g288.1
            have g290 := g267.trans g288
            have l291 := g290.1
            have o292 := o269.grow g288
            have w293 := o292.lt
            have o294 := o271.grow g288
            have w295 := o294.lt
            have r296 := r273.grow g288
            have r297 := r274.grow g288
            have r298 := r275.grow g288
            have r299 := r276.grow g288
            have r300 := r277.grow g288
            have r301 := r278.grow g288
            have r302 := r279.grow g288
            have r303 := r280.grow g288
            have r304 := r264.grow g288
            obtain rfl := r287.isL.eqn
            have u305 := r287.up
            have u306 := r287.lo
            refine T_f1dz_i ⟨_, _, r304.isL, r287.isL, ω0, ω0, fun a308 n309 e310 H_19 g313 r311 => ?_⟩
            have z312 := f1dz_len qc ac aLevels aHard
            have l314 := g313.1
            have g315 := g290.trans g313
            have l316 := g315.1
            have o317 := o292.grow g313
            have w318 := o317.lt
            have o319 := o294.grow g313
            have w320 := o319.lt
            have r321 := r296.grow g313
            have r322 := r297.grow g313
            have r323 := r298.grow g313
            have r324 := r299.grow g313
            have r325 := r300.grow g313
            have r326 := r301.grow g313
            have r327 := r302.grow g313
            have r328 := r303.grow g313
            have r329 := r304.grow g313
            have r330 := r287.grow g313
            obtain rfl := r311.isL.eqn
            have u331 := r311.up
            have u332 := r311.lo
            refine T_flz_i ⟨_, _, r311.isL, r323.isL, ω0, ω0, ?_⟩
            refine Br.intro (fun c334 => ?_) (fun c334 => ?_)
            ·have e := e.trans (cond_t c334)
             have c_334n := nf_of_t c334
             first | exact hk _ | (exfalso; cases e; done) | (rw [← e]; exact hk _)
            ·have e := e.trans (cond_f c334)
             have c_334n := nt_of_f c334
             refine Br.intro (fun c335 => ?_) (fun c335 => ?_)
             ·have e := e.trans (cond_t c335)
              have c_335n := nf_of_t c335
              first | exact hk _ | (exfalso; cases e; done) | (rw [← e]; exact hk _)
             ·have e := e.trans (cond_f c335)
              have c_335n := nt_of_f c335
              refine T_f8z_i ⟨_, r326.isL, ω0, ?_⟩
              refine Br.intro (fun c336 => ?_) (fun c336 => ?_)
              ·have e := e.trans (cond_t c336)
               have c_336' := of_decide_eq_true c336
               first | exact hk _ | (exfalso; cases e; done) | (rw [← e]; exact hk _)
              ·have e := e.trans (cond_f c336)
               have c_336' := of_decide_eq_false c336
               refine Br.intro (fun c337 => ?_) (fun c337 => ?_)
               ·have e := e.trans (cond_t c337)
                have c_337' := ine_t c337
                first | exact hk _ | (exfalso; cases e; done) | (rw [← e]; exact hk _)
               ·have e := e.trans (cond_f c337)
                have c_337' := ine_f c337
                first | exact hk _ | (exfalso; cases e; done) | (rw [← e]; exact hk _)
theorem laws_FnExactDenoise_ok : FnOk Try.prog 7 S_laws_FnExactDenoise := by
 refine FnOk.body mix_ok E_laws_FnExactDenoise_ok Try.func7 rfl ω15 ω15 ?_ ?_ ?_ ?_ ?_
 ·intro args H K K' h hk
  simp only [S_laws_FnExactDenoise] at *
  unfold F_laws_FnExactDenoise at *
  split at hk
  ·obtain ⟨qc, ac, h_0, h_1, h_2, h_3, h_4, h_5, h_6, k⟩ := hk
   exact ⟨qc, ac, h_0, h_1, h_2, h_3, h_4, h_5, h_6, (fun H' => h _ _ (k H'))⟩
  ·exact hk.elim
 ·intro hq; cases hq
 ·intro args H K hk
  simp only [S_laws_FnExactDenoise] at *
  unfold F_laws_FnExactDenoise at *
  split at hk
  ·obtain ⟨qc, ac, h_0, h_1, h_2, h_3, h_4, h_5, h_6, k⟩ := hk
   exact ⟨_, _, k []⟩
  ·exact hk.elim
 ·intro hq; cases hq
 ·have mm := @laws_FnExactDenoise_main
  have ml := fun (args : List Value) (H : AHeap) (K : Value → AHeap → Prop) => bodyL_body (P := Try.prog) (env := E_laws_FnExactDenoise ) (fn := Try.f7) (args := args) (H := H) (K := K) E_laws_FnExactDenoise_ok 
  revert mm ml
  generalize bodyK Try.prog E_laws_FnExactDenoise Try.f7 = Q
  generalize bodyL Try.prog E_laws_FnExactDenoise Try.f7 = QL
  intro mm ml args H K hk
  simp only [S_laws_FnExactDenoise] at *
  unfold F_laws_FnExactDenoise at *
  split at hk
  ·exact ml _ H K (mm _ _ _ _ _ _ _ _ H K hk)
  ·exact hk.elim
end Go.Proofs.Ytbnplefohfamnaa.Ai
