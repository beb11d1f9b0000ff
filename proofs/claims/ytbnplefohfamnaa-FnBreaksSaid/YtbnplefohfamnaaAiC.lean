/- The abstract machine and the world: operations on values. -/
import Derived.Test.YtbnplefohfamnaaAiB
set_option linter.unusedSimpArgs false
set_option linter.unusedVariables false
namespace Go.Proofs.Ytbnplefohfamnaa.Ai
open Go Go.RowKit

/-- A program of values comes to a value, and moves nothing but the tape. -/
def VOut (P : Program) (ρ : Ren) (s : Sem Value) (w : World) (K : Value → Prop) : Prop :=
  ∃ v, K v ∧ ∃ v' w', s.run P w = .ok v' w' ∧ VR ρ v v' ∧ Drew w w'

theorem VOut.plain {P : Program} {ρ : Ren} {s : Sem Value} {w : World} {K : Value → Prop} {v v' : Value} (hk : K v) (hr : s.run P w = .ok v' w) (hv : VR ρ v v') : VOut P ρ s w K :=
  ⟨v, hk, v', w, hr, hv, .refl w⟩

section
variable {P : Program} {ρ : Ren} {w : World}

theorem ikEq_eq {a b : IntKind} (h : ikEq a b = true) : a = b := by cases a <;> cases b <;> first | rfl | cases h
theorem fkEq_eq {a b : FloatKind} (h : fkEq a b = true) : a = b := by cases a <;> cases b <;> first | rfl | cases h
theorem chk_out {b : Bool} {p : Prop} (h : chk b p) : b = true ∧ p := by cases b <;> first | exact h.elim | exact ⟨rfl, h⟩

theorem run_nan (k : FloatKind) (x y : Nat) (o : Option Nat) (ho : ∀ r, o = some r → cn k r = r) (w : World) :
    ∃ r w', ((match o with | some r => pure (.float k r) | none => do pure (.float k (← choose (.nanBits k x y))) : Sem Value).run P w = .ok (.float k r) w') ∧ cn k r = o.getD (qnan k) ∧ Drew w w' := by
  cases o with
  | some r => exact ⟨r, w, rfl, ho r rfl, .refl w⟩
  | none => exact ⟨_, w.drew, rfl, cut_nanBits k x y _, .drew w⟩

theorem floatArith_run (op : BinOp) (k : FloatKind) (x y : Nat) (w : World) (o : Option Nat)
    (h : (op = .add ∧ o = k.format.add x y) ∨ (op = .sub ∧ o = k.format.sub x y) ∨ (op = .mul ∧ o = k.format.mul x y) ∨ (op = .quo ∧ o = k.format.div x y)) :
    ∃ r w', (Op.floatArith op k x y).run P w = .ok (.float k r) w' ∧ cn k r = o.getD (qnan k) ∧ Drew w w' := by
  rcases h with ⟨rfl, rfl⟩ | ⟨rfl, rfl⟩ | ⟨rfl, rfl⟩ | ⟨rfl, rfl⟩
  · exact run_nan k x y _ (fun r h => add_some h) w
  · exact run_nan k x y _ (fun r h => sub_some h) w
  · exact run_nan k x y _ (fun r h => mul_some h) w
  · exact run_nan k x y _ (fun r h => div_some h) w

theorem floatArith_out {op : BinOp} {k : FloatKind} {x y : Nat} {f : FloatKind → Nat → Nat → Nat} {o : Option Nat} (hf : f k (cn k x) (cn k y) = o.getD (qnan k))
    (h : (op = .add ∧ o = k.format.add x y) ∨ (op = .sub ∧ o = k.format.sub x y) ∨ (op = .mul ∧ o = k.format.mul x y) ∨ (op = .quo ∧ o = k.format.div x y))
    {K : Value → Prop} (hk : K (.float k (f k (cn k x) (cn k y)))) : VOut P ρ (Op.floatArith op k x y) w K := by
  obtain ⟨r, w', h1, h2, h3⟩ := floatArith_run (P := P) op k x y w o h
  exact ⟨_, hk, _, w', h1, .float k _ r (by rw [hf, h2]), h3⟩

theorem gt_swap (o : Option Ordering) : (o.map Ordering.swap == some .lt) = (o == some .gt) := by cases o with | none => rfl | some x => cases x <;> rfl
theorem eq_swap (o : Option Ordering) : (o.map Ordering.swap == some .eq) = (o == some .eq) := by cases o with | none => rfl | some x => cases x <;> rfl

def floatSem (op : BinOp) (k : FloatKind) (x y : Nat) : Sem Value :=
  match op with
  | .add | .sub | .mul | .quo => Op.floatArith op k x y
  | _ => Op.floatCmp op k x y
def intSem (op : BinOp) (k : IntKind) (x y : Int) : Sem Value :=
  match op with
  | .add | .sub | .mul => Op.intArith op k x y
  | .quo | .rem => Op.intDiv op k x y
  | .and | .or | .xor | .andNot => Op.intBits op k x y
  | _ => Op.intCmp op x y
def eqPlain : Value → Bool
  | .nilIface | .agg _ => false
  | _ => true

theorem floatBin_out {op : BinOp} {k : FloatKind} {x y : Nat} {K : Value → Prop} (h : floatBinK op k (cn k x) (cn k y) K) :
    VOut P ρ (floatSem op k x y) w K := by
  unfold floatBinK at h
  split at h
  · exact floatArith_out (f := fadd) (fadd_cn k x y) (.inl ⟨rfl, rfl⟩) h
  · exact floatArith_out (f := fsub) (fsub_cn k x y) (.inr (.inl ⟨rfl, rfl⟩)) h
  · exact floatArith_out (f := fmul) (fmul_cn k x y) (.inr (.inr (.inl ⟨rfl, rfl⟩))) h
  · exact floatArith_out (f := fdiv) (fdiv_cn k x y) (.inr (.inr (.inr ⟨rfl, rfl⟩))) h
  · exact .plain h (by simp [floatSem, Op.floatCmp, feq, order_cn] <;> rfl) (.bool _)
  · exact .plain h (by simp [floatSem, Op.floatCmp, feq, order_cn] <;> rfl) (.bool _)
  · exact .plain h (by simp [floatSem, Op.floatCmp, flt, order_cn]) (.bool _)
  · exact .plain h (by simp [floatSem, Op.floatCmp, fle, order_cn]) (.bool _)
  · exact .plain h (by simp [floatSem, Op.floatCmp, flt, order_cn, order_swap k x y, gt_swap]) (.bool _)
  · exact .plain h (by simp [floatSem, Op.floatCmp, fle, order_cn, order_swap k x y, gt_swap, eq_swap]) (.bool _)
  · exact h.elim

theorem intBin_out {op : BinOp} {k : IntKind} {x y : Int} {K : Value → Prop} (h : intBinK op k x y K) (hl : op ≠ .shl) (hr : op ≠ .shr) :
    VOut P ρ (intSem op k x y) w K := by
  cases op <;> simp only [intBinK] at h
  case add => exact .plain h rfl (.int _ _)
  case sub => exact .plain h rfl (.int _ _)
  case mul => exact .plain h rfl (.int _ _)
  case quo => exact .plain h.2 (by simp [intSem, Op.intDiv, h.1]) (.int _ _)
  case rem => exact .plain h.2 (by simp [intSem, Op.intDiv, h.1]) (.int _ _)
  case and => exact .plain h rfl (.int _ _)
  case or => exact .plain h rfl (.int _ _)
  case xor => exact .plain h rfl (.int _ _)
  case andNot => exact .plain h rfl (.int _ _)
  case eql => exact .plain h rfl (.bool _)
  case neq => exact .plain h rfl (.bool _)
  case lss => exact .plain h rfl (.bool _)
  case leq => exact .plain h rfl (.bool _)
  case gtr => exact .plain h rfl (.bool _)
  case geq => exact .plain h rfl (.bool _)

theorem binK_out {op : BinOp} {t : TypeId} {x y x' y' : Value} (ox oy : Operand) {K : Value → Prop} (h : binK P op t x y K) (hx : VR ρ x x') (hy : VR ρ y y') :
    VOut P ρ (do eqGuard op t ox oy x' y'; binOp op t x' y') w K := by
  have guard : ∀ a b : Value, eqPlain a = true → (eqGuard op t ox oy a b).run P w = .ok () w := by
    intro a b hab
    unfold eqGuard
    cases op <;> simp only [Bool.not_true, Bool.not_false, if_true, Bool.false_eq_true, if_false] <;> first | rfl | skip
    all_goals (split <;> first | cases hab | rfl)
  have go : VOut P ρ (binOp op t x' y') w K → eqPlain x' = true → VOut P ρ (do eqGuard op t ox oy x' y'; binOp op t x' y') w K := by
    rintro ⟨v, hk, v', w', hr, hv⟩ hg
    refine ⟨v, hk, v', w', ?_, hv⟩
    rw [Sem.run_bind, guard _ _ hg]
    exact hr
  cases hx with
  | int k a =>
    cases hy with
    | int k' b =>
      refine go ?_ rfl
      simp only [binK] at h
      split at h
      · have hb : ¬ b < 0 := by omega
        exact .plain h.2 (by simp [binOp, Op.shift, hb]) (.int _ _)
      · have hb : ¬ b < 0 := by omega
        exact .plain h.2 (by simp [binOp, Op.shift, hb]) (.int _ _)
      · rename_i h1 h2
        obtain ⟨hk, h9⟩ := chk_out h
        obtain rfl := ikEq_eq hk
        obtain ⟨v, hkv, v', w', hr, hv⟩ := intBin_out (P := P) (ρ := ρ) (w := w) h9 h1 h2
        refine ⟨v, hkv, v', w', ?_, hv⟩
        rw [← hr]
        cases op <;> first | exact (h1 rfl).elim | exact (h2 rfl).elim | simp [binOp, intSem]
    | _ => exact h.elim
  | float k a b e =>
    cases hy with
    | float k' a' b' e' =>
      refine go ?_ rfl
      simp only [binK] at h
      obtain ⟨hk, h9⟩ := chk_out h
      obtain rfl := fkEq_eq hk
      subst e; subst e'
      obtain ⟨v, hkv, v', w', hr, hv⟩ := floatBin_out (P := P) (ρ := ρ) (w := w) h9
      refine ⟨v, hkv, v', w', ?_, hv⟩
      rw [← hr]
      cases op <;> simp [binOp, floatSem]
    | _ => exact h.elim
  | bool a =>
    cases hy with
    | bool b =>
      refine go ?_ rfl
      simp only [binK] at h
      have key : P.underlying t = some .bool → (Op.equal t (.bool a) (.bool b)).run P w = .ok (a == b) w := by
        intro hu
        have : ∀ d, (Op.equalIn (d + 1) t (.bool a) (.bool b)).run P w = .ok (a == b) w := fun d => by simp [Op.equalIn, run_underlying hu]
        exact this 9999
      split at h
      · rename_i hu
        exact .plain h (by simp [binOp, key hu]) (.bool _)
      · rename_i hu
        exact .plain h (by simp [binOp, key hu]) (.bool _)
      · exact h.elim
    | _ => exact h.elim
  | string a =>
    cases hy with
    | string b =>
      refine go ?_ rfl
      simp only [binK] at h
      split at h
      · refine .plain h.2 ?_ (.string _)
        have h1 : ¬ (((a.size + b.size : Nat) : Int) > IntKind.i64.max) := by
          have : IntKind.i64.max = 2 ^ 63 - 1 := rfl
          omega
        simp only [binOp, Op.stringOp, if_neg h1]; rfl
      · exact .plain h (by simp [binOp, Op.stringOp]) (.bool _)
      · exact .plain h (by simp [binOp, Op.stringOp]) (.bool _)
      · exact h.elim
    | _ => exact h.elim
  | _ => exact h.elim

theorem unK_out {op : UnOp} {x x' : Value} {K : Value → Prop} (h : unK op x K) (hx : VR ρ x x') : VOut P ρ (Op.unary op x') w K := by
  cases hx <;> cases op <;> simp only [unK] at h <;> first | exact h.elim | skip
  · exact .plain h (by simp [Op.unary]) (.bool _)
  · exact .plain h (by simp [Op.unary, Op.intArith]) (.int _ _)
  · rename_i k a b e
    exact .plain h (by simp [Op.unary]; rfl) (.float k _ _ (by rw [e, cn_fneg]))
  · rename_i k a a' b b' e e'
    exact .plain h (by simp [Op.unary]; exact ⟨rfl, rfl⟩) (.complex k _ _ _ _ (by rw [e, cn_fneg]) (by rw [e', cn_fneg]))

theorem wide_run (b : Nat) (w : World) : ∃ r w', (Conv.floatToFloat .f32 b .f64).run P w = .ok (.float .f64 r) w' ∧ cn .f64 r = fwide (cn .f32 b) ∧ Drew w w' := by
  unfold Conv.floatToFloat
  rw [if_neg (by decide)]
  cases h : FloatKind.f32.decode b with
  | nan s t =>
    refine ⟨_, w.drew, rfl, ?_, .drew w⟩
    rw [cut_nanConv, cn_of_nan (by rw [h]; rfl)]
    have : ∀ s t, FloatKind.f32.decode (qnan .f32) = .nan s t → qnan .f64 = fwide (qnan .f32) := fun s t e => by unfold fwide; rw [e]
    obtain ⟨s', t', e⟩ := isNaN_spec _ (qnan_nan .f32)
    exact this s' t' e
  | infinity s =>
    refine ⟨_, w, rfl, ?_, .refl w⟩
    rw [cn_of_not_nan (k := .f32) (by rw [h]; rfl), cn_encode .f64 rfl]
    unfold fwide; rw [h]
  | number s m e =>
    refine ⟨FloatKind.f64.encode (.number s m e), w, ?_, ?_, .refl w⟩
    · simp only [widen_finite b s m e h, Bool.false_eq_true, if_false]; rfl
    · rw [cn_of_not_nan (k := .f32) (by rw [h]; rfl), cn_encode .f64 rfl]
      unfold fwide; rw [h]

theorem narrow_run (b r : Nat) (w : World) (hr : fnarrow (cn .f64 b) = some r) : ∃ r' w', (Conv.floatToFloat .f64 b .f32).run P w = .ok (.float .f32 r') w' ∧ r = cn .f32 r' ∧ Drew w w' := by
  unfold Conv.floatToFloat
  rw [if_neg (by decide)]
  cases h : FloatKind.f64.decode b with
  | nan s t =>
    refine ⟨_, w.drew, rfl, ?_, .drew w⟩
    rw [cut_nanConv]
    obtain ⟨s', t', e⟩ := isNaN_spec (FloatKind.f64.decode (cn .f64 b)) ((nan_cn .f64 b).trans (by rw [h]; rfl))
    unfold fnarrow at hr; rw [e] at hr
    exact (Option.some.inj hr).symm
  | infinity s =>
    refine ⟨_, w, rfl, ?_, .refl w⟩
    rw [cn_of_not_nan (k := .f64) (by rw [h]; rfl)] at hr
    unfold fnarrow at hr; rw [h] at hr
    rw [cn_encode .f32 rfl]; exact (Option.some.inj hr).symm
  | number s m e =>
    rw [cn_of_not_nan (k := .f64) (by rw [h]; rfl)] at hr
    unfold fnarrow at hr; rw [h] at hr
    simp only [] at hr
    split at hr
    · cases hr
    · rename_i hi
      refine ⟨FloatKind.f32.encode (.number s m e), w, ?_, ?_, .refl w⟩
      · simp only [hi, Bool.false_eq_true, if_false]; rfl
      · rw [cn_encode .f32 rfl]; exact (Option.some.inj hr).symm

end
end Go.Proofs.Ytbnplefohfamnaa.Ai
