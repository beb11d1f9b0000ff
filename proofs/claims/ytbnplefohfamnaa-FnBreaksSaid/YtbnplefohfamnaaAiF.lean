/- Words of floats up to the bits of a NaN: the operations do not tell one NaN from another, and give no NaN but the one. -/
import Derived.Test.YtbnplefohfamnaaAiA
import Derived.Laws.FloatArith
namespace Go.Proofs.Ytbnplefohfamnaa.Ai
open Go

theorem infRung_pos (f : Ieee.Format) : f.infRung < f.signWeight := f.infRung_lt

theorem read_word_not_nan (f : Ieee.Format) (s : Bool) {r : Nat} (h : r ≤ f.infRung) : (f.read (f.word s r)).isNaN = false := by
  have hlt := f.infRung_lt
  have e : f.word s r % f.signWeight = r := by
    unfold Ieee.Format.word
    split
    · rw [Nat.add_mod_left]; exact Nat.mod_eq_of_lt (by omega)
    · exact Nat.mod_eq_of_lt (by omega)
  unfold Ieee.Format.read
  simp only [e]
  split
  · rfl
  · split
    · rfl
    · split
      · rfl
      · exfalso; omega

theorem write_not_nan (f : Ieee.Format) {d : Ieee.Datum} (h : d.isNaN = false) : (f.read (f.write d)).isNaN = false := by
  cases d with
  | number s m e =>
    unfold Ieee.Format.write Ieee.Format.nearest
    simp only []
    split
    · exact read_word_not_nan f s (Nat.zero_le _)
    · exact read_word_not_nan f s (Nat.min_le_right _ _)
  | infinity s => exact read_word_not_nan f s (Nat.le_refl _)
  | nan s t => cases h

theorem cn_of_not_nan {k : FloatKind} {b : Nat} (h : (k.decode b).isNaN = false) : cn k b = b := by simp [cn, h]
theorem cn_of_nan {k : FloatKind} {b : Nat} (h : (k.decode b).isNaN = true) : cn k b = qnan k := by simp [cn, h]
theorem qnan_nan (k : FloatKind) : (k.decode (qnan k)).isNaN = true := by cases k <;> decide +kernel
theorem cn_qnan (k : FloatKind) : cn k (qnan k) = qnan k := cn_of_nan (qnan_nan k)
theorem nan_cn (k : FloatKind) (b : Nat) : (k.decode (cn k b)).isNaN = (k.decode b).isNaN := by
  cases h : (k.decode b).isNaN
  · rw [cn_of_not_nan h, h]
  · rw [cn_of_nan h, qnan_nan]
theorem cn_cn (k : FloatKind) (b : Nat) : cn k (cn k b) = cn k b := by
  cases h : (k.decode b).isNaN
  · rw [cn_of_not_nan h, cn_of_not_nan h]
  · rw [cn_of_nan h, cn_qnan]
theorem cn_encode (k : FloatKind) {d : Ieee.Datum} (h : d.isNaN = false) : cn k (k.encode d) = k.encode d := cn_of_not_nan (write_not_nan k.format h)

theorem isNaN_spec (d : Ieee.Datum) (h : d.isNaN = true) : ∃ s t, d = .nan s t := by
  cases d with
  | nan s t => exact ⟨s, t, rfl⟩
  | number s m e => cases h
  | infinity s => cases h

/-- An operation of two data that fails at a NaN and never gives one. -/
structure Sound2 (op : Ieee.Datum → Ieee.Datum → Option Ieee.Datum) : Prop where
  left : ∀ s t d, op (.nan s t) d = none
  right : ∀ s t d, op d (.nan s t) = none
  not_nan : ∀ d e r, op d e = some r → r.isNaN = false

theorem sound_sum : Sound2 Ieee.Datum.sum where
  left s t d := by cases d <;> rfl
  right s t d := by cases d <;> rfl
  not_nan d e r h := by
    cases d <;> cases e <;> simp only [Ieee.Datum.sum] at h
    all_goals (first | (cases h; done) | (cases h; rfl) | (split at h <;> cases h; rfl))
theorem sound_diff : Sound2 (fun d e => Ieee.Datum.sum d e.opposite) where
  left s t d := by cases d <;> rfl
  right s t d := by cases d <;> rfl
  not_nan d e r h := sound_sum.not_nan _ _ r h
theorem sound_product : Sound2 Ieee.Datum.product where
  left s t d := by cases d <;> rfl
  right s t d := by cases d <;> rfl
  not_nan d e r h := by
    cases d <;> cases e <;> simp only [Ieee.Datum.product] at h
    all_goals (first | (cases h; done) | (cases h; rfl) | (split at h <;> cases h; rfl))
theorem sound_quotient (n : Nat) : Sound2 (Ieee.Datum.quotient n) where
  left s t d := by cases d <;> rfl
  right s t d := by cases d <;> rfl
  not_nan d e r h := by
    cases d <;> cases e <;> simp only [Ieee.Datum.quotient] at h
    all_goals (first | (cases h; done) | (cases h; rfl) | skip)
    split at h
    · split at h
      · cases h
      · cases h; rfl
    · cases h; rfl

theorem op_cn {op : Ieee.Datum → Ieee.Datum → Option Ieee.Datum} (ho : Sound2 op) (k : FloatKind) (x y : Nat) :
    (op (k.format.read (cn k x)) (k.format.read (cn k y))).map k.format.write = (op (k.format.read x) (k.format.read y)).map k.format.write := by
  have key : ∀ x, (∃ s t, k.format.read x = .nan s t) ∧ (∃ s t, k.format.read (cn k x) = .nan s t) ∨ cn k x = x := by
    intro x
    cases h : (k.decode x).isNaN
    · exact .inr (cn_of_not_nan h)
    · exact .inl ⟨isNaN_spec _ h, isNaN_spec _ (by rw [← h]; exact nan_cn k x)⟩
  rcases key x with ⟨⟨s, t, e1⟩, s', t', e2⟩ | e
  · rw [e1, e2, ho.left, ho.left]
  · rw [e]
    rcases key y with ⟨⟨s, t, e1⟩, s', t', e2⟩ | e
    · rw [e1, e2, ho.right, ho.right]
    · rw [e]

theorem add_cn (k : FloatKind) (x y : Nat) : k.format.add (cn k x) (cn k y) = k.format.add x y := op_cn sound_sum k x y
theorem sub_cn (k : FloatKind) (x y : Nat) : k.format.sub (cn k x) (cn k y) = k.format.sub x y := op_cn sound_diff k x y
theorem mul_cn (k : FloatKind) (x y : Nat) : k.format.mul (cn k x) (cn k y) = k.format.mul x y := op_cn sound_product k x y
theorem div_cn (k : FloatKind) (x y : Nat) : k.format.div (cn k x) (cn k y) = k.format.div x y := op_cn (sound_quotient _) k x y

theorem some_cn {op : Ieee.Datum → Ieee.Datum → Option Ieee.Datum} (ho : Sound2 op) {k : FloatKind} {x y r : Nat}
    (h : (op (k.format.read x) (k.format.read y)).map k.format.write = some r) : cn k r = r := by
  cases hd : op (k.format.read x) (k.format.read y) with
  | none => rw [hd] at h; cases h
  | some d => rw [hd] at h; cases h; exact cn_encode k (ho.not_nan _ _ _ hd)
theorem add_some {k : FloatKind} {x y r : Nat} (h : k.format.add x y = some r) : cn k r = r := some_cn sound_sum h
theorem sub_some {k : FloatKind} {x y r : Nat} (h : k.format.sub x y = some r) : cn k r = r := some_cn sound_diff h
theorem mul_some {k : FloatKind} {x y r : Nat} (h : k.format.mul x y = some r) : cn k r = r := some_cn sound_product h
theorem div_some {k : FloatKind} {x y r : Nat} (h : k.format.div x y = some r) : cn k r = r := some_cn (sound_quotient _) h

theorem getD_cn {k : FloatKind} {o : Option Nat} (h : ∀ r, o = some r → cn k r = r) : cn k (o.getD (qnan k)) = o.getD (qnan k) := by
  cases o with
  | none => exact cn_qnan k
  | some r => exact h r rfl
theorem cn_fadd (k : FloatKind) (x y : Nat) : cn k (fadd k x y) = fadd k x y := getD_cn fun _ h => add_some h
theorem cn_fsub (k : FloatKind) (x y : Nat) : cn k (fsub k x y) = fsub k x y := getD_cn fun _ h => sub_some h
theorem cn_fmul (k : FloatKind) (x y : Nat) : cn k (fmul k x y) = fmul k x y := getD_cn fun _ h => mul_some h
theorem cn_fdiv (k : FloatKind) (x y : Nat) : cn k (fdiv k x y) = fdiv k x y := getD_cn fun _ h => div_some h
theorem fadd_cn (k : FloatKind) (x y : Nat) : fadd k (cn k x) (cn k y) = fadd k x y := by unfold fadd; rw [add_cn]
theorem fsub_cn (k : FloatKind) (x y : Nat) : fsub k (cn k x) (cn k y) = fsub k x y := by unfold fsub; rw [sub_cn]
theorem fmul_cn (k : FloatKind) (x y : Nat) : fmul k (cn k x) (cn k y) = fmul k x y := by unfold fmul; rw [mul_cn]
theorem fdiv_cn (k : FloatKind) (x y : Nat) : fdiv k (cn k x) (cn k y) = fdiv k x y := by unfold fdiv; rw [div_cn]

theorem order_nan_left (s : Bool) (t : Nat) (d : Ieee.Datum) : Ieee.Datum.order (.nan s t) d = none := by cases d <;> rfl
theorem order_nan_right (s : Bool) (t : Nat) (d : Ieee.Datum) : Ieee.Datum.order d (.nan s t) = none := by cases d <;> rfl
theorem order_cn (k : FloatKind) (x y : Nat) : k.format.order (cn k x) (cn k y) = k.format.order x y := by
  have key : ∀ x, (∃ s t, k.format.read x = .nan s t) ∧ (∃ s t, k.format.read (cn k x) = .nan s t) ∨ cn k x = x := by
    intro x
    cases h : (k.decode x).isNaN
    · exact .inr (cn_of_not_nan h)
    · exact .inl ⟨isNaN_spec _ h, isNaN_spec _ (by rw [← h]; exact nan_cn k x)⟩
  unfold Ieee.Format.order
  rcases key x with ⟨⟨s, t, e1⟩, s', t', e2⟩ | e
  · rw [e1, e2, order_nan_left, order_nan_left]
  · rw [e]
    rcases key y with ⟨⟨s, t, e1⟩, s', t', e2⟩ | e
    · rw [e1, e2, order_nan_right, order_nan_right]
    · rw [e]

theorem order_swap (k : FloatKind) (x y : Nat) : k.format.order y x = (k.format.order x y).map Ordering.swap := by
  have csw : ∀ a b : Int, compare a b = (compare b a).swap := fun a b => by
    rw [Int.compare_swap]
  have nsw : ∀ a b : Nat, compare a b = (compare b a).swap := fun a b => by rw [Nat.compare_swap]
  unfold Ieee.Format.order
  generalize k.format.read x = d
  generalize k.format.read y = e
  cases d <;> cases e <;> simp only [Ieee.Datum.order, Option.map_some, Option.map_none]
  · rename_i s m i t n j
    rw [csw, Int.min_comm]
  · rename_i s; cases s <;> rfl
  · rename_i s _ _ t; cases s <;> rfl
  · rename_i s t; rw [nsw]

/-- The bits that the tape gives for a NaN are those of a NaN. -/
theorem nan32 (t : Nat) : (FloatKind.f32.decode ((t % 2) * 2 ^ 31 + 0x7f800000 + 1 + (t / 2) % (2 ^ 23 - 1))).isNaN = true := by
  have h1 : t / 2 % (2 ^ 23 - 1) < 2 ^ 23 - 1 := Nat.mod_lt _ (by decide)
  have h2 : t % 2 < 2 := Nat.mod_lt _ (by decide)
  generalize t / 2 % (2 ^ 23 - 1) = q at *
  generalize t % 2 = s at *
  show (Ieee.Format.read Ieee.single _).isNaN = true
  unfold Ieee.Format.read
  have e : (s * 2 ^ 31 + 0x7f800000 + 1 + q) % Ieee.single.signWeight = 0x7f800001 + q := by
    show _ % 2 ^ 31 = _
    omega
  have b : Ieee.single.binade = 2 ^ 23 := rfl
  have i : Ieee.single.infRung = 0x7f800000 := rfl
  simp only [e, b, i]
  rw [if_neg (by omega), if_neg (by omega), if_neg (by omega)]
  rfl
theorem nan64 (t : Nat) : (FloatKind.f64.decode ((t % 2) * 2 ^ 63 + 0x7ff0000000000000 + 1 + (t / 2) % (2 ^ 52 - 1))).isNaN = true := by
  have h1 : t / 2 % (2 ^ 52 - 1) < 2 ^ 52 - 1 := Nat.mod_lt _ (by decide)
  have h2 : t % 2 < 2 := Nat.mod_lt _ (by decide)
  generalize t / 2 % (2 ^ 52 - 1) = q at *
  generalize t % 2 = s at *
  show (Ieee.Format.read Ieee.double _).isNaN = true
  unfold Ieee.Format.read
  have e : (s * 2 ^ 63 + 0x7ff0000000000000 + 1 + q) % Ieee.double.signWeight = 0x7ff0000000000001 + q := by
    show _ % 2 ^ 63 = _
    omega
  have b : Ieee.double.binade = 2 ^ 52 := rfl
  have i : Ieee.double.infRung = 0x7ff0000000000000 := rfl
  simp only [e, b, i]
  rw [if_neg (by omega), if_neg (by omega), if_neg (by omega)]
  rfl

theorem cut_nanBits (k : FloatKind) (x y t : Nat) : cn k ((Question.nanBits k x y).cut t) = qnan k := by
  cases k
  · exact cn_of_nan (nan32 t)
  · exact cn_of_nan (nan64 t)
theorem cut_nanConv (k : FloatKind) (x t : Nat) : cn k ((Question.nanConv k x).cut t) = qnan k := by
  cases k
  · exact cn_of_nan (nan32 t)
  · exact cn_of_nan (nan64 t)
theorem cut_nanMinMax (k : FloatKind) (m : Bool) (x y t : Nat) : cn k ((Question.nanMinMax k m x y).cut t) = qnan k := by
  cases k
  · exact cn_of_nan (nan32 t)
  · exact cn_of_nan (nan64 t)

/-! negation -/
theorem xor_mod (b n : Nat) : (b ^^^ 2 ^ n) % 2 ^ n = b % 2 ^ n := by
  rw [Nat.xor_mod_two_pow]; simp
theorem nan_iff (k : FloatKind) (b : Nat) : (k.decode b).isNaN = decide (k.format.infRung < b % k.format.signWeight) := by
  have hb : k.format.binade ≤ k.format.infRung := by cases k <;> decide
  show (k.format.read b).isNaN = _
  generalize k.format = f at *
  unfold Ieee.Format.read
  simp only []
  split
  · simp [Ieee.Datum.isNaN]; omega
  · split
    · simp [Ieee.Datum.isNaN]; omega
    · split
      · simp [Ieee.Datum.isNaN]; omega
      · simp [Ieee.Datum.isNaN]; omega
theorem nan_neg (k : FloatKind) (b : Nat) : (k.decode (Op.negFloat k b)).isNaN = (k.decode b).isNaN := by
  rw [nan_iff, nan_iff]
  have : Op.negFloat k b % k.format.signWeight = b % k.format.signWeight := xor_mod b _
  rw [this]
theorem cn_fneg (k : FloatKind) (b : Nat) : cn k (Op.negFloat k b) = fneg k (cn k b) := by
  unfold fneg
  rw [nan_cn]
  cases h : (k.decode b).isNaN
  · rw [cn_of_not_nan (by rw [nan_neg, h]), cn_of_not_nan h]; rfl
  · rw [cn_of_nan (by rw [nan_neg, h])]; rfl

/-! the kinds turned into one another -/
theorem cut_le (way : Ieee.Toward) (s : Bool) (n d : Nat) : way.cut s n d ≤ n + 1 := by
  unfold Ieee.Toward.cut
  simp only []
  have hb : ∀ c : Bool, c.toNat ≤ 1 := fun c => by cases c <;> decide
  exact Nat.add_le_add (Nat.div_le_self _ _) (hb _)
theorem widen_finite (b : Nat) (s : Bool) (m : Nat) (e : Int) (h : FloatKind.f32.decode b = .number s m e) :
    (FloatKind.f64.decode (FloatKind.f64.encode (.number s m e))).isInfinity = false := by
  have hm : m < 2 ^ 24 ∧ e ≤ 200 := by
    revert h
    show Ieee.Format.read Ieee.single b = _ → _
    unfold Ieee.Format.read
    have bi : Ieee.single.binade = 2 ^ 23 := rfl
    have ir : Ieee.single.infRung = 255 * 2 ^ 23 := rfl
    have lp : Ieee.single.leastPlace = -149 := rfl
    simp only [bi, ir, lp]
    generalize b % Ieee.single.signWeight = r
    split
    · intro h; cases h; omega
    · split
      · intro h; cases h
        have := Nat.mod_lt r (y := 2 ^ 23) (by decide)
        constructor
        · omega
        · have : r / 2 ^ 23 < 255 := Nat.div_lt_of_lt_mul (by omega)
          omega
      · split
        · intro h; cases h
        · intro h; cases h
  obtain ⟨hm, he⟩ := hm
  have key : ∀ r, r < Ieee.double.infRung → (Ieee.double.read (Ieee.double.word s r)).isInfinity = false := by
    intro r hr
    have hlt := Ieee.double.infRung_lt
    have e : Ieee.double.word s r % Ieee.double.signWeight = r := by
      unfold Ieee.Format.word
      split
      · rw [Nat.add_mod_left]; exact Nat.mod_eq_of_lt (by omega)
      · exact Nat.mod_eq_of_lt (by omega)
    unfold Ieee.Format.read
    simp only [e]
    split
    · rfl
    · rfl
  show (Ieee.double.read (Ieee.double.nearest s m e)).isInfinity = false
  unfold Ieee.Format.nearest
  split
  · exact key 0 (by decide)
  · rename_i hm0
    simp only []
    refine key _ ?_
    have lp : Ieee.double.leastPlace = -1074 := rfl
    have fb : (Ieee.double.fractionBits : Int) = 52 := rfl
    have bi : Ieee.double.binade = 2 ^ 52 := rfl
    have ir : Ieee.double.infRung = 2047 * 2 ^ 52 := rfl
    rw [lp, fb, bi, ir]
    have hl : m.log2 < 24 := (Nat.log2_lt hm0).2 hm
    generalize hlast : max (e + (m.log2 : Int) - 52) (-1074) = last
    have h1 : last ≤ 172 := by omega
    have h2 : -1074 ≤ last := by omega
    have h3 : e + (m.log2 : Int) - 52 ≤ last := by omega
    -- the kept part
    have hkept : Ieee.Toward.even.cut s (m <<< (e - last).toNat) (last - e).toNat ≤ 2 ^ 53 := by
      have hs : m <<< (e - last).toNat < 2 ^ 53 := by
        rw [Nat.shiftLeft_eq]
        have a1 : m < 2 ^ (m.log2 + 1) := Nat.lt_log2_self
        have a2 : m * 2 ^ (e - last).toNat < 2 ^ (m.log2 + 1) * 2 ^ (e - last).toNat := Nat.mul_lt_mul_of_pos_right a1 (Nat.two_pow_pos _)
        rw [← Nat.pow_add] at a2
        exact Nat.lt_of_lt_of_le a2 (Nat.pow_le_pow_right (by decide) (by omega))
      exact Nat.le_trans (cut_le _ _ _ _) hs
    have hq : (last - -1074).toNat ≤ 1246 := by omega
    have : (last - -1074).toNat * 2 ^ 52 ≤ 1246 * 2 ^ 52 := Nat.mul_le_mul_right _ hq
    have h9 : 1246 * 2 ^ 52 + 2 ^ 53 < 2047 * 2 ^ 52 := by decide
    exact Nat.lt_of_le_of_lt (Nat.min_le_left _ _) (Nat.lt_of_le_of_lt (Nat.add_le_add this hkept) h9)
theorem cn_fwide (b : Nat) : cn .f64 (fwide b) = fwide b := by
  unfold fwide
  cases h : FloatKind.f32.decode b with
  | nan s t => exact cn_qnan .f64
  | number s m e => exact cn_encode .f64 rfl
  | infinity s => exact cn_encode .f64 rfl
theorem cn_nearest (k : FloatKind) (n : Int) : cn k (k.nearest n) = k.nearest n := cn_encode k rfl
theorem ftoi_cn (s : FloatKind) (b : Nat) (k : IntKind) : ftoi s (cn s b) k = ftoi s b k := by
  cases h : (s.decode b).isNaN
  · rw [cn_of_not_nan h]
  · obtain ⟨x, y, e1⟩ := isNaN_spec _ h
    obtain ⟨x', y', e2⟩ := isNaN_spec (s.decode (cn s b)) ((nan_cn s b).trans h)
    unfold ftoi
    rw [e1, e2]
    rfl
end Go.Proofs.Ytbnplefohfamnaa.Ai
