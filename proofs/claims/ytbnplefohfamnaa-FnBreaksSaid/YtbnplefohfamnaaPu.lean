/- Rounding keeps the order against a number that the format has. -/
import Derived.Test.YtbnplefohfamnaaPh
set_option linter.unusedVariables false
namespace Go.Proofs.Ytbnplefohfamnaa.Ai
open Go
theorem near_le (k : FloatKind) (s : Bool) {m M T : Nat} {e : Int} (hM : k.format.binade ≤ M ∨ T = 0) (hM2 : M < 2 * k.format.binade)
    (h : m * 2 ^ (e - (k.format.leastPlace + T)).toNat ≤ M * 2 ^ (k.format.leastPlace + T - e).toNat) :
    ∃ r, k.format.nearest s m e = k.format.word s r ∧ r ≤ T * k.format.binade + M ∧ r ≤ k.format.infRung := by
  have hb : k.format.binade = 2 ^ k.format.fractionBits := rfl
  have hbp : 0 < k.format.binade := Nat.two_pow_pos _
  unfold Ieee.Format.nearest
  by_cases h0 : m = 0
  · rw [if_pos h0]; exact ⟨0, rfl, Nat.zero_le _, Nat.zero_le _⟩
  · rw [if_neg h0]
    refine ⟨_, rfl, Nat.le_trans (Nat.min_le_left _ _) ?_, Nat.min_le_right _ _⟩
    generalize hl : m.log2 = L
    have hlo : 2 ^ L ≤ m := by rw [← hl]; exact Nat.log2_self_le h0
    have hhi : m < 2 ^ (L + 1) := by rw [← hl]; exact Nat.lt_log2_self
    generalize k.format.leastPlace = lp at *
    rw [hb] at hM hM2 ⊢
    generalize k.format.fractionBits = fb at *
    have hexp : L + (e - (lp + T)).toNat ≤ fb + (lp + T - e).toNat := by
      have h1 : 2 ^ (L + (e - (lp + T)).toNat) < 2 ^ (fb + 1 + (lp + T - e).toNat) := by
        calc 2 ^ (L + (e - (lp + T)).toNat) = 2 ^ L * 2 ^ (e - (lp + T)).toNat := Nat.pow_add _ _ _
          _ ≤ m * 2 ^ (e - (lp + T)).toNat := Nat.mul_le_mul_right _ hlo
          _ ≤ M * 2 ^ (lp + T - e).toNat := h
          _ < (2 * 2 ^ fb) * 2 ^ (lp + T - e).toNat := Nat.mul_lt_mul_of_pos_right hM2 (Nat.two_pow_pos _)
          _ = 2 ^ (fb + 1 + (lp + T - e).toNat) := by rw [Nat.pow_add, Nat.pow_succ, Nat.mul_comm 2]
      have := (Nat.pow_lt_pow_iff_right (by decide : 1 < 2)).1 h1
      omega
    generalize hlast : max (e + (L : Int) - (fb : Int)) lp = last
    obtain ⟨Q, hQ⟩ : ∃ Q : Nat, last = lp + Q := ⟨(last - lp).toNat, by omega⟩
    have eQ : (last - lp).toNat = Q := by omega
    rw [eQ]
    have hQT : Q ≤ T := by omega
    by_cases hq : Q = T
    · subst hq
      rw [hQ]
      have hk : Ieee.Toward.even.cut s (m <<< (e - (lp + Q)).toNat) (lp + Q - e).toNat ≤ M := by
        apply cut_bound
        rw [Nat.shiftLeft_eq]; exact h
      omega
    · have hk : Ieee.Toward.even.cut s (m <<< (e - last).toNat) (last - e).toNat ≤ 2 ^ (fb + 1) := by
        apply cut_bound
        rw [Nat.shiftLeft_eq, ← Nat.pow_add]
        have h1 : m * 2 ^ (e - last).toNat ≤ 2 ^ (L + 1) * 2 ^ (e - last).toNat := Nat.mul_le_mul_right _ (by omega)
        rw [← Nat.pow_add] at h1
        exact Nat.le_trans h1 (Nat.pow_le_pow_right (by decide) (by omega))
      have h2 : (Q + 1) * 2 ^ fb ≤ T * 2 ^ fb := Nat.mul_le_mul_right _ (by omega)
      rw [Nat.add_mul, Nat.one_mul] at h2
      rw [Nat.pow_succ] at hk
      rcases hM with hM | hM
      · omega
      · omega
theorem near_ge (k : FloatKind) (s : Bool) {m M T : Nat} {e : Int} (hM : k.format.binade ≤ M ∨ T = 0) (hM0 : M ≠ 0) (hM2 : M < 2 * k.format.binade) (ht : T * k.format.binade + M ≤ k.format.infRung)
    (h : M * 2 ^ (k.format.leastPlace + T - e).toNat ≤ m * 2 ^ (e - (k.format.leastPlace + T)).toNat) :
    ∃ r, k.format.nearest s m e = k.format.word s r ∧ T * k.format.binade + M ≤ r ∧ r ≤ k.format.infRung := by
  have hb : k.format.binade = 2 ^ k.format.fractionBits := rfl
  have hbp : 0 < k.format.binade := Nat.two_pow_pos _
  have h0 : m ≠ 0 := by
    rintro rfl
    rw [Nat.zero_mul] at h
    have := Nat.mul_pos (Nat.pos_of_ne_zero hM0) (Nat.two_pow_pos (k.format.leastPlace + T - e).toNat)
    omega
  unfold Ieee.Format.nearest
  rw [if_neg h0]
  refine ⟨_, rfl, Nat.le_min.2 ⟨?_, ht⟩, Nat.min_le_right _ _⟩
  generalize hl : m.log2 = L
  have hlo : 2 ^ L ≤ m := by rw [← hl]; exact Nat.log2_self_le h0
  have hhi : m < 2 ^ (L + 1) := by rw [← hl]; exact Nat.lt_log2_self
  generalize k.format.leastPlace = lp at *
  rw [hb] at hM hM2 ⊢
  generalize k.format.fractionBits = fb at *
  clear ht
  generalize hlast : max (e + (L : Int) - (fb : Int)) lp = last
  obtain ⟨Q, hQ⟩ : ∃ Q : Nat, last = lp + Q := ⟨(last - lp).toNat, by omega⟩
  have eQ : (last - lp).toNat = Q := by omega
  rw [eQ]
  have hTQ : T ≤ Q := by
    rcases hM with hM | hM
    · have h1 : 2 ^ (fb + (lp + T - e).toNat) < 2 ^ (L + 1 + (e - (lp + T)).toNat) := by
        calc 2 ^ (fb + (lp + T - e).toNat) = 2 ^ fb * 2 ^ (lp + T - e).toNat := Nat.pow_add _ _ _
          _ ≤ M * 2 ^ (lp + T - e).toNat := Nat.mul_le_mul_right _ hM
          _ ≤ m * 2 ^ (e - (lp + T)).toNat := h
          _ < 2 ^ (L + 1) * 2 ^ (e - (lp + T)).toNat := Nat.mul_lt_mul_of_pos_right hhi (Nat.two_pow_pos _)
          _ = 2 ^ (L + 1 + (e - (lp + T)).toNat) := (Nat.pow_add _ _ _).symm
      have := (Nat.pow_lt_pow_iff_right (by decide : 1 < 2)).1 h1
      omega
    · omega
  by_cases hq : Q = T
  · subst hq
    rw [hQ]
    have hk : M ≤ Ieee.Toward.even.cut s (m <<< (e - (lp + Q)).toNat) (lp + Q - e).toNat := by
      apply cut_ge
      rw [Nat.shiftLeft_eq]; exact h
    omega
  · have hlast2 : last = e + (L : Int) - fb := by omega
    have hk : 2 ^ fb ≤ Ieee.Toward.even.cut s (m <<< (e - last).toNat) (last - e).toNat := by
      apply cut_ge
      rw [Nat.shiftLeft_eq, ← Nat.pow_add]
      refine Nat.le_trans ?_ (Nat.mul_le_mul_right _ hlo)
      rw [← Nat.pow_add]
      exact Nat.pow_le_pow_right (by decide) (by omega)
    have h2 : (T + 1) * 2 ^ fb ≤ Q * 2 ^ fb := Nat.mul_le_mul_right _ (by omega)
    rw [Nat.add_mul, Nat.one_mul] at h2
    omega

/-! ### the value of a rung -/
def rv (f : Ieee.Format) (r : Nat) : Nat := if r < f.binade then r else (f.binade + r % f.binade) * 2 ^ (r / f.binade - 1)
theorem rung_shape (f : Ieee.Format) (r : Nat) : ∃ M T : Nat, r = T * f.binade + M ∧ (f.binade ≤ M ∨ T = 0) ∧ M < 2 * f.binade ∧ rv f r = M * 2 ^ T := by
  have hbp : 0 < f.binade := Nat.two_pow_pos _
  unfold rv
  by_cases h : r < f.binade
  · exact ⟨r, 0, by omega, .inr rfl, by omega, by rw [if_pos h, Nat.pow_zero, Nat.mul_one]⟩
  · have h1 := Nat.div_add_mod r f.binade
    have h2 := Nat.mod_lt r hbp
    have h3 : 1 ≤ r / f.binade := (Nat.le_div_iff_mul_le hbp).2 (by omega)
    obtain ⟨c, hc⟩ : ∃ c, r / f.binade = c + 1 := ⟨r / f.binade - 1, by omega⟩
    refine ⟨f.binade + r % f.binade, r / f.binade - 1, ?_, .inl (Nat.le_add_right _ _), by omega, by rw [if_neg h]⟩
    rw [hc, Nat.add_sub_cancel]
    rw [hc, Nat.mul_add, Nat.mul_one, Nat.mul_comm] at h1
    omega
theorem rv_shape (f : Ieee.Format) {M T : Nat} (h : f.binade ≤ M ∨ T = 0) (h2 : M < 2 * f.binade) : rv f (T * f.binade + M) = M * 2 ^ T := by
  have hbp : 0 < f.binade := Nat.two_pow_pos _
  unfold rv
  by_cases hm : f.binade ≤ M
  · obtain ⟨c, rfl⟩ : ∃ c, M = f.binade + c := ⟨M - f.binade, by omega⟩
    have e : T * f.binade + (f.binade + c) = c + f.binade * (T + 1) := by rw [Nat.mul_add, Nat.mul_one, Nat.mul_comm f.binade T]; omega
    rw [if_neg (by rw [e, Nat.mul_add, Nat.mul_one]; omega), e, Nat.add_mul_mod_self_left, Nat.mod_eq_of_lt (by omega), Nat.add_mul_div_left _ _ hbp, Nat.div_eq_of_lt (by omega), Nat.zero_add, Nat.add_sub_cancel]
  · obtain rfl : T = 0 := h.resolve_left hm
    rw [Nat.zero_mul, Nat.zero_add, if_pos (by omega), Nat.pow_zero, Nat.mul_one]
theorem rv_succ (f : Ieee.Format) (r : Nat) : rv f r < rv f (r + 1) := by
  have hbp : 0 < f.binade := Nat.two_pow_pos _
  obtain ⟨M, T, hr, hM, hM2, hv⟩ := rung_shape f r
  rw [hv]
  by_cases hlast : M + 1 < 2 * f.binade
  · have hs : f.binade ≤ M + 1 ∨ T = 0 := hM.imp (fun h => by omega) id
    have := rv_shape f hs hlast
    rw [← Nat.add_assoc, ← hr] at this
    rw [this]
    exact Nat.mul_lt_mul_of_pos_right (by omega) (Nat.two_pow_pos _)
  · have := rv_shape f (M := f.binade) (T := T + 1) (.inl (Nat.le_refl _)) (by omega)
    rw [show (T + 1) * f.binade + f.binade = r + 1 by rw [Nat.add_mul, Nat.one_mul, hr]; omega] at this
    rw [this, Nat.pow_succ, Nat.mul_comm (2 ^ T) 2, ← Nat.mul_assoc]
    exact Nat.mul_lt_mul_of_pos_right (by omega) (Nat.two_pow_pos _)
theorem rv_lt (f : Ieee.Format) {a b : Nat} (h : a < b) : rv f a < rv f b := by
  induction b with
  | zero => omega
  | succ b ih =>
    by_cases hb : a < b
    · exact Nat.lt_trans (ih hb) (rv_succ f b)
    · obtain rfl : a = b := by omega
      exact rv_succ f a
theorem rv_le (f : Ieee.Format) {a b : Nat} : a ≤ b ↔ rv f a ≤ rv f b := by
  constructor
  · intro h
    by_cases e : a = b
    · subst e; exact Nat.le_refl _
    · exact Nat.le_of_lt (rv_lt f (by omega))
  · intro h
    by_cases c : a ≤ b
    · exact c
    · have := rv_lt f (show b < a by omega); omega
theorem exp_shift_le {m M T : Nat} {lp e : Int} : m * 2 ^ (e - lp).toNat ≤ (M * 2 ^ T) * 2 ^ (lp - e).toNat ↔ m * 2 ^ (e - (lp + T)).toNat ≤ M * 2 ^ (lp + T - e).toNat := by
  by_cases h1 : lp + T ≤ e
  · obtain ⟨c, hc⟩ : ∃ c : Nat, e = lp + T + c := ⟨(e - (lp + T)).toNat, by omega⟩
    rw [show (e - lp).toNat = c + T by omega, show (lp - e).toNat = 0 by omega, show (e - (lp + T)).toNat = c by omega, show (lp + T - e).toNat = 0 by omega, Nat.pow_add, Nat.pow_zero, Nat.mul_one, Nat.mul_one, ← Nat.mul_assoc]
    exact Nat.mul_le_mul_right_iff (Nat.two_pow_pos T)
  · by_cases h2 : lp ≤ e
    · obtain ⟨c, hc⟩ : ∃ c : Nat, e = lp + c := ⟨(e - lp).toNat, by omega⟩
      obtain ⟨d, hd⟩ : ∃ d : Nat, T = d + c := ⟨T - c, by omega⟩
      rw [show (e - lp).toNat = c by omega, show (lp - e).toNat = 0 by omega, show (e - (lp + T)).toNat = 0 by omega, show (lp + T - e).toNat = d by omega, hd, Nat.pow_add, Nat.pow_zero, Nat.mul_one, Nat.mul_one, ← Nat.mul_assoc]
      exact Nat.mul_le_mul_right_iff (Nat.two_pow_pos c)
    · obtain ⟨c, hc⟩ : ∃ c : Nat, lp = e + c := ⟨(lp - e).toNat, by omega⟩
      rw [show (e - lp).toNat = 0 by omega, show (lp - e).toNat = c by omega, show (e - (lp + T)).toNat = 0 by omega, show (lp + T - e).toNat = T + c by omega, Nat.pow_add, ← Nat.mul_assoc]
theorem exp_shift_ge {m M T : Nat} {lp e : Int} : (M * 2 ^ T) * 2 ^ (lp - e).toNat ≤ m * 2 ^ (e - lp).toNat ↔ M * 2 ^ (lp + T - e).toNat ≤ m * 2 ^ (e - (lp + T)).toNat := by
  by_cases h1 : lp + T ≤ e
  · obtain ⟨c, hc⟩ : ∃ c : Nat, e = lp + T + c := ⟨(e - (lp + T)).toNat, by omega⟩
    rw [show (e - lp).toNat = c + T by omega, show (lp - e).toNat = 0 by omega, show (e - (lp + T)).toNat = c by omega, show (lp + T - e).toNat = 0 by omega, Nat.pow_add, Nat.pow_zero, Nat.mul_one, Nat.mul_one, ← Nat.mul_assoc]
    exact Nat.mul_le_mul_right_iff (Nat.two_pow_pos T)
  · by_cases h2 : lp ≤ e
    · obtain ⟨c, hc⟩ : ∃ c : Nat, e = lp + c := ⟨(e - lp).toNat, by omega⟩
      obtain ⟨d, hd⟩ : ∃ d : Nat, T = d + c := ⟨T - c, by omega⟩
      rw [show (e - lp).toNat = c by omega, show (lp - e).toNat = 0 by omega, show (e - (lp + T)).toNat = 0 by omega, show (lp + T - e).toNat = d by omega, hd, Nat.pow_add, Nat.pow_zero, Nat.mul_one, Nat.mul_one, ← Nat.mul_assoc]
      exact Nat.mul_le_mul_right_iff (Nat.two_pow_pos c)
    · obtain ⟨c, hc⟩ : ∃ c : Nat, lp = e + c := ⟨(lp - e).toNat, by omega⟩
      rw [show (e - lp).toNat = 0 by omega, show (lp - e).toNat = c by omega, show (e - (lp + T)).toNat = 0 by omega, show (lp + T - e).toNat = T + c by omega, Nat.pow_add, ← Nat.mul_assoc]
/-- What is at most a number of the format, rounds to at most that number. -/
theorem nearest_le (k : FloatKind) (s : Bool) {m r : Nat} {e : Int} (h : m * 2 ^ (e - k.format.leastPlace).toNat ≤ rv k.format r * 2 ^ (k.format.leastPlace - e).toNat) :
    ∃ r', k.format.nearest s m e = k.format.word s r' ∧ r' ≤ r ∧ r' ≤ k.format.infRung := by
  obtain ⟨M, T, hr, hM, hM2, hv⟩ := rung_shape k.format r
  rw [hv] at h
  rw [hr]
  exact near_le k s hM hM2 (exp_shift_le.1 h)
theorem nearest_ge (k : FloatKind) (s : Bool) {m r : Nat} {e : Int} (hr0 : r ≠ 0) (hi : r ≤ k.format.infRung) (h : rv k.format r * 2 ^ (k.format.leastPlace - e).toNat ≤ m * 2 ^ (e - k.format.leastPlace).toNat) :
    ∃ r', k.format.nearest s m e = k.format.word s r' ∧ r ≤ r' ∧ r' ≤ k.format.infRung := by
  have hbp : 0 < k.format.binade := Nat.two_pow_pos _
  obtain ⟨M, T, hr, hM, hM2, hv⟩ := rung_shape k.format r
  rw [hv] at h
  rw [hr] at hi ⊢
  refine near_ge k s hM ?_ hM2 hi (exp_shift_ge.1 h)
  rintro rfl
  rcases hM with hM | hM
  · omega
  · subst hM; apply hr0; rw [hr]; simp

/-! ### a little less than a number of the format is rounded up to it -/
theorem cut_ge_up (s : Bool) (n d M : Nat) (hM : 1 ≤ M) (h : (8 * M - 3) * 2 ^ d ≤ 8 * n) : M ≤ Ieee.Toward.even.cut s n d := by
  by_cases hbig : M * 2 ^ d ≤ n
  · exact cut_ge s n d M hbig
  · have hpd := Nat.two_pow_pos d
    have hd : d ≤ n.log2 + 2 := by
      by_cases c : d ≤ n.log2 + 2
      · exact c
      · exfalso
        have h1 : n < 2 ^ (n.log2 + 1) := Nat.lt_log2_self
        have h2 : 2 ^ (n.log2 + 3) ≤ 2 ^ d := Nat.pow_le_pow_right (by decide) (by omega)
        rw [show n.log2 + 3 = n.log2 + 1 + 2 by omega, Nat.pow_add] at h2
        have h3 : 5 * 2 ^ d ≤ (8 * M - 3) * 2 ^ d := Nat.mul_le_mul_right _ (by omega)
        omega
    unfold Ieee.Toward.cut
    simp only []
    have hg : 1 <<< min d (n.log2 + 2) = 2 ^ d := by rw [Nat.shiftLeft_eq, Nat.one_mul, Nat.min_eq_left hd]
    rw [hg]
    obtain ⟨c, rfl⟩ : ∃ c, M = c + 1 := ⟨M - 1, by omega⟩
    have h5 : (8 * c + 5) * 2 ^ d ≤ 8 * n := by rw [show 8 * (c + 1) - 3 = 8 * c + 5 by omega] at h; exact h
    rw [Nat.add_mul, Nat.mul_assoc] at h5
    rw [Nat.add_mul, Nat.one_mul] at hbig
    have hq : n / 2 ^ d = c := by
      apply Nat.div_eq_of_lt_le
      · omega
      · rw [Nat.add_mul, Nat.one_mul]; omega
    have h1 := Nat.div_add_mod n (2 ^ d)
    rw [hq, Nat.mul_comm] at h1
    rw [hq]
    generalize 2 ^ d = G at *
    generalize n % G = R at *
    rw [decide_eq_true (show G < 2 * R by omega), Bool.true_or]
    exact Nat.le_refl _
theorem near_up' (k : FloatKind) (s : Bool) {m M T : Nat} {e : Int} (hM : k.format.binade < M) (hM2 : M < 2 * k.format.binade) (ht : T * k.format.binade + M ≤ k.format.infRung)
    (h : (8 * M - 3) * 2 ^ (k.format.leastPlace + T - e).toNat ≤ 8 * m * 2 ^ (e - (k.format.leastPlace + T)).toNat) :
    ∃ r, k.format.nearest s m e = k.format.word s r ∧ T * k.format.binade + M ≤ r ∧ r ≤ k.format.infRung := by
  have hb : k.format.binade = 2 ^ k.format.fractionBits := rfl
  have hbp : 0 < k.format.binade := Nat.two_pow_pos _
  have h0 : m ≠ 0 := by
    rintro rfl
    rw [Nat.mul_zero, Nat.zero_mul] at h
    have := Nat.mul_pos (show 0 < 8 * M - 3 by omega) (Nat.two_pow_pos (k.format.leastPlace + T - e).toNat)
    omega
  unfold Ieee.Format.nearest
  rw [if_neg h0]
  refine ⟨_, rfl, Nat.le_min.2 ⟨?_, ht⟩, Nat.min_le_right _ _⟩
  generalize hl : m.log2 = L
  have hlo : 2 ^ L ≤ m := by rw [← hl]; exact Nat.log2_self_le h0
  have hhi : m < 2 ^ (L + 1) := by rw [← hl]; exact Nat.lt_log2_self
  generalize k.format.leastPlace = lp at *
  rw [hb] at hM hM2 ⊢
  generalize k.format.fractionBits = fb at *
  clear ht
  generalize hlast : max (e + (L : Int) - (fb : Int)) lp = last
  obtain ⟨Q, hQ⟩ : ∃ Q : Nat, last = lp + Q := ⟨(last - lp).toNat, by omega⟩
  have eQ : (last - lp).toNat = Q := by omega
  rw [eQ]
  have hTQ : T ≤ Q := by
    have h1 : 2 ^ (fb + 3 + (lp + T - e).toNat) < 2 ^ (L + 4 + (e - (lp + T)).toNat) := by
      calc 2 ^ (fb + 3 + (lp + T - e).toNat) = (8 * 2 ^ fb) * 2 ^ (lp + T - e).toNat := by rw [Nat.pow_add, Nat.pow_add, Nat.mul_comm 8]
        _ ≤ (8 * M - 3) * 2 ^ (lp + T - e).toNat := Nat.mul_le_mul_right _ (by omega)
        _ ≤ 8 * m * 2 ^ (e - (lp + T)).toNat := h
        _ < (8 * 2 ^ (L + 1)) * 2 ^ (e - (lp + T)).toNat := Nat.mul_lt_mul_of_pos_right (by omega) (Nat.two_pow_pos _)
        _ = 2 ^ (L + 4 + (e - (lp + T)).toNat) := by rw [Nat.pow_add 2 (L + 4), show L + 4 = (L + 1) + 3 by omega, Nat.pow_add 2 (L + 1) 3, Nat.mul_comm 8]
    have := (Nat.pow_lt_pow_iff_right (by decide : 1 < 2)).1 h1
    omega
  by_cases hq : Q = T
  · subst hq
    rw [hQ]
    have hk : M ≤ Ieee.Toward.even.cut s (m <<< (e - (lp + Q)).toNat) (lp + Q - e).toNat := by
      apply cut_ge_up _ _ _ _ (by omega)
      rw [Nat.shiftLeft_eq, ← Nat.mul_assoc]; exact h
    omega
  · have hlast2 : last = e + (L : Int) - fb := by omega
    have hk : 2 ^ fb ≤ Ieee.Toward.even.cut s (m <<< (e - last).toNat) (last - e).toNat := by
      apply cut_ge
      rw [Nat.shiftLeft_eq, ← Nat.pow_add]
      refine Nat.le_trans ?_ (Nat.mul_le_mul_right _ hlo)
      rw [← Nat.pow_add]
      exact Nat.pow_le_pow_right (by decide) (by omega)
    have h2 : (T + 1) * 2 ^ fb ≤ Q * 2 ^ fb := Nat.mul_le_mul_right _ (by omega)
    rw [Nat.add_mul, Nat.one_mul] at h2
    omega
/-- The whole root. -/
theorem root_ge (n C : Nat) (hC : C * C ≤ n) : ∀ (t r : Nat), r ≤ C → C < r + 2 ^ t → C ≤ Ieee.Datum.rootFrom n t r := by
  intro t
  induction t with
  | zero => intro r h1 h2; show C ≤ r; omega
  | succ t ih =>
    intro r h1 h2
    unfold Ieee.Datum.rootFrom
    simp only []
    rw [Nat.shiftLeft_eq, Nat.one_mul]
    rw [Nat.pow_succ] at h2
    split
    · rename_i h
      by_cases hc : r + 2 ^ t ≤ C
      · exact ih _ hc (by omega)
      · have : ∀ (t r : Nat), r ≤ Ieee.Datum.rootFrom n t r := by
          intro t
          induction t with
          | zero => intro r; exact Nat.le_refl _
          | succ t ih2 =>
            intro r
            unfold Ieee.Datum.rootFrom
            simp only []
            split
            · exact Nat.le_trans (Nat.le_add_right _ _) (ih2 _)
            · exact ih2 _
        exact Nat.le_trans (by omega) (this t (r + 2 ^ t))
    · rename_i h
      refine ih _ h1 ?_
      apply Classical.byContradiction
      intro hc
      exact h (Nat.le_trans (Nat.mul_le_mul (by omega) (by omega)) hC)
theorem whole_ge {n C : Nat} (hC : C * C ≤ n) : C ≤ Ieee.Datum.rootFrom n (n.log2 / 2 + 1) 0 := by
  refine root_ge n C hC _ _ (Nat.zero_le _) ?_
  rw [Nat.zero_add]
  apply Classical.byContradiction
  intro hc
  have h1 : 2 ^ (n.log2 / 2 + 1) * 2 ^ (n.log2 / 2 + 1) ≤ n := Nat.le_trans (Nat.mul_le_mul (by omega) (by omega)) hC
  rw [← Nat.pow_add] at h1
  have h2 : n < 2 ^ (n.log2 + 1) := Nat.lt_log2_self
  have h3 : 2 ^ (n.log2 + 1) ≤ 2 ^ (n.log2 / 2 + 1 + (n.log2 / 2 + 1)) := Nat.pow_le_pow_right (by decide) (by omega)
  omega

theorem sq_aux {M m u mo d2 : Nat} (h : M * M * 2 ^ u ≤ m) (e : d2 = u + mo) : M * M * 2 ^ d2 ≤ m * 2 ^ mo := by
  rw [e, Nat.pow_add, ← Nat.mul_assoc]; exact Nat.mul_le_mul_right _ h
theorem sq_aux2 {M m v mo d2 : Nat} (h : M * M ≤ m * 2 ^ v) (e : d2 + v = mo) : M * M * 2 ^ d2 ≤ m * 2 ^ mo := by
  rw [← e, Nat.add_comm, Nat.pow_add, ← Nat.mul_assoc]; exact Nat.mul_le_mul_right _ h
theorem sqrt_near {X m M T : Nat} {i : Int} (hr : FloatKind.f64.format.read X = .number false m i) (hm : m ≠ 0) (hM : FloatKind.f64.format.binade ≤ M ∨ T = 0) (hM0 : M ≠ 0) (hM2 : M < 2 * FloatKind.f64.format.binade)
    (ht : T * FloatKind.f64.format.binade + M ≤ FloatKind.f64.format.infRung)
    (h : M * M * 2 ^ (2 * (FloatKind.f64.format.leastPlace + T) - i).toNat ≤ m * 2 ^ (i - 2 * (FloatKind.f64.format.leastPlace + T)).toNat) :
    ∃ r, fsqrt .f64 X = FloatKind.f64.format.word false r ∧ T * FloatKind.f64.format.binade + M ≤ r ∧ r ≤ FloatKind.f64.format.infRung := by
  unfold fsqrt Ieee.Format.sqrt
  rw [hr]
  unfold Ieee.Datum.root
  simp only [hm, if_false, Bool.false_eq_true]
  generalize hmo : 2 * (FloatKind.f64.format.fractionBits + 2) - m.log2 + ((i - ((2 * (FloatKind.f64.format.fractionBits + 2) - m.log2 : Nat) : Int)) % 2).toNat = mo
  have hfb : FloatKind.f64.format.fractionBits = 52 := rfl
  rw [hfb] at hmo
  obtain ⟨g, hg⟩ : ∃ g : Int, i - (mo : Int) = 2 * g := ⟨(i - (mo : Int)) / 2, by omega⟩
  have e1 : (i - (mo : Int)) / 2 = g := by omega
  rw [e1]
  show ∃ r, FloatKind.f64.format.nearest false _ (g - 1) = _ ∧ _
  have h108 : 2 ^ 54 * 2 ^ 54 ≤ m <<< mo := by
    rw [← Nat.pow_add, Nat.shiftLeft_eq]
    refine Nat.le_trans ?_ (Nat.mul_le_mul_right _ (Nat.log2_self_le hm))
    rw [← Nat.pow_add]
    exact Nat.pow_le_pow_right (by decide) (by omega)
  have hw := whole_ge h108
  have hMw : FloatKind.f64.format.leastPlace + T < g → M ≤ Ieee.Datum.rootFrom (m <<< mo) ((m <<< mo).log2 / 2 + 1) 0 := fun _ => by
    have e2 : FloatKind.f64.format.binade = 2 ^ 52 := rfl
    rw [e2] at hM2
    exact Nat.le_trans (by omega) hw
  have hC : ∀ d : Nat, FloatKind.f64.format.leastPlace + T = g + d → M * 2 ^ d ≤ Ieee.Datum.rootFrom (m <<< mo) ((m <<< mo).log2 / 2 + 1) 0 := by
    intro d hd
    apply whole_ge
    rw [Nat.shiftLeft_eq]
    have e3 : M * 2 ^ d * (M * 2 ^ d) = M * M * 2 ^ (d + d) := by
      rw [Nat.pow_add, Nat.mul_assoc, Nat.mul_assoc, Nat.mul_left_comm (2 ^ d)]
    rw [e3]
    by_cases hi : i ≤ 2 * (FloatKind.f64.format.leastPlace + T)
    · rw [show (i - 2 * (FloatKind.f64.format.leastPlace + T)).toNat = 0 by omega, Nat.pow_zero, Nat.mul_one] at h
      exact sq_aux h (by omega)
    · rw [show (2 * (FloatKind.f64.format.leastPlace + T) - i).toNat = 0 by omega, Nat.pow_zero, Nat.mul_one] at h
      exact sq_aux2 h (by omega)
  generalize Ieee.Datum.rootFrom (m <<< mo) ((m <<< mo).log2 / 2 + 1) 0 = W at *
  refine near_ge .f64 false hM hM0 hM2 ht ?_
  by_cases hc : FloatKind.f64.format.leastPlace + T < g
  · have := hMw hc
    rw [show (FloatKind.f64.format.leastPlace + (T : Int) - (g - 1)).toNat = 0 by omega, Nat.pow_zero, Nat.mul_one]
    refine Nat.le_trans ?_ (Nat.le_mul_of_pos_right _ (Nat.two_pow_pos _))
    omega
  · obtain ⟨d, hd⟩ : ∃ d : Nat, FloatKind.f64.format.leastPlace + T = g + d := ⟨(FloatKind.f64.format.leastPlace + T - g).toNat, by omega⟩
    have := hC d hd
    rw [show (FloatKind.f64.format.leastPlace + (T : Int) - (g - 1)).toNat = d + 1 by omega, show ((g - 1) - (FloatKind.f64.format.leastPlace + (T : Int))).toNat = 0 by omega, Nat.pow_zero, Nat.mul_one, Nat.pow_succ, ← Nat.mul_assoc]
    omega

/-! ### numbers with places -/
def Le2 (A : Nat) (a : Int) (B : Nat) (b : Int) : Prop := A * 2 ^ (a - b).toNat ≤ B * 2 ^ (b - a).toNat
theorem le2_at {A B : Nat} {a b : Int} (c : Int) (ha : c ≤ a) (hb : c ≤ b) : Le2 A a B b ↔ A * 2 ^ (a - c).toNat ≤ B * 2 ^ (b - c).toNat := by
  unfold Le2
  by_cases h : a ≤ b
  · obtain ⟨x, hx⟩ : ∃ x : Nat, a = c + x := ⟨(a - c).toNat, by omega⟩
    obtain ⟨y, hy⟩ : ∃ y : Nat, b = a + y := ⟨(b - a).toNat, by omega⟩
    rw [show (a - b).toNat = 0 by omega, show (b - a).toNat = y by omega, show (a - c).toNat = x by omega, show (b - c).toNat = y + x by omega, Nat.pow_zero, Nat.mul_one, Nat.pow_add, ← Nat.mul_assoc]
    exact (Nat.mul_le_mul_right_iff (Nat.two_pow_pos x)).symm
  · obtain ⟨x, hx⟩ : ∃ x : Nat, b = c + x := ⟨(b - c).toNat, by omega⟩
    obtain ⟨y, hy⟩ : ∃ y : Nat, a = b + y := ⟨(a - b).toNat, by omega⟩
    rw [show (b - a).toNat = 0 by omega, show (a - b).toNat = y by omega, show (b - c).toNat = x by omega, show (a - c).toNat = y + x by omega, Nat.pow_zero, Nat.mul_one, Nat.pow_add, ← Nat.mul_assoc]
    exact (Nat.mul_le_mul_right_iff (Nat.two_pow_pos x)).symm
theorem Le2.trans {A B C : Nat} {a b c : Int} (h1 : Le2 A a B b) (h2 : Le2 B b C c) : Le2 A a C c := by
  obtain ⟨m, h3, h4, h5⟩ : ∃ m : Int, m ≤ a ∧ m ≤ b ∧ m ≤ c := ⟨min a (min b c), by omega, by omega, by omega⟩
  rw [le2_at m h3 h4] at h1
  rw [le2_at m h4 h5] at h2
  rw [le2_at m h3 h5]
  exact Nat.le_trans h1 h2
theorem Le2.same {A B : Nat} {a : Int} (h : A ≤ B) : Le2 A a B a := by unfold Le2; exact Nat.mul_le_mul_right _ h
theorem le2_pow {A n : Nat} {a b : Int} (h : a + n = b) : Le2 (A * 2 ^ n) a A b ∧ Le2 A b (A * 2 ^ n) a := by
  subst h
  constructor
  · rw [le2_at a (Int.le_refl _) (by omega), show (a - a).toNat = 0 by omega, show (a + n - a).toNat = n by omega, Nat.pow_zero, Nat.mul_one]
    exact Nat.le_refl _
  · rw [le2_at a (by omega) (Int.le_refl _), show (a - a).toNat = 0 by omega, show (a + n - a).toNat = n by omega, Nat.pow_zero, Nat.mul_one]
    exact Nat.le_refl _
theorem Le2.mul {A B c : Nat} {a b : Int} (h : Le2 A a B b) : Le2 (c * A) a (c * B) b := by
  unfold Le2 at *
  rw [Nat.mul_assoc, Nat.mul_assoc]; exact Nat.mul_le_mul_left _ h
/-- The error of a cut is at most a half. -/
theorem cut_half (s : Bool) (n d : Nat) (hd : d ≤ n.log2 + 2) : 2 * n ≤ 2 * (Ieee.Toward.even.cut s n d * 2 ^ d) + 2 ^ d := by
  unfold Ieee.Toward.cut
  simp only []
  have hg : 1 <<< min d (n.log2 + 2) = 2 ^ d := by rw [Nat.shiftLeft_eq, Nat.one_mul, Nat.min_eq_left hd]
  rw [hg]
  have h1 := Nat.div_add_mod n (2 ^ d)
  have hp := Nat.two_pow_pos d
  have h2 := Nat.mod_lt n hp
  rw [Nat.mul_comm] at h1
  generalize 2 ^ d = G at *
  generalize n % G = R at *
  by_cases h : G < 2 * R
  · rw [decide_eq_true h, Bool.true_or]
    show 2 * n ≤ 2 * ((n / G + 1) * G) + G
    rw [Nat.add_mul, Nat.one_mul]; omega
  · refine Nat.le_trans (show 2 * n ≤ 2 * (n / G * G) + G by omega) ?_
    refine Nat.add_le_add_right (Nat.mul_le_mul_left _ (Nat.mul_le_mul_right _ (Nat.le_add_right _ _))) _
/-- A wide word has the same value. -/
theorem wide_read {E m : Nat} {i : Int} (hr : FloatKind.f32.format.read E = .number false m i) (hm : m ≠ 0) : ∃ d : Nat, FloatKind.f64.format.read (fwide E) = .number false (m * 2 ^ d) (i - d) := by
  have hd : FloatKind.f32.decode E = .number false m i := hr
  have hlt := read_mant hr
  have hpl := read_place hr
  have e32 : FloatKind.f32.format.binade = 2 ^ 23 := rfl
  have e64 : FloatKind.f64.format.binade = 2 ^ 52 := rfl
  have l32 : FloatKind.f32.format.leastPlace = -149 := by decide
  have l64 : FloatKind.f64.format.leastPlace = -1074 := by decide
  rw [e32] at hlt
  have hlg : m.log2 ≤ 23 := by
    have := (Nat.log2_lt hm).2 (show m < 2 ^ 24 by omega)
    omega
  have hhi : i ≤ 104 := by
    unfold Ieee.Format.read at hr
    simp only [] at hr
    split at hr
    · obtain ⟨-, -, h9⟩ := Ieee.Datum.number.inj hr
      rw [l32] at h9; omega
    · split at hr
      · rename_i h1 h2
        have e3 : FloatKind.f32.format.infRung = 255 * 2 ^ 23 := by decide
        rw [e3] at h2
        have h3 : E % FloatKind.f32.format.signWeight / FloatKind.f32.format.binade < 255 := by
          rw [e32]; exact Nat.div_lt_of_lt_mul (by omega)
        obtain ⟨-, -, h9⟩ := Ieee.Datum.number.inj hr
        rw [l32] at h9
        omega
      · split at hr <;> cases hr
  obtain ⟨d, hd2⟩ : ∃ d : Nat, 52 = m.log2 + d := ⟨52 - m.log2, by omega⟩
  have m1 : 2 ^ 52 ≤ m <<< d := by
    rw [hd2, Nat.shiftLeft_eq, Nat.pow_add]; exact Nat.mul_le_mul_right _ (Nat.log2_self_le hm)
  have m2 : m <<< d < 2 * 2 ^ 52 := by
    have a1 : m < 2 ^ (m.log2 + 1) := Nat.lt_log2_self
    rw [hd2, Nat.shiftLeft_eq, Nat.pow_add]
    calc m * 2 ^ d < 2 ^ (m.log2 + 1) * 2 ^ d := Nat.mul_lt_mul_of_pos_right a1 (Nat.two_pow_pos d)
      _ = 2 * (2 ^ m.log2 * 2 ^ d) := by rw [Nat.pow_succ, Nat.mul_comm (2 ^ m.log2) 2, Nat.mul_assoc]
  rw [l32] at hpl
  obtain ⟨q, hq⟩ : ∃ q : Nat, i - d = -1074 + q := ⟨(i - d + 1074).toNat, by omega⟩
  have e3 : FloatKind.f64.format.infRung = 2047 * 2 ^ 52 := by decide
  refine ⟨d, ?_⟩
  unfold fwide
  rw [hd]
  show FloatKind.f64.format.read (FloatKind.f64.format.nearest false m i) = _
  have e : FloatKind.f64.format.nearest false m i = FloatKind.f64.format.nearest false (m <<< d) (FloatKind.f64.format.leastPlace + (q : Int)) := by
    rw [nearest_shift]; congr 1; omega
  have hq2 : (q + 2) * 2 ^ 52 ≤ 2047 * 2 ^ 52 := Nat.mul_le_mul_right _ (by omega)
  rw [Nat.add_mul] at hq2
  rw [e, nearest_norm _ _ _ _ (by rw [e64]; exact m1) (by rw [e64]; exact m2) (by rw [e64, e3]; omega), read_norm .f64 false _ q (by rw [e64]; exact m1) (by rw [e64]; exact m2) (by rw [e64, e3]; omega), Nat.shiftLeft_eq, l64, ← hq]

theorem l32 : FloatKind.f32.format.leastPlace = -149 := by decide
theorem l64 : FloatKind.f64.format.leastPlace = -1074 := by decide
theorem b32 : FloatKind.f32.format.binade = 2 ^ 23 := rfl
theorem b64 : FloatKind.f64.format.binade = 2 ^ 52 := rfl
theorem i32 : FloatKind.f32.format.infRung = 255 * 2 ^ 23 := by decide
theorem i64 : FloatKind.f64.format.infRung = 2047 * 2 ^ 52 := by decide
theorem word_pos (f : Ieee.Format) (r : Nat) : f.word false r = r := by unfold Ieee.Format.word; simp
/-- A word without a sign is its rung. -/
theorem read_pos (k : FloatKind) {r : Nat} (h : r < k.format.infRung) : ∃ M T : Nat, k.format.read r = .number false M (k.format.leastPlace + T) ∧ rv k.format r = M * 2 ^ T := by
  have hbp : 0 < k.format.binade := Nat.two_pow_pos _
  have hlt := inf_lt k
  obtain ⟨M, T, hr, hM, hM2, hv⟩ := rung_shape k.format r
  refine ⟨M, T, ?_, hv⟩
  by_cases hm : k.format.binade ≤ M
  · have := read_norm k false M T hm hM2 (by rw [← hr]; exact h)
    rw [← hr, word_pos] at this
    exact this
  · obtain rfl : T = 0 := hM.resolve_left hm
    rw [Nat.zero_mul, Nat.zero_add] at hr
    subst hr
    have e1 : r % k.format.signWeight = r := Nat.mod_eq_of_lt (by omega)
    have e2 : r / k.format.signWeight = 0 := Nat.div_eq_of_lt (by omega)
    unfold Ieee.Format.read
    simp only [e1, e2]
    rw [if_pos (by omega)]
    simp
/-- The root of a wide word, from below. -/
theorem sqrt_c {E mE C : Nat} {iE p : Int} (hr : FloatKind.f32.format.read E = .number false mE iE) (hm : mE ≠ 0) (hC : 2 ^ 26 ≤ C) (hC2 : C < 2 ^ 27) (hp1 : -1000 ≤ p) (hp2 : p ≤ 500) (h : Le2 (C * C) (2 * p) mE iE) :
    ∃ r, fsqrt .f64 (fwide E) = r ∧ r ≤ FloatKind.f64.format.infRung ∧ ∀ m6 i6, FloatKind.f64.format.read r = .number false m6 i6 → Le2 C p m6 i6 := by
  obtain ⟨d, hd⟩ := wide_read hr hm
  obtain ⟨T, hT⟩ : ∃ T : Nat, FloatKind.f64.format.leastPlace + T = p - 26 := ⟨(p - 26 + 1074).toNat, by rw [l64]; omega⟩
  have hM1 : 2 ^ 52 ≤ C * 2 ^ 26 := by omega
  have hM2 : C * 2 ^ 26 < 2 * 2 ^ 52 := by omega
  have hTb : T * 2 ^ 52 + 2 * 2 ^ 52 ≤ 2047 * 2 ^ 52 := by
    rw [← Nat.add_mul]; refine Nat.mul_le_mul_right _ ?_
    rw [l64] at hT; omega
  have hsq : Le2 (C * 2 ^ 26 * (C * 2 ^ 26)) (2 * (FloatKind.f64.format.leastPlace + T)) (mE * 2 ^ d) (iE - d) := by
    have e : C * 2 ^ 26 * (C * 2 ^ 26) = C * C * 2 ^ 52 := by
      rw [Nat.mul_assoc, Nat.mul_left_comm (2 ^ 26), ← Nat.mul_assoc]
    rw [e, hT]
    exact ((le2_pow (A := C * C) (n := 52) (a := 2 * (p - 26)) (b := 2 * p) (by omega)).1.trans h).trans (le2_pow (A := mE) (n := d) (a := iE - d) (b := iE) (by omega)).2
  obtain ⟨r, h1, h2, h3⟩ := sqrt_near hd (Nat.mul_ne_zero hm (Nat.pos_iff_ne_zero.1 (Nat.two_pow_pos d))) (.inl (by have := b64; omega)) (by omega) (by have := b64; omega) (by rw [i64, b64]; exact Nat.le_trans (Nat.add_le_add_left (Nat.le_of_lt hM2) _) hTb) hsq
  rw [word_pos] at h1
  refine ⟨r, h1, h3, fun m6 i6 h6 => ?_⟩
  have hlt : r < FloatKind.f64.format.infRung := by
    apply Classical.byContradiction
    intro hc
    have : r = FloatKind.f64.format.infRung := by omega
    rw [this] at h6
    revert h6
    have : FloatKind.f64.format.read FloatKind.f64.format.infRung = .infinity false := by decide +kernel
    rw [this]
    intro h6; cases h6
  obtain ⟨M, T', h7, h8⟩ := read_pos .f64 hlt
  rw [h7] at h6
  obtain ⟨-, rfl, rfl⟩ := Ieee.Datum.number.inj h6
  have h9 := (rv_le FloatKind.f64.format).1 h2
  rw [rv_shape _ (.inl (by rw [b64]; exact hM1)) (by rw [b64]; exact hM2), h8] at h9
  have : Le2 (C * 2 ^ 26) (FloatKind.f64.format.leastPlace + T) M (FloatKind.f64.format.leastPlace + T') := by
    rw [le2_at FloatKind.f64.format.leastPlace (by omega) (by omega), show (FloatKind.f64.format.leastPlace + (T : Int) - FloatKind.f64.format.leastPlace).toNat = T by omega, show (FloatKind.f64.format.leastPlace + (T' : Int) - FloatKind.f64.format.leastPlace).toNat = T' by omega]
    exact h9
  rw [hT] at this
  exact (le2_pow (A := C) (n := 26) (a := p - 26) (b := p) (by omega)).2.trans this
/-- The square of a word, rounded. -/
theorem sq_kept {a M T : Nat} {s : Bool} (ha : FloatKind.f32.format.read a = .number s M (FloatKind.f32.format.leastPlace + T)) (hM : 2 ^ 23 ≤ M) (hM2 : M < 2 ^ 24) (hT : 63 ≤ T) :
    ∃ kept d Q : Nat, fmul .f32 a a = min (Q * 2 ^ 23 + kept) FloatKind.f32.format.infRung ∧ 2 ^ 23 ≤ kept ∧ kept ≤ 2 ^ 24 ∧ (Q : Int) = -149 + 2 * T + d ∧ (d = 23 ∨ d = 24 ∧ 2 ^ 47 ≤ M * M) ∧ 2 * (M * M) ≤ 2 * (kept * 2 ^ d) + 2 ^ d ∧ (M = 2 ^ 23 → M * M ≤ kept * 2 ^ d) := by
  have h46 : 2 ^ 46 ≤ M * M := Nat.le_trans (show 2 ^ 46 ≤ 2 ^ 23 * 2 ^ 23 by decide) (Nat.mul_le_mul hM hM)
  have h48 : M * M < 2 ^ 48 := Nat.lt_of_lt_of_le (Nat.mul_lt_mul'' hM2 hM2) (by decide)
  have h0 : M * M ≠ 0 := by omega
  have hL1 : 46 ≤ (M * M).log2 := (Nat.le_log2 h0).2 h46
  have hL2 : (M * M).log2 < 48 := (Nat.log2_lt h0).2 h48
  have hlo := Nat.log2_self_le h0
  have hhi : M * M < 2 ^ ((M * M).log2 + 1) := Nat.lt_log2_self
  rw [fmul_num ha ha, Bool.xor_self]
  unfold Ieee.Format.nearest
  rw [if_neg h0]
  rw [word_pos]
  obtain ⟨d, hd⟩ : ∃ d : Nat, (M * M).log2 = d + 23 := ⟨(M * M).log2 - 23, by omega⟩
  have hfb : (FloatKind.f32.format.fractionBits : Int) = 23 := rfl
  have hlast : max (FloatKind.f32.format.leastPlace + (T : Int) + (FloatKind.f32.format.leastPlace + (T : Int)) + ((M * M).log2 : Int) - (FloatKind.f32.format.fractionBits : Int)) FloatKind.f32.format.leastPlace = FloatKind.f32.format.leastPlace + (T : Int) + (FloatKind.f32.format.leastPlace + (T : Int)) + d := by
    rw [hfb, l32]; omega
  rw [hlast]
  rw [show (FloatKind.f32.format.leastPlace + (T : Int) + (FloatKind.f32.format.leastPlace + (T : Int)) - (FloatKind.f32.format.leastPlace + (T : Int) + (FloatKind.f32.format.leastPlace + (T : Int)) + d)).toNat = 0 by omega, Nat.shiftLeft_zero,
    show (FloatKind.f32.format.leastPlace + (T : Int) + (FloatKind.f32.format.leastPlace + (T : Int)) + (d : Int) - (FloatKind.f32.format.leastPlace + (T : Int) + (FloatKind.f32.format.leastPlace + (T : Int)))).toNat = d by omega]
  rw [hd] at hlo hhi
  refine ⟨Ieee.Toward.even.cut false (M * M) d, d, (FloatKind.f32.format.leastPlace + (T : Int) + (FloatKind.f32.format.leastPlace + (T : Int)) + (d : Int) - FloatKind.f32.format.leastPlace).toNat, rfl, ?_, ?_, ?_, ?_, ?_, ?_⟩
  · apply cut_ge; rw [← Nat.pow_add, Nat.add_comm]; exact hlo
  · apply cut_bound; rw [← Nat.pow_add, show 24 + d = d + 23 + 1 by omega]; exact Nat.le_of_lt hhi
  · rw [l32]; omega
  · by_cases h : d = 23
    · exact .inl h
    · refine .inr ⟨by omega, ?_⟩
      have : d = 24 := by omega
      subst this; exact hlo
  · exact cut_half _ _ _ (by omega)
  · rintro rfl
    have : d = 23 := by
      apply Classical.byContradiction
      intro hc
      have : d = 24 := by omega
      subst this
      exact absurd hlo (by decide)
    subst this
    have : 2 ^ 23 ≤ Ieee.Toward.even.cut false (2 ^ 23 * 2 ^ 23) 23 := by apply cut_ge; exact Nat.le_refl _
    exact Nat.mul_le_mul_right _ this

theorem root_inf : (fnarrow (fsqrt .f64 (fwide FloatKind.f32.format.infRung))).getD 0 = FloatKind.f32.format.infRung := by decide +kernel
theorem narrow_inf : (fnarrow FloatKind.f64.format.infRung).getD 0 = FloatKind.f32.format.infRung := by decide +kernel
theorem narrow_num {r m : Nat} {e : Int} (hr : FloatKind.f64.format.read r = .number false m e) (hn : fnarrow r ≠ none) : (fnarrow r).getD 0 = FloatKind.f32.format.nearest false m e := by
  have hd : FloatKind.f64.decode r = .number false m e := hr
  unfold fnarrow at hn ⊢
  rw [hd] at hn ⊢
  simp only [] at hn ⊢
  split at hn
  · exact absurd rfl hn
  · rename_i h; rw [if_neg h]; rfl
theorem c_sq {M Y d : Nat} (hM : 2 ^ 23 < M) (hd : d = 23 ∨ d = 24 ∧ 2 ^ 47 ≤ M * M) (h : 2 * (M * M) ≤ 2 * Y + 2 ^ d) : (8 * M - 3) * (8 * M - 3) ≤ 64 * Y := by
  obtain ⟨C, hC⟩ : ∃ C, C + 3 = 8 * M := ⟨8 * M - 3, by omega⟩
  rw [show 8 * M - 3 = C by omega]
  have e : (C + 3) * (C + 3) = 64 * (M * M) := by
    rw [hC, Nat.mul_mul_mul_comm]
  have e2 : (C + 3) * (C + 3) = C * C + 6 * C + 9 := by
    rw [Nat.add_mul, Nat.mul_add, Nat.mul_comm 3]
    omega
  have h48 : 32 * 2 ^ d + 9 ≤ 48 * M := by
    rcases hd with rfl | ⟨rfl, h47⟩
    · omega
    · apply Classical.byContradiction
      intro hc
      have hb : M ≤ 11184811 := by omega
      have := Nat.mul_le_mul hb hb
      omega
  omega
theorem min_under {w I E : Nat} (h : min w I ≤ E) (hlt : E < I) : w ≤ E := by
  rcases Nat.le_total w I with h2 | h2
  · rw [Nat.min_eq_left h2] at h; exact h
  · rw [Nat.min_eq_right h2] at h; exact absurd hlt (Nat.not_lt.2 h)
theorem root_up {a E M T : Nat} {s : Bool} (ha : FloatKind.f32.format.read a = .number s M (FloatKind.f32.format.leastPlace + T)) (hM : 2 ^ 23 ≤ M) (hM2 : M < 2 ^ 24) (hT : 63 ≤ T) (hT2 : T ≤ 253)
    (hE : E ≤ FloatKind.f32.format.infRung) (hge : fmul .f32 a a ≤ E) :
    T * 2 ^ 23 + M ≤ (fnarrow (fsqrt .f64 (fwide E))).getD 0 ∧ (fnarrow (fsqrt .f64 (fwide E))).getD 0 ≤ FloatKind.f32.format.infRung := by
  have hk : T * 2 ^ 23 + M ≤ FloatKind.f32.format.infRung := by rw [i32]; omega
  by_cases hi : E = FloatKind.f32.format.infRung
  · rw [hi, root_inf]; exact ⟨hk, Nat.le_refl _⟩
  · have hlt : E < FloatKind.f32.format.infRung := by omega
    obtain ⟨mE, TE, hrE, hvE⟩ := read_pos .f32 hlt
    obtain ⟨kept, d, Q, hsq, hk1, hk2, hQ, hd, herr, hex⟩ := sq_kept ha hM hM2 hT
    have hge' : min (Q * 2 ^ 23 + kept) FloatKind.f32.format.infRung ≤ E := Nat.le_trans (Nat.le_of_eq hsq.symm) hge
    have hQE : Q * 2 ^ 23 + kept ≤ E := min_under hge' hlt
    have hrv : kept * 2 ^ Q ≤ mE * 2 ^ TE := by
      rw [← hvE]
      refine Nat.le_trans ?_ ((rv_le FloatKind.f32.format).1 hQE)
      by_cases hlast : kept < 2 ^ 24
      · have := rv_shape FloatKind.f32.format (M := kept) (T := Q) (.inl (by have := b32; omega)) (by have := b32; omega)
        rw [b32] at this
        rw [this]; exact Nat.le_refl _
      · have hkk : kept = 2 ^ 24 := by omega
        have := rv_shape FloatKind.f32.format (M := 2 ^ 23) (T := Q + 1) (.inl (by have := b32; omega)) (by have := b32; omega)
        rw [b32, show (Q + 1) * 2 ^ 23 + 2 ^ 23 = Q * 2 ^ 23 + kept by omega] at this
        rw [this, hkk, Nat.pow_succ 2 Q, Nat.mul_comm (2 ^ Q) 2, ← Nat.mul_assoc]; exact Nat.le_refl _
    have hm0 : mE ≠ 0 := by
      rintro rfl
      rw [Nat.zero_mul] at hrv
      have := Nat.mul_pos (show 0 < kept by omega) (Nat.two_pow_pos Q)
      omega
    have hF : Le2 kept (FloatKind.f32.format.leastPlace + Q) mE (FloatKind.f32.format.leastPlace + TE) := by
      rw [le2_at FloatKind.f32.format.leastPlace (by omega) (by omega), show (FloatKind.f32.format.leastPlace + (Q : Int) - FloatKind.f32.format.leastPlace).toNat = Q by omega, show (FloatKind.f32.format.leastPlace + (TE : Int) - FloatKind.f32.format.leastPlace).toNat = TE by omega]
      exact hrv
    -- from a square below to the root
    have hroot : ∀ C : Nat, 2 ^ 26 ≤ C → C < 2 ^ 27 → C * C ≤ 64 * (kept * 2 ^ d) → ∃ r, fsqrt .f64 (fwide E) = r ∧ r ≤ FloatKind.f64.format.infRung ∧ ∀ m6 i6, FloatKind.f64.format.read r = .number false m6 i6 → Le2 C (FloatKind.f32.format.leastPlace + T - 3) m6 i6 := by
      intro C hC1 hC2 hCC
      refine sqrt_c hrE hm0 hC1 hC2 (by rw [l32]; omega) (by rw [l32]; omega) ?_
      have e : 64 * (kept * 2 ^ d) = kept * 2 ^ (6 + d) := by rw [Nat.pow_add, Nat.mul_left_comm]
      rw [e] at hCC
      exact ((Le2.same hCC).trans (le2_pow (A := kept) (n := 6 + d) (a := 2 * (FloatKind.f32.format.leastPlace + T - 3)) (b := FloatKind.f32.format.leastPlace + Q) (by rw [l32]; omega)).1).trans hF
    have fin_or : ∀ r, r ≤ FloatKind.f64.format.infRung → fsqrt .f64 (fwide E) = r → r = FloatKind.f64.format.infRung ∨ ∃ m6 i6, FloatKind.f64.format.read r = .number false m6 i6 ∧ (fnarrow (fsqrt .f64 (fwide E))).getD 0 = FloatKind.f32.format.nearest false m6 i6 := by
      intro r h1 h2
      by_cases hc : r = FloatKind.f64.format.infRung
      · exact .inl hc
      · obtain ⟨m6, T6, h7, h8⟩ := read_pos .f64 (show r < FloatKind.f64.format.infRung by omega)
        refine .inr ⟨m6, _, h7, ?_⟩
        have hn := sqrt_nar E
        rw [h2] at hn ⊢
        exact narrow_num h7 hn
    by_cases hMB : M = 2 ^ 23
    · obtain ⟨r, h1, h2, h3⟩ := hroot (M * 2 ^ 3) (by omega) (by omega) (by
        have := hex hMB
        rw [Nat.mul_mul_mul_comm, Nat.mul_comm (M * M)]
        exact Nat.mul_le_mul_left _ this)
      rcases fin_or r h2 h1 with h | ⟨m6, i6, h7, h8⟩
      · rw [h1, h, narrow_inf]; exact ⟨hk, Nat.le_refl _⟩
      · have h9 := h3 m6 i6 h7
        have h10 : Le2 M (FloatKind.f32.format.leastPlace + T) m6 i6 := (le2_pow (A := M) (n := 3) (a := FloatKind.f32.format.leastPlace + T - 3) (b := FloatKind.f32.format.leastPlace + T) (by omega)).2.trans h9
        obtain ⟨r', g1, g2, g3⟩ := near_ge .f32 false (.inl (by have := b32; omega)) (by omega) (by have := b32; omega) (by rw [b32]; exact hk) h10
        rw [h8, g1, word_pos]
        rw [b32] at g2
        exact ⟨g2, g3⟩
    · obtain ⟨r, h1, h2, h3⟩ := hroot (8 * M - 3) (by omega) (by omega) (c_sq (by omega) hd herr)
      rcases fin_or r h2 h1 with h | ⟨m6, i6, h7, h8⟩
      · rw [h1, h, narrow_inf]; exact ⟨hk, Nat.le_refl _⟩
      · have h9 := (h3 m6 i6 h7).mul (c := 2 ^ 3)
        rw [Nat.mul_comm (2 ^ 3) (8 * M - 3)] at h9
        have h10 : Le2 (8 * M - 3) (FloatKind.f32.format.leastPlace + T) (2 ^ 3 * m6) i6 := (le2_pow (A := 8 * M - 3) (n := 3) (a := FloatKind.f32.format.leastPlace + T - 3) (b := FloatKind.f32.format.leastPlace + T) (by omega)).2.trans h9
        obtain ⟨r', g1, g2, g3⟩ := near_up' .f32 false (by have := b32; omega) (by have := b32; omega) (by rw [b32]; exact hk) h10
        rw [h8, g1, word_pos]
        rw [b32] at g2
        exact ⟨g2, g3⟩

/-! ### quotients and products that stay small -/
theorem read_rung {k : FloatKind} {x : Nat} {s : Bool} {m : Nat} {e : Int} (h : k.format.read x = .number s m e) : ∃ q : Nat, e = k.format.leastPlace + q ∧ (k.format.binade ≤ m ∨ q = 0) ∧ m < 2 * k.format.binade ∧ q * k.format.binade + m < k.format.infRung := by
  have hbp : 0 < k.format.binade := Nat.two_pow_pos _
  have hm := read_mant h
  unfold Ieee.Format.read at h
  simp only [] at h
  have hbi : k.format.binade ≤ k.format.infRung := bin_le_inf k
  split at h
  · rename_i h1
    obtain ⟨-, h2, h3⟩ := Ieee.Datum.number.inj h
    exact ⟨0, by omega, .inr rfl, hm, by rw [Nat.zero_mul]; omega⟩
  · rename_i h1
    split at h
    · rename_i h2
      obtain ⟨-, h3, h4⟩ := Ieee.Datum.number.inj h
      refine ⟨x % k.format.signWeight / k.format.binade - 1, h4.symm, .inl (by omega), hm, ?_⟩
      have h5 := Nat.div_add_mod (x % k.format.signWeight) k.format.binade
      obtain ⟨c, hc⟩ : ∃ c, x % k.format.signWeight / k.format.binade = c + 1 := ⟨x % k.format.signWeight / k.format.binade - 1, by
        have : 1 ≤ x % k.format.signWeight / k.format.binade := (Nat.le_div_iff_mul_le hbp).2 (by omega)
        omega⟩
      rw [hc, Nat.mul_add, Nat.mul_one, Nat.mul_comm] at h5
      rw [hc, Nat.add_sub_cancel]
      omega
    · split at h <;> cases h
theorem quot_le {m n d δ : Nat} (hn : n ≠ 0) (h : m * 2 ^ d ≤ n * 2 ^ δ) : 2 * (m <<< d / n) + (m <<< d % n != 0).toNat ≤ 2 * 2 ^ δ := by
  rw [Nat.shiftLeft_eq]
  generalize m * 2 ^ d = D at *
  generalize 2 ^ δ = G at *
  have h1 := Nat.div_add_mod D n
  by_cases hr : D % n = 0
  · rw [hr]
    have : D / n ≤ G := Nat.div_le_of_le_mul h
    show 2 * (D / n) + 0 ≤ 2 * G
    omega
  · have hlt : D / n < G := by
      apply (Nat.div_lt_iff_lt_mul (Nat.pos_of_ne_zero hn)).2
      rw [Nat.mul_comm G]
      apply Nat.lt_of_le_of_ne h
      intro he
      rw [he, Nat.mul_mod_right] at hr
      exact hr rfl
    have h5 : ∀ c : Bool, c.toNat ≤ 1 := fun c => by cases c <;> decide
    have := h5 (D % n != 0)
    omega
theorem div_le_one {a R m n p q : Nat} {s t : Bool} (ha : FloatKind.f32.format.read a = .number s m (FloatKind.f32.format.leastPlace + p)) (hR : FloatKind.f32.format.read R = .number t n (FloatKind.f32.format.leastPlace + q))
    (h : m * 2 ^ p ≤ n * 2 ^ q) (hn : n ≠ 0) : ∃ r, fdiv .f32 a R = FloatKind.f32.format.word (s ^^ t) r ∧ r ≤ 1065353216 := by
  generalize hd : FloatKind.f32.format.fractionBits + 2 + n.log2 - m.log2 = d
  rw [fdiv_num ha hR hn hd]
  have key : Le2 (2 * (m <<< d / n) + (m <<< d % n != 0).toNat) (FloatKind.f32.format.leastPlace + (p : Int) - (FloatKind.f32.format.leastPlace + (q : Int)) - (d : Int) - 1) (1 * 2 ^ 23) (FloatKind.f32.format.leastPlace + (126 : Nat)) := by
    refine Le2.trans ?_ (le2_pow (A := 1) (n := 23) (a := FloatKind.f32.format.leastPlace + (126 : Nat)) (b := 0) (by rw [l32]; decide)).2
    by_cases hm : m = 0
    · subst hm
      have e0 : 2 * (0 <<< d / n) + (0 <<< d % n != 0).toNat = 0 := by simp
      rw [e0]; unfold Le2; rw [Nat.zero_mul]; exact Nat.zero_le _
    · have hge : n ≤ m * 2 ^ d := by
        have hnl : n < 2 ^ (n.log2 + 1) := Nat.lt_log2_self
        have h1 : 2 ^ m.log2 * 2 ^ d ≤ m * 2 ^ d := Nat.mul_le_mul_right _ (Nat.log2_self_le hm)
        rw [← Nat.pow_add] at h1
        have h2 : 2 ^ (n.log2 + 1) ≤ 2 ^ (m.log2 + d) := Nat.pow_le_pow_right (by decide) (by omega)
        omega
      -- the places' distance is at most d
      have hdist : p ≤ q + d := by
        apply Classical.byContradiction
        intro hc
        have h1 : 2 ^ (q + d) < 2 ^ p := Nat.pow_lt_pow_right (by decide) (by omega)
        have h2 : m * 2 ^ (q + d) < m * 2 ^ p := Nat.mul_lt_mul_of_pos_left h1 (Nat.pos_of_ne_zero hm)
        have h3 : n * 2 ^ q ≤ m * 2 ^ d * 2 ^ q := Nat.mul_le_mul_right _ hge
        rw [Nat.add_comm q d, Nat.pow_add, ← Nat.mul_assoc] at h2
        omega
      have hle : m * 2 ^ d ≤ n * 2 ^ (q + d - p) := by
        have h1 : m * 2 ^ d * 2 ^ p ≤ n * 2 ^ (q + d - p) * 2 ^ p := by
          rw [Nat.mul_assoc n, ← Nat.pow_add, show q + d - p + p = q + d by omega, Nat.pow_add, ← Nat.mul_assoc, Nat.mul_right_comm m]
          exact Nat.mul_le_mul_right _ h
        exact Nat.le_of_mul_le_mul_right h1 (Nat.two_pow_pos p)
      have hq := quot_le hn hle
      unfold Le2
      rw [show (FloatKind.f32.format.leastPlace + (p : Int) - (FloatKind.f32.format.leastPlace + (q : Int)) - (d : Int) - 1 - 0).toNat = 0 by omega, show (0 - (FloatKind.f32.format.leastPlace + (p : Int) - (FloatKind.f32.format.leastPlace + (q : Int)) - (d : Int) - 1)).toNat = q + d - p + 1 by omega, Nat.pow_zero, Nat.mul_one, Nat.one_mul, Nat.pow_succ]
      omega
  obtain ⟨r, g1, g2, -⟩ := near_le .f32 (s ^^ t) (T := 126) (.inl (by have := b32; omega)) (by have := b32; omega) key
  rw [b32] at g2
  exact ⟨r, g1, by omega⟩
theorem one_read : FloatKind.f32.format.read 1065353216 = .number false (2 ^ 23) (FloatKind.f32.format.leastPlace + (126 : Nat)) := by decide +kernel
/-- A product with something of at most one is no greater. -/
theorem mul_small {x y m n p q : Nat} {s t : Bool} (hx : FloatKind.f32.format.read x = .number s m (FloatKind.f32.format.leastPlace + p)) (hy : FloatKind.f32.format.read y = .number t n (FloatKind.f32.format.leastPlace + q))
    (h : m * 2 ^ p ≤ 2 ^ 149) : ∃ r, fmul .f32 x y = FloatKind.f32.format.word (s ^^ t) r ∧ r ≤ q * 2 ^ 23 + n ∧ q * 2 ^ 23 + n < FloatKind.f32.format.infRung := by
  obtain ⟨q', h1, h2, h3, h4⟩ := read_rung hy
  obtain rfl : q = q' := by omega
  rw [fmul_num hx hy]
  have key : Le2 (m * n) (FloatKind.f32.format.leastPlace + (p : Int) + (FloatKind.f32.format.leastPlace + (q : Int))) n (FloatKind.f32.format.leastPlace + q) := by
    rw [le2_at (FloatKind.f32.format.leastPlace + (FloatKind.f32.format.leastPlace + (q : Int))) (by omega) (by rw [l32]; omega),
      show (FloatKind.f32.format.leastPlace + (p : Int) + (FloatKind.f32.format.leastPlace + (q : Int)) - (FloatKind.f32.format.leastPlace + (FloatKind.f32.format.leastPlace + (q : Int)))).toNat = p by omega,
      show (FloatKind.f32.format.leastPlace + (q : Int) - (FloatKind.f32.format.leastPlace + (FloatKind.f32.format.leastPlace + (q : Int)))).toNat = 149 by rw [l32]; omega, Nat.mul_right_comm, Nat.mul_comm n]
    exact Nat.mul_le_mul_right _ h
  obtain ⟨r, g1, g2, -⟩ := near_le .f32 (s ^^ t) h2 h3 key
  rw [b32] at g2 h4
  exact ⟨r, g1, g2, h4⟩

/-! ### sums of numbers without signs -/
theorem read_inf32 : FloatKind.f32.format.read FloatKind.f32.format.infRung = .infinity false := by decide +kernel
theorem write_inf32 : FloatKind.f32.format.write (.infinity false) = FloatKind.f32.format.infRung := by decide +kernel
theorem fin_of_lt {x : Nat} (h : x < FloatKind.f32.format.infRung) : fin .f32 x = true ∧ sv .f32 x = ((rv FloatKind.f32.format x : Nat) : Int) := by
  obtain ⟨M, T, hr, hv⟩ := read_pos .f32 h
  unfold fin sv
  rw [hr]
  refine ⟨rfl, ?_⟩
  simp only []
  rw [signed_eq, if_neg (by decide), hv, show (FloatKind.f32.format.leastPlace + (T : Int) - FloatKind.f32.format.leastPlace).toNat = T by omega]
theorem rv_zero {x : Nat} (h : rv FloatKind.f32.format x = 0) : x = 0 := by
  apply Classical.byContradiction
  intro hc
  have := rv_lt FloatKind.f32.format (show 0 < x by omega)
  omega
theorem add_zz : fadd .f32 0 0 = 0 := by decide +kernel
theorem inf_add {x y : Nat} {d : Ieee.Datum} (h1 : FloatKind.f32.format.read x = .infinity false) (h2 : FloatKind.f32.format.read y = d) (hd : d = .infinity false ∨ ∃ s m e, d = .number s m e) : fadd .f32 x y = FloatKind.f32.format.infRung := by
  unfold fadd Ieee.Format.add
  rw [h1, h2]
  rcases hd with rfl | ⟨s, m, e, rfl⟩ <;> simp only [Ieee.Datum.sum, Option.map_some, Option.getD_some, write_inf32, if_true]
theorem add_inf {x y : Nat} {s : Bool} {m : Nat} {e : Int} (h1 : FloatKind.f32.format.read x = .number s m e) (h2 : FloatKind.f32.format.read y = .infinity false) : fadd .f32 x y = FloatKind.f32.format.infRung := by
  unfold fadd Ieee.Format.add
  rw [h1, h2]
  simp only [Ieee.Datum.sum, Option.map_some, Option.getD_some, write_inf32]
theorem add_up {x y : Nat} (hx : x ≤ FloatKind.f32.format.infRung) (hy : y ≤ FloatKind.f32.format.infRung) : x ≤ fadd .f32 x y ∧ y ≤ fadd .f32 x y ∧ fadd .f32 x y ≤ FloatKind.f32.format.infRung := by
  by_cases hxi : x = FloatKind.f32.format.infRung
  · have e : fadd .f32 x y = FloatKind.f32.format.infRung := by
      have h1 : FloatKind.f32.format.read x = .infinity false := by rw [hxi]; exact read_inf32
      by_cases hyi : y = FloatKind.f32.format.infRung
      · exact inf_add h1 (by rw [hyi]; exact read_inf32) (.inl rfl)
      · obtain ⟨M, T, hr, -⟩ := read_pos .f32 (show y < FloatKind.f32.format.infRung by omega)
        exact inf_add h1 hr (.inr ⟨_, _, _, rfl⟩)
    rw [e]; exact ⟨hx, hy, Nat.le_refl _⟩
  · by_cases hyi : y = FloatKind.f32.format.infRung
    · have e : fadd .f32 x y = FloatKind.f32.format.infRung := by
        obtain ⟨M, T, hr, -⟩ := read_pos .f32 (show x < FloatKind.f32.format.infRung by omega)
        exact add_inf hr (by rw [hyi]; exact read_inf32)
      rw [e]; exact ⟨hx, hy, Nat.le_refl _⟩
    · obtain ⟨f1, v1⟩ := fin_of_lt (show x < FloatKind.f32.format.infRung by omega)
      obtain ⟨f2, v2⟩ := fin_of_lt (show y < FloatKind.f32.format.infRung by omega)
      by_cases h0 : sv .f32 x + sv .f32 y = 0
      · have hx0 : x = 0 := rv_zero (by omega)
        have hy0 : y = 0 := rv_zero (by omega)
        subst hx0; subst hy0
        rw [add_zz]; exact ⟨Nat.le_refl _, Nat.le_refl _, Nat.zero_le _⟩
      · rw [fadd_val f1 f2 h0, v1, v2]
        unfold rnd
        have ge : ∀ z : Nat, z ≤ FloatKind.f32.format.infRung → rv FloatKind.f32.format z ≤ (((rv FloatKind.f32.format x : Nat) : Int) + ((rv FloatKind.f32.format y : Nat) : Int)).natAbs →
            z ≤ FloatKind.f32.format.nearest (decide ((((rv FloatKind.f32.format x : Nat) : Int) + ((rv FloatKind.f32.format y : Nat) : Int)) < 0)) (((rv FloatKind.f32.format x : Nat) : Int) + ((rv FloatKind.f32.format y : Nat) : Int)).natAbs FloatKind.f32.format.leastPlace ∧
            FloatKind.f32.format.nearest (decide ((((rv FloatKind.f32.format x : Nat) : Int) + ((rv FloatKind.f32.format y : Nat) : Int)) < 0)) (((rv FloatKind.f32.format x : Nat) : Int) + ((rv FloatKind.f32.format y : Nat) : Int)).natAbs FloatKind.f32.format.leastPlace ≤ FloatKind.f32.format.infRung := by
          intro z hz hzv
          rw [decide_eq_false (by omega)]
          by_cases hz0 : z = 0
          · subst hz0
            refine ⟨Nat.zero_le _, ?_⟩
            unfold Ieee.Format.nearest
            split
            · rw [word_pos]; exact Nat.zero_le _
            · rw [word_pos]; exact Nat.min_le_right _ _
          · obtain ⟨r, g1, g2, g3⟩ := nearest_ge .f32 false (m := (((rv FloatKind.f32.format x : Nat) : Int) + ((rv FloatKind.f32.format y : Nat) : Int)).natAbs) (e := FloatKind.f32.format.leastPlace) hz0 hz (by
              rw [Int.sub_self]
              show _ * 2 ^ 0 ≤ _ * 2 ^ 0
              rw [Nat.pow_zero, Nat.mul_one, Nat.mul_one]; exact hzv)
            rw [g1, word_pos]; exact ⟨g2, g3⟩
        have g1 := ge x hx (by omega)
        have g2 := ge y hy (by omega)
        exact ⟨g1.1, g2.1, g1.2⟩
theorem sq_inf {a : Nat} (h : fin .f32 a = true) : fmul .f32 a a ≤ FloatKind.f32.format.infRung := by
  obtain ⟨s, m, e, hr⟩ := fin_num h
  rw [fmul_num hr hr, Bool.xor_self]
  unfold Ieee.Format.nearest
  split
  · rw [word_pos]; exact Nat.zero_le _
  · rw [word_pos]; exact Nat.min_le_right _ _
def sqs2 (s x : Nat) : Nat := fadd .f32 s (fmul .f32 x x)
theorem sqs2_up (l : List Nat) (hl : l.all (fin .f32) = true) : ∀ s, s ≤ FloatKind.f32.format.infRung → s ≤ l.foldl sqs2 s ∧ l.foldl sqs2 s ≤ FloatKind.f32.format.infRung ∧ ∀ a ∈ l, fmul .f32 a a ≤ l.foldl sqs2 s := by
  induction l with
  | nil => intro s hs; exact ⟨Nat.le_refl _, hs, fun a h => by cases h⟩
  | cons x l ih =>
    intro s hs
    rw [List.all_cons, Bool.and_eq_true] at hl
    have hx := sq_inf hl.1
    obtain ⟨a1, a2, a3⟩ := add_up hs hx
    obtain ⟨b1, b2, b3⟩ := ih hl.2 _ a3
    refine ⟨Nat.le_trans a1 b1, b2, fun a ha => ?_⟩
    rcases List.mem_cons.1 ha with rfl | ha
    · exact Nat.le_trans a2 b1
    · exact b3 a ha

/-! ### numbers over a root -/
theorem word_mod (f : Ieee.Format) (s : Bool) {r : Nat} (h : r < f.signWeight) : f.word s r % f.signWeight = r ∧ (f.word s r / f.signWeight % 2 == 1) = s := by
  have hp := sw_pos f
  unfold Ieee.Format.word
  cases s
  · exact ⟨by simp; exact Nat.mod_eq_of_lt h, by simp [Nat.div_eq_of_lt h]⟩
  · refine ⟨by rw [if_pos rfl, Nat.add_mod_left]; exact Nat.mod_eq_of_lt h, ?_⟩
    rw [if_pos rfl, Nat.add_div_left _ hp, Nat.div_eq_of_lt h]; rfl
theorem read_sgn (k : FloatKind) (s : Bool) {r : Nat} (h : r < k.format.infRung) : ∃ M T : Nat, k.format.read (k.format.word s r) = .number s M (k.format.leastPlace + T) ∧ rv k.format r = M * 2 ^ T := by
  have hlt := inf_lt k
  obtain ⟨M, T, hr, hM, hM2, hv⟩ := rung_shape k.format r
  refine ⟨M, T, ?_, hv⟩
  by_cases hm : k.format.binade ≤ M
  · have := read_norm k s M T hm hM2 (by rw [← hr]; exact h)
    rw [← hr] at this
    exact this
  · obtain rfl : T = 0 := hM.resolve_left hm
    rw [Nat.zero_mul, Nat.zero_add] at hr
    subst hr
    obtain ⟨e1, e2⟩ := word_mod k.format s (show r < k.format.signWeight by omega)
    unfold Ieee.Format.read
    simp only [e1, e2]
    rw [if_pos (by omega)]
    simp
theorem one_rung : (1065353216 : Nat) = 126 * 2 ^ 23 + 2 ^ 23 := by decide
theorem rv_one : rv FloatKind.f32.format 1065353216 = 2 ^ 149 := by
  rw [one_rung, ← b32, rv_shape _ (.inl (Nat.le_refl _)) (by have := b32; omega), b32, ← Nat.pow_add]
theorem one_lt_inf : 1065353216 < FloatKind.f32.format.infRung := by rw [i32]; decide
/-- Something of at most one, times a number, is a number. -/
theorem small_fin {r y : Nat} {s : Bool} (hr : r ≤ 1065353216) (hy : fin .f32 y = true) : fin .f32 (fmul .f32 (FloatKind.f32.format.word s r) y) = true ∧
    (y = 1065353216 → ∃ s' r', fmul .f32 (FloatKind.f32.format.word s r) y = FloatKind.f32.format.word s' r' ∧ r' ≤ 1065353216) := by
  obtain ⟨M, T, h1, h2⟩ := read_sgn .f32 s (Nat.lt_of_le_of_lt hr one_lt_inf)
  obtain ⟨t, n, e, h3⟩ := fin_num hy
  obtain ⟨q, rfl, -⟩ := read_rung h3
  have h4 : M * 2 ^ T ≤ 2 ^ 149 := by rw [← h2, ← rv_one]; exact (rv_le _).1 hr
  obtain ⟨r', g1, g2, g3⟩ := mul_small h1 h3 h4
  rw [g1]
  constructor
  · obtain ⟨M', T', h5, -⟩ := read_sgn .f32 (s ^^ t) (show r' < FloatKind.f32.format.infRung by omega)
    unfold fin; rw [h5]
  · rintro rfl
    refine ⟨_, r', rfl, ?_⟩
    rw [one_read] at h3
    obtain ⟨-, e1, e2⟩ := Ieee.Datum.number.inj h3
    have : q = 126 := by omega
    rw [one_rung]; subst this; omega
/-- A number over a root that is no less than it. -/
theorem over_root {A : List Nat} {c R : Nat} (hA : A.all (fin .f32) = true) (hc : c ∈ A) {s : Bool} {M T : Nat} (hcr : FloatKind.f32.format.read c = .number s M (FloatKind.f32.format.leastPlace + T)) (hM : 2 ^ 23 ≤ M) (hT : 64 ≤ T)
    (hR : R = (fnarrow (fsqrt .f64 (fwide (A.foldl sqs2 0)))).getD 0) {a : Nat} (ha : a ∈ A) : ∃ s' r, fdiv .f32 a R = FloatKind.f32.format.word s' r ∧ r ≤ 1065353216 := by
  obtain ⟨-, hE, hsq⟩ := sqs2_up A hA 0 (Nat.zero_le _)
  have up : ∀ x ∈ A, ∀ (s : Bool) (m p : Nat), FloatKind.f32.format.read x = .number s m (FloatKind.f32.format.leastPlace + p) → 2 ^ 23 ≤ m → 63 ≤ p → p * 2 ^ 23 + m ≤ R ∧ R ≤ FloatKind.f32.format.infRung := by
    intro x hx s m p hr h1 h2
    obtain ⟨q, e1, e2, e3, e4⟩ := read_rung hr
    obtain rfl : p = q := by omega
    rw [b32] at e3
    rw [b32, i32] at e4
    rw [hR]
    exact root_up hr h1 (by omega) h2 (by omega) hE (hsq x hx)
  have hcR := up c hc _ _ _ hcr hM (by omega)
  obtain ⟨s', m, e, hr⟩ := fin_num (List.all_eq_true.1 hA a ha)
  obtain ⟨p, rfl, e2, e3, e4⟩ := read_rung hr
  have haR : p * 2 ^ 23 + m ≤ R := by
    by_cases hp : 2 ^ 23 ≤ m ∧ 63 ≤ p
    · exact (up a ha _ _ _ hr hp.1 hp.2).1
    · rw [b32] at e2 e3
      omega
  by_cases hi : R = FloatKind.f32.format.infRung
  · refine ⟨s', 0, ?_, Nat.zero_le _⟩
    unfold fdiv Ieee.Format.div
    have h1 : FloatKind.f32.format.read R = .infinity false := by rw [hi]; exact read_inf32
    rw [hr, h1]
    simp only [Ieee.Datum.quotient, Option.map_some, Option.getD_some, Bool.xor_false]
    show FloatKind.f32.format.nearest s' 0 0 = _
    unfold Ieee.Format.nearest
    rw [if_pos rfl]
  · obtain ⟨n, q, h1, h2⟩ := read_pos .f32 (show R < FloatKind.f32.format.infRung by omega)
    have h3 := (rv_le FloatKind.f32.format).1 haR
    rw [← b32, rv_shape _ e2 e3, h2] at h3
    have hn : n ≠ 0 := by
      rintro rfl
      rw [Nat.zero_mul] at h2
      have := rv_zero h2
      omega
    obtain ⟨r, g1, g2⟩ := div_le_one hr h1 h3 hn
    exact ⟨_, r, g1, g2⟩

/-! ### the best atom so far -/
def okS (s : Nat) : Prop := (bif fle .f32 1056964608 s then fle .f32 s 1098907648 else false) = true
def PI (z : Prop) (b : Bool) (p : Int) (n : Nat) (s : Nat) : Prop := (z ∧ b = false) ∨ (b = true ∧ 0 ≤ p ∧ p < (n : Int) ∧ okS s)
theorem PI.keep {z z' : Prop} {b : Bool} {p : Int} {n s : Nat} (h : PI z b p n s) (hb : b = true) : PI z' b p n s := by
  rcases h with ⟨_, h⟩ | h
  · rw [hb] at h; cases h
  · exact .inr h
theorem PI.into {z z' : Prop} {b : Bool} {p : Int} {n s : Nat} (h : PI z b p n s) (hz : z → z') : PI z' b p n s := h.imp (fun h => ⟨hz h.1, h.2⟩) id
theorem PI.fin {z : Prop} {b : Bool} {p : Int} {n s : Nat} (h : PI z b p n s) (hz : ¬ z) : 0 ≤ p ∧ p < (n : Int) ∧ okS s := by
  rcases h with ⟨h, _⟩ | h
  · exact absurd h hz
  · exact h.2
theorem scale_at {l : List Nat} (h : ∀ y ∈ l, okS y) {i : Int} (h0 : 0 ≤ i) (h1 : i < (l.length : Int)) : okS (l.getD i.toNat 0) := by
  rw [List.getD_eq_getElem?_getD, List.getElem?_eq_getElem (by omega : i.toNat < l.length)]
  exact h _ (List.getElem_mem _)
def RL (N : Nat) (r : Int × Nat × Nat × (List Nat) × Bool) : Prop := r.2.2.2.1.length ≤ N
theorem rl0 (N : Nat) : RL N (0, 0, 0, [], false) := Nat.zero_le _
end Go.Proofs.Ytbnplefohfamnaa.Ai
