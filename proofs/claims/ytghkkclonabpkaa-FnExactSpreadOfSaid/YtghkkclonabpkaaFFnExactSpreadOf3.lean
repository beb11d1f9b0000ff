/- What functions of the program come to on the abstract machine, and that they do so; printed by a program of mine around proofs of mine. -/
import Derived.Test.YtghkkclonabpkaaFFnExactSpreadOf2
set_option linter.unusedVariables false
set_option linter.unusedSimpArgs false
set_option maxRecDepth 100000
namespace Go.Proofs.Ytghkkclonabpkaa.Ai
open Go
attribute [local irreducible] bodyK

def p_slices_stableCmpFunc_float32_l3 (l_data : List Nat) (n : Int) (a : Int) (b : Int) (y1_1 : List Nat) (blockSize : Int) (a_7 : Int) (b_8 : Int) (y2_1 : List Nat) (k3_4 : Int → Int → (List Nat) → (List Nat)) : Nat → Int → Int → (List Nat) → (List Nat)
  | 0, _, _, _ => []
  | μ3 + 1, a_7', b_8', y3_1 => (bif decide ((b_8' : Int) ≤ n) then (p_slices_stableCmpFunc_float32_l3 l_data n a b y1_1 blockSize a_7 b_8 y2_1 k3_4 μ3 b_8' ((b_8' + (2 * blockSize))) ((rsymM ((b_8' - a_7').toNat) y3_1 a_7' (a_7' + blockSize) b_8'))) else (k3_4 a_7' b_8' y3_1))
theorem p_slices_stableCmpFunc_float32_l3_s (l_data : List Nat) (n : Int) (a : Int) (b : Int) (y1_1 : List Nat) (blockSize : Int) (a_7 : Int) (b_8 : Int) (y2_1 : List Nat) (k3_4 : Int → Int → (List Nat) → (List Nat)) (μ3 : Nat) (a_7' : Int) (b_8' : Int) (y3_1 : List Nat) : p_slices_stableCmpFunc_float32_l3 l_data n a b y1_1 blockSize a_7 b_8 y2_1 k3_4 (μ3 + 1) a_7' b_8' y3_1 = (bif decide ((b_8' : Int) ≤ n) then (p_slices_stableCmpFunc_float32_l3 l_data n a b y1_1 blockSize a_7 b_8 y2_1 k3_4 μ3 b_8' ((b_8' + (2 * blockSize))) ((rsymM ((b_8' - a_7').toNat) y3_1 a_7' (a_7' + blockSize) b_8'))) else (k3_4 a_7' b_8' y3_1)) := rfl
def p_slices_stableCmpFunc_float32_l2 (l_data : List Nat) (n : Int) (a : Int) (b : Int) (y1_1 : List Nat) (k2_2 : Int → Int → Int → (List Nat) → (List Nat)) : Nat → Int → Int → Int → (List Nat) → (List Nat)
  | 0, _, _, _, _ => []
  | μ2 + 1, blockSize, a_7, b_8, y2_1 => (bif decide ((blockSize : Int) < n) then (p_slices_stableCmpFunc_float32_l3 l_data n a b y1_1 blockSize a_7 b_8 y2_1 (fun (a_7' : Int) (b_8' : Int) (y3_1 : List Nat) => (bif decide (((a_7' + blockSize) : Int) < n) then (p_slices_stableCmpFunc_float32_l2 l_data n a b y1_1 k2_2 μ2 (blockSize * 2) a_7' b_8' ((rsymM ((n - a_7').toNat) y3_1 a_7' (a_7' + blockSize) n))) else (p_slices_stableCmpFunc_float32_l2 l_data n a b y1_1 k2_2 μ2 (blockSize * 2) a_7' b_8' y3_1))) (Int.toNat (n - (0 : Int)) + 1) (0 : Int) (2 * blockSize) y2_1) else (k2_2 blockSize a_7 b_8 y2_1))
theorem p_slices_stableCmpFunc_float32_l2_s (l_data : List Nat) (n : Int) (a : Int) (b : Int) (y1_1 : List Nat) (k2_2 : Int → Int → Int → (List Nat) → (List Nat)) (μ2 : Nat) (blockSize : Int) (a_7 : Int) (b_8 : Int) (y2_1 : List Nat) : p_slices_stableCmpFunc_float32_l2 l_data n a b y1_1 k2_2 (μ2 + 1) blockSize a_7 b_8 y2_1 = (bif decide ((blockSize : Int) < n) then (p_slices_stableCmpFunc_float32_l3 l_data n a b y1_1 blockSize a_7 b_8 y2_1 (fun (a_7' : Int) (b_8' : Int) (y3_1 : List Nat) => (bif decide (((a_7' + blockSize) : Int) < n) then (p_slices_stableCmpFunc_float32_l2 l_data n a b y1_1 k2_2 μ2 (blockSize * 2) a_7' b_8' ((rsymM ((n - a_7').toNat) y3_1 a_7' (a_7' + blockSize) n))) else (p_slices_stableCmpFunc_float32_l2 l_data n a b y1_1 k2_2 μ2 (blockSize * 2) a_7' b_8' y3_1))) (Int.toNat (n - (0 : Int)) + 1) (0 : Int) (2 * blockSize) y2_1) else (k2_2 blockSize a_7 b_8 y2_1)) := rfl
def p_slices_stableCmpFunc_float32_l1 (l_data : List Nat) (n : Int) : Nat → Int → Int → (List Nat) → (List Nat)
  | 0, _, _, _ => []
  | μ + 1, a, b, y1_1 => (bif decide ((b : Int) ≤ n) then (p_slices_stableCmpFunc_float32_l1 l_data n μ b (b + 20) (p_slices_insertionSortCmpFunc_float32 y1_1 a b)) else (p_slices_stableCmpFunc_float32_l2 l_data n a b y1_1 (fun (blockSize : Int) (a_7 : Int) (b_8 : Int) (y2_1 : List Nat) => y2_1) (Int.toNat (n - (20 : Int)) + 1) (20 : Int) a b (p_slices_insertionSortCmpFunc_float32 y1_1 a n)))
theorem p_slices_stableCmpFunc_float32_l1_s (l_data : List Nat) (n : Int) (μ : Nat) (a : Int) (b : Int) (y1_1 : List Nat) : p_slices_stableCmpFunc_float32_l1 l_data n (μ + 1) a b y1_1 = (bif decide ((b : Int) ≤ n) then (p_slices_stableCmpFunc_float32_l1 l_data n μ b (b + 20) (p_slices_insertionSortCmpFunc_float32 y1_1 a b)) else (p_slices_stableCmpFunc_float32_l2 l_data n a b y1_1 (fun (blockSize : Int) (a_7 : Int) (b_8 : Int) (y2_1 : List Nat) => y2_1) (Int.toNat (n - (20 : Int)) + 1) (20 : Int) a b (p_slices_insertionSortCmpFunc_float32 y1_1 a n))) := rfl
def p_slices_stableCmpFunc_float32 (l_data : List Nat) (n : Int) : (List Nat) := (p_slices_stableCmpFunc_float32_l1 l_data n (Int.toNat (n - (0 : Int)) + 1) (0 : Int) (20 : Int) l_data)
theorem p_slices_stableCmpFunc_float32_eq (l_data : List Nat) (n : Int) : p_slices_stableCmpFunc_float32 l_data n = (p_slices_stableCmpFunc_float32_l1 l_data n (Int.toNat (n - (0 : Int)) + 1) (0 : Int) (20 : Int) l_data) := rfl
def T_slices_stableCmpFunc_float32 (data_a : Option Addr) (data_n : Nat) (data_e : Nat) (n : Int) (H : AHeap) (K : AHeap → Prop) : Prop := ∃ lo : Nat, ∃ (l_data : List Nat), OwnS fF H lo data_a data_n data_e l_data ∧ l_data.length < 1073741824 ∧ n = l_data.length ∧ ((∀ H' : AHeap, KeepA data_a H H' → OwnS fF H' lo data_a data_n data_e (p_slices_stableCmpFunc_float32 l_data n) → K  H'))
theorem T_slices_stableCmpFunc_float32_i {data_a : Option Addr} {data_n : Nat} {data_e : Nat} {n : Int} {H : AHeap} {K : AHeap → Prop} (h : ∃ lo : Nat, ∃ (l_data : List Nat), OwnS fF H lo data_a data_n data_e l_data ∧ l_data.length < 1073741824 ∧ n = l_data.length ∧ ((∀ H' : AHeap, KeepA data_a H H' → OwnS fF H' lo data_a data_n data_e (p_slices_stableCmpFunc_float32 l_data n) → K  H'))) : T_slices_stableCmpFunc_float32 data_a data_n data_e n H K := h
theorem st_l3 (l : List Nat) (n a0 b0 : Int) (y1 : List Nat) (s a7 b8 : Int) (y2 : List Nat) (k : Int → Int → List Nat → List Nat) (G : List Nat → List Nat) (hs : 0 < s)
    (hk : ∀ (a b : Int) (y : List Nat), 0 ≤ a → a ≤ n → (y.length : Int) = n → k a b y = G (if a.toNat + s.toNat < y.length then So.symM kappa (y.length - a.toNat) y a.toNat (a.toNat + s.toNat) y.length else y)) :
    ∀ (μ : Nat) (a b : Int) (y : List Nat), n - a ≤ μ → 0 ≤ a → a ≤ n → b = a + 2 * s → (y.length : Int) = n →
      p_slices_stableCmpFunc_float32_l3 l n a0 b0 y1 s a7 b8 y2 k (μ + 1) a b y = G (So.mrgs kappa s.toNat (μ + 1) y a.toNat) := by
  intro μ
  induction μ with
  | zero =>
    intro a b y h1 h2 h3 h4 h5
    rw [p_slices_stableCmpFunc_float32_l3_s, decide_eq_false (by omega), cond_false, hk a b y h2 h3 h5]
    unfold So.mrgs
    rw [if_neg (c := a.toNat + 2 * s.toNat ≤ y.length) (by omega)]
  | succ μ ih =>
    intro a b y h1 h2 h3 h4 h5
    rw [p_slices_stableCmpFunc_float32_l3_s]
    unfold So.mrgs
    by_cases h : b ≤ n
    · rw [decide_eq_true h, cond_true, if_pos (c := a.toNat + 2 * s.toNat ≤ y.length) (by omega), ih b (b + 2 * s) _ (by omega) (by omega) h rfl (by rw [rsymM_len]; exact h5)]
      unfold rsymM
      rw [show (b - a).toNat = 2 * s.toNat by omega, show (a + s).toNat = a.toNat + s.toNat by omega, show b.toNat = a.toNat + 2 * s.toNat by omega]
    · rw [decide_eq_false h, cond_false, if_neg (c := a.toNat + 2 * s.toNat ≤ y.length) (by omega), hk a b y h2 h3 h5]
theorem stb_len (κ : Nat → Int) : ∀ (f : Nat) (l : List Nat) (s : Nat), (So.mrgs κ s f l = So.mrgs κ s f l) := fun _ _ _ => rfl
theorem mrgs_length (κ : Nat → Int) (s : Nat) : ∀ (f : Nat) (l : List Nat) (a : Nat), (So.mrgs κ s f l a).length = l.length
  | 0, _, _ => rfl
  | f + 1, l, a => by
    unfold So.mrgs
    split
    · rw [mrgs_length κ s f, So.symM_length]
    · split
      · rw [So.symM_length]
      · rfl
theorem stb_length (κ : Nat → Int) : ∀ (f : Nat) (l : List Nat) (s : Nat), (So.stb κ f l s).length = l.length
  | 0, _, _ => rfl
  | f + 1, l, s => by
    unfold So.stb
    split
    · rw [stb_length κ f, mrgs_length]
    · rfl
theorem blks_length (κ : Nat → Int) (s : Nat) : ∀ (f : Nat) (l : List Nat) (a : Nat), (So.blks κ s f l a).length = l.length
  | 0, _, _ => rfl
  | f + 1, l, a => by
    unfold So.blks
    split
    · rw [blks_length κ s f, So.insS_length]
    · rw [So.insS_length]
theorem st_l2 (l : List Nat) (n a0 b0 : Int) (y1 : List Nat) : ∀ (μ : Nat) (s a7 b8 : Int) (y : List Nat), n - s ≤ μ → 0 < s → (y.length : Int) = n →
    p_slices_stableCmpFunc_float32_l2 l n a0 b0 y1 (fun _ _ _ y => y) (μ + 1) s a7 b8 y = So.stb kappa (μ + 1) y s.toNat := by
  intro μ
  induction μ with
  | zero =>
    intro s a7 b8 y h1 h2 h3
    rw [p_slices_stableCmpFunc_float32_l2_s, decide_eq_false (by omega), cond_false]
    unfold So.stb
    rw [if_neg (by omega)]
  | succ μ ih =>
    intro s a7 b8 y h1 h2 h3
    rw [p_slices_stableCmpFunc_float32_l2_s]
    unfold So.stb
    by_cases h : s < n
    · rw [decide_eq_true h, cond_true, if_pos (by omega)]
      rw [st_l3 l n a0 b0 y1 s a7 b8 y _ (fun y => So.stb kappa (μ + 1) y (2 * s.toNat)) h2 ?_ _ 0 _ y (by omega) (by omega) (by omega) (by omega) h3]
      · rw [show (n - 0).toNat = y.length by omega]; rfl
      · intro a b y' g1 g2 g3
        by_cases hc : a + s < n
        · rw [decide_eq_true hc, cond_true, if_pos (by omega), ih (s * 2) a b _ (by omega) (by omega) (by rw [rsymM_len]; exact g3)]
          unfold rsymM
          rw [show (n - a).toNat = y'.length - a.toNat by omega, show (a + s).toNat = a.toNat + s.toNat by omega, show n.toNat = y'.length by omega, show (s * 2).toNat = 2 * s.toNat by omega]
        · rw [decide_eq_false hc, cond_false, if_neg (by omega), ih (s * 2) a b _ (by omega) (by omega) g3, show (s * 2).toNat = 2 * s.toNat by omega]
    · rw [decide_eq_false h, cond_false, if_neg (by omega)]
theorem st_l1 (l : List Nat) (n : Int) : ∀ (μ : Nat) (a b : Int) (y : List Nat), n - a ≤ μ → 0 ≤ a → b = a + 20 → (y.length : Int) = n →
    p_slices_stableCmpFunc_float32_l1 l n (μ + 1) a b y = So.stb kappa ((n - 20).toNat + 1) (So.blks kappa 20 (μ + 1) y a.toNat) 20 := by
  intro μ
  induction μ with
  | zero =>
    intro a b y h1 h2 h3 h4
    rw [p_slices_stableCmpFunc_float32_l1_s, decide_eq_false (by omega), cond_false, slices_insertionSort_eq _ _ _ h2, st_l2 _ _ _ _ _ _ _ _ _ _ (by omega) (by omega) (by rw [So.insS_length]; exact h4)]
    unfold So.blks
    rw [if_neg (by omega), show (n - (a + 1)).toNat = y.length - a.toNat - 1 by omega]; rfl
  | succ μ ih =>
    intro a b y h1 h2 h3 h4
    rw [p_slices_stableCmpFunc_float32_l1_s]
    unfold So.blks
    by_cases h : b ≤ n
    · rw [decide_eq_true h, cond_true, if_pos (by omega), slices_insertionSort_eq _ _ _ h2, ih b (b + 20) _ (by omega) (by omega) rfl (by rw [So.insS_length]; exact h4)]
      rw [show (b - (a + 1)).toNat = 20 - 1 by omega, show b.toNat = a.toNat + 20 by omega]
    · rw [decide_eq_false h, cond_false, slices_insertionSort_eq _ _ _ h2, st_l2 _ _ _ _ _ _ _ _ _ _ (by omega) (by omega) (by rw [So.insS_length]; exact h4), if_neg (by omega)]
      rw [show (n - (a + 1)).toNat = y.length - a.toNat - 1 by omega]; rfl
theorem slices_stable_eq (l : List Nat) (n : Int) (h : n = l.length) : p_slices_stableCmpFunc_float32 l n = So.stb kappa ((n - 20).toNat + 1) (So.blks kappa 20 (n.toNat + 1) l 0) 20 := by
  rw [p_slices_stableCmpFunc_float32_eq, st_l1 l n _ 0 20 l (by omega) (by omega) (by omega) h.symm, show (n - 0).toNat = n.toNat by omega]; rfl
theorem slices_stable_len (l : List Nat) (n : Int) (h : n = l.length) : (p_slices_stableCmpFunc_float32 l n).length = l.length := by
  rw [slices_stable_eq l n h, stb_length, blks_length]
/-- The library's stable sort sorts, and keeps equals in order. -/
theorem slices_stable_ss (l : List Nat) (n : Int) (h : n = l.length) : So.SS kappa l (p_slices_stableCmpFunc_float32 l n) := by
  rw [slices_stable_eq l n h]
  have := So.blks_spec (κ := kappa) 20 (by decide) (n.toNat + 1) l [] 0 (by omega) rfl (by simp)
  simp only [List.flatten_nil, List.nil_append] at this
  refine So.SS.behind this.2 (So.stb_spec _ _ _ (by decide) ?_ this.1)
  rw [this.2.length]; omega
/-! slices_stableCmpFunc_float32: function 143 -/
def E_slices_stableCmpFunc_float32 : Env := envOf [(150, S_slices_insertionSortCmpFunc_float32), (151, S_slices_symMergeCmpFunc_float32)]
def F_slices_stableCmpFunc_float32 : List Value → AHeap → (Value → AHeap → Prop) → Prop
  | [.slice data_a data_n data_e, .int .i64 n, .func (.func 128) ⟨[]⟩ ⟨[]⟩], H, K => T_slices_stableCmpFunc_float32 data_a data_n data_e n H fun  (H' : AHeap) => K (.tuple #[]) H'
  | _, _, _ => False
def S_slices_stableCmpFunc_float32 : FSpec := { F := F_slices_stableCmpFunc_float32, quiet := false, tame := false }
theorem slices_stableCmpFunc_float32_vc (data_a : Option Addr) (data_n : Nat) (data_e : Nat) (n : Int) (H : AHeap) (K : Value → AHeap → Prop) : bodyK Try.prog E_slices_stableCmpFunc_float32 Try.f143 [.slice data_a data_n data_e, .int .i64 n, .func (.func 128) #[] #[]] H K =
  (loopK (exK Try.prog E_slices_stableCmpFunc_float32 (cl (cl (cl (cr (cr (bodyC Try.f143))))))) [.slice data_a data_n data_e, .int .i64 n, .func (.func 128) #[] #[], undef, undef, undef, .int .i64 20, .int .i64 0, .int .i64 20, undef, .int .i64 20, undef, undef, undef, undef, undef, undef, undef, undef, undef, undef, undef, undef, undef, undef, undef, undef, undef, undef, undef, undef, undef, undef, undef, undef, undef, undef, undef, undef, undef, undef, undef, undef, undef, undef, undef, undef, undef, undef, undef, undef, undef, undef, undef, undef, undef, undef, undef, undef, undef, undef, undef, undef] H (blockQ 0 (seqQ (exK Try.prog E_slices_stableCmpFunc_float32 (cr (cr (cr (bodyC Try.f143))))) (retK Try.prog Try.f143 K)))) := by kernel_rfl
theorem slices_stableCmpFunc_float32_r1 (data_a : Option Addr) (data_e : Nat) (data_n : Nat) (n : Int) (a : Int) (b : Int) (g11 g12 g13 g14 g15 g16 g17 g18 g19 g20 g21 g22 : Value) (H : AHeap) (R : Post) : exK Try.prog E_slices_stableCmpFunc_float32 (cl (cl (cl (cr (cr (bodyC Try.f143)))))) [.slice data_a data_n data_e, .int .i64 n, .func (.func 128) #[] #[], undef, undef, undef, .int .i64 20, .int .i64 a, .int .i64 b, undef, .int .i64 20, g11, g12, g13, g14, g15, g16, g17, g18, g19, g20, g21, g22, undef, undef, undef, undef, undef, undef, undef, undef, undef, undef, undef, undef, undef, undef, undef, undef, undef, undef, undef, undef, undef, undef, undef, undef, undef, undef, undef, undef, undef, undef, undef, undef, undef, undef, undef, undef, undef, undef, undef, undef] H R =
  (Br (decide ((b : Int) ≤ n)) (T_slices_insertionSortCmpFunc_float32 data_a data_n data_e a b H fun  (H1 : AHeap) => R .normal [.slice data_a data_n data_e, .int .i64 n, .func (.func 128) #[] #[], undef, undef, undef, .int .i64 20, .int .i64 b, .int .i64 (IntKind.wrap .i64 (b + 20)), undef, .int .i64 20, .int .i64 b, .int .i64 n, .bool (decide ((b : Int) ≤ n)), .slice data_a data_n data_e, .int .i64 a, .int .i64 b, .func (.func 128) #[] #[], .tuple #[], .int .i64 b, .int .i64 b, .int .i64 20, .int .i64 (IntKind.wrap .i64 (b + 20)), undef, undef, undef, undef, undef, undef, undef, undef, undef, undef, undef, undef, undef, undef, undef, undef, undef, undef, undef, undef, undef, undef, undef, undef, undef, undef, undef, undef, undef, undef, undef, undef, undef, undef, undef, undef, undef, undef, undef, undef] H1) (R (.exit 0) [.slice data_a data_n data_e, .int .i64 n, .func (.func 128) #[] #[], undef, undef, undef, .int .i64 20, .int .i64 a, .int .i64 b, undef, .int .i64 20, .int .i64 b, .int .i64 n, .bool (decide ((b : Int) ≤ n)), g14, g15, g16, g17, g18, g19, g20, g21, g22, undef, undef, undef, undef, undef, undef, undef, undef, undef, undef, undef, undef, undef, undef, undef, undef, undef, undef, undef, undef, undef, undef, undef, undef, undef, undef, undef, undef, undef, undef, undef, undef, undef, undef, undef, undef, undef, undef, undef, undef] H)) := by kernel_rfl
def slices_stableCmpFunc_float32_I1 (data_a : Option Addr) (data_e : Nat) (data_n : Nat) (n : Int) (Inv : Nat → Int → Int → AHeap → Prop) : Nat → List Value → AHeap → Prop := fun μ tm H => ∃ (a : Int), ∃ (b : Int), ∃ g11 g12 g13 g14 g15 g16 g17 g18 g19 g20 g21 g22, tm = [.slice data_a data_n data_e, .int .i64 n, .func (.func 128) #[] #[], undef, undef, undef, .int .i64 20, .int .i64 a, .int .i64 b, undef, .int .i64 20, g11, g12, g13, g14, g15, g16, g17, g18, g19, g20, g21, g22, undef, undef, undef, undef, undef, undef, undef, undef, undef, undef, undef, undef, undef, undef, undef, undef, undef, undef, undef, undef, undef, undef, undef, undef, undef, undef, undef, undef, undef, undef, undef, undef, undef, undef, undef, undef, undef, undef, undef, undef] ∧ Inv μ a b H
theorem slices_stableCmpFunc_float32_L1 (data_a : Option Addr) (data_e : Nat) (data_n : Nat) (n : Int) {Q : Post} (Inv : Nat → Int → Int → AHeap → Prop) (ν : Nat) (a : Int) (b : Int) (g11 g12 g13 g14 g15 g16 g17 g18 g19 g20 g21 g22 : Value) (H : AHeap) (h0 : Inv ν a b H)
    (hs : ∀ (μ : Nat) (a : Int) (b : Int) (g11 g12 g13 g14 g15 g16 g17 g18 g19 g20 g21 g22 : Value) (H : AHeap), Inv μ a b H → exK Try.prog E_slices_stableCmpFunc_float32 (cl (cl (cl (cr (cr (bodyC Try.f143)))))) [.slice data_a data_n data_e, .int .i64 n, .func (.func 128) #[] #[], undef, undef, undef, .int .i64 20, .int .i64 a, .int .i64 b, undef, .int .i64 20, g11, g12, g13, g14, g15, g16, g17, g18, g19, g20, g21, g22, undef, undef, undef, undef, undef, undef, undef, undef, undef, undef, undef, undef, undef, undef, undef, undef, undef, undef, undef, undef, undef, undef, undef, undef, undef, undef, undef, undef, undef, undef, undef, undef, undef, undef, undef, undef, undef, undef, undef, undef] H (loopQ (slices_stableCmpFunc_float32_I1 data_a data_e data_n n Inv) μ Q)) : loopK (exK Try.prog E_slices_stableCmpFunc_float32 (cl (cl (cl (cr (cr (bodyC Try.f143))))))) [.slice data_a data_n data_e, .int .i64 n, .func (.func 128) #[] #[], undef, undef, undef, .int .i64 20, .int .i64 a, .int .i64 b, undef, .int .i64 20, g11, g12, g13, g14, g15, g16, g17, g18, g19, g20, g21, g22, undef, undef, undef, undef, undef, undef, undef, undef, undef, undef, undef, undef, undef, undef, undef, undef, undef, undef, undef, undef, undef, undef, undef, undef, undef, undef, undef, undef, undef, undef, undef, undef, undef, undef, undef, undef, undef, undef, undef, undef] H Q :=
  ⟨slices_stableCmpFunc_float32_I1 data_a data_e data_n n Inv, ν, ⟨a, b, g11, g12, g13, g14, g15, g16, g17, g18, g19, g20, g21, g22, rfl, h0⟩, fun μ tm H h => by obtain ⟨a, b, g11, g12, g13, g14, g15, g16, g17, g18, g19, g20, g21, g22, rfl, hI⟩ := h; exact hs μ a b g11 g12 g13 g14 g15 g16 g17 g18 g19 g20 g21 g22 H hI⟩
theorem slices_stableCmpFunc_float32_n1 {data_a : Option Addr} {data_e : Nat} {data_n : Nat} {n : Int} {Q : Post} {Inv : Nat → Int → Int → AHeap → Prop} {μ : Nat} (μ' : Nat) {a : Int} {b : Int} {g11 g12 g13 g14 g15 g16 g17 g18 g19 g20 g21 g22 : Value} {H : AHeap} (hm : μ' < μ) (hI : Inv μ' a b H) : loopQ (slices_stableCmpFunc_float32_I1 data_a data_e data_n n Inv) μ Q .normal [.slice data_a data_n data_e, .int .i64 n, .func (.func 128) #[] #[], undef, undef, undef, .int .i64 20, .int .i64 a, .int .i64 b, undef, .int .i64 20, g11, g12, g13, g14, g15, g16, g17, g18, g19, g20, g21, g22, undef, undef, undef, undef, undef, undef, undef, undef, undef, undef, undef, undef, undef, undef, undef, undef, undef, undef, undef, undef, undef, undef, undef, undef, undef, undef, undef, undef, undef, undef, undef, undef, undef, undef, undef, undef, undef, undef, undef, undef] H := ⟨μ', hm, a, b, g11, g12, g13, g14, g15, g16, g17, g18, g19, g20, g21, g22, rfl, hI⟩
theorem slices_stableCmpFunc_float32_x1_0 (data_a : Option Addr) (data_e : Nat) (data_n : Nat) (n : Int) (a : Int) (b : Int) (g11 g12 g13 g14 g15 g16 g17 g18 g19 g20 g21 g22 : Value) (H : AHeap) (K : Value → AHeap → Prop)  {I : Nat → List Value → AHeap → Prop} {μ : Nat} : loopQ I μ (blockQ 0 (seqQ (exK Try.prog E_slices_stableCmpFunc_float32 (cr (cr (cr (bodyC Try.f143))))) (retK Try.prog Try.f143 K))) (.exit 0) [.slice data_a data_n data_e, .int .i64 n, .func (.func 128) #[] #[], undef, undef, undef, .int .i64 20, .int .i64 a, .int .i64 b, undef, .int .i64 20, g11, g12, g13, g14, g15, g16, g17, g18, g19, g20, g21, g22, undef, undef, undef, undef, undef, undef, undef, undef, undef, undef, undef, undef, undef, undef, undef, undef, undef, undef, undef, undef, undef, undef, undef, undef, undef, undef, undef, undef, undef, undef, undef, undef, undef, undef, undef, undef, undef, undef, undef, undef] H =
  (T_slices_insertionSortCmpFunc_float32 data_a data_n data_e a n H fun  (H2 : AHeap) => loopK (exK Try.prog E_slices_stableCmpFunc_float32 (cl (cl (cr (cr (cr (cr (bodyC Try.f143)))))))) [.slice data_a data_n data_e, .int .i64 n, .func (.func 128) #[] #[], undef, undef, undef, .int .i64 20, .int .i64 a, .int .i64 b, undef, .int .i64 20, g11, g12, g13, g14, g15, g16, g17, g18, g19, g20, g21, g22, .slice data_a data_n data_e, .int .i64 a, .int .i64 n, .func (.func 128) #[] #[], .tuple #[], undef, undef, undef, undef, undef, undef, undef, undef, undef, undef, undef, undef, undef, undef, undef, undef, undef, undef, undef, undef, undef, undef, undef, undef, undef, undef, undef, undef, undef, undef, undef, undef, undef, undef, undef] H2 (blockQ 2 (retK Try.prog Try.f143 K))) := by kernel_rfl
theorem slices_stableCmpFunc_float32_r2 (a : Int) (data_a : Option Addr) (data_e : Nat) (data_n : Nat) (g11 : Value) (g12 : Value) (g13 : Value) (g14 : Value) (g15 : Value) (g16 : Value) (g17 : Value) (g18 : Value) (g19 : Value) (g20 : Value) (g21 : Value) (g22 : Value) (n : Int) (blockSize : Int) (a_7 : Int) (b_8 : Int) (g9 g28 g29 g30 g31 g32 g33 g34 g35 g36 g37 g38 g39 g40 g41 g42 g43 g44 g45 g46 g47 g48 g49 g50 g51 g52 g53 g54 g55 g56 g57 g58 g59 g60 g61 g62 : Value) (H : AHeap) (R : Post) : exK Try.prog E_slices_stableCmpFunc_float32 (cl (cl (cr (cr (cr (cr (bodyC Try.f143))))))) [.slice data_a data_n data_e, .int .i64 n, .func (.func 128) #[] #[], undef, undef, undef, .int .i64 blockSize, .int .i64 a_7, .int .i64 b_8, g9, .int .i64 20, g11, g12, g13, g14, g15, g16, g17, g18, g19, g20, g21, g22, .slice data_a data_n data_e, .int .i64 a, .int .i64 n, .func (.func 128) #[] #[], .tuple #[], g28, g29, g30, g31, g32, g33, g34, g35, g36, g37, g38, g39, g40, g41, g42, g43, g44, g45, g46, g47, g48, g49, g50, g51, g52, g53, g54, g55, g56, g57, g58, g59, g60, g61, g62] H R =
  (Br (decide ((blockSize : Int) < n)) (loopK (exK Try.prog E_slices_stableCmpFunc_float32 (cl (cl (cl (cr (cl (cr (cl (cl (cr (cr (cr (cr (bodyC Try.f143)))))))))))))) [.slice data_a data_n data_e, .int .i64 n, .func (.func 128) #[] #[], undef, undef, undef, .int .i64 blockSize, .int .i64 0, .int .i64 (IntKind.wrap .i64 (2 * blockSize)), g9, .int .i64 20, g11, g12, g13, g14, g15, g16, g17, g18, g19, g20, g21, g22, .slice data_a data_n data_e, .int .i64 a, .int .i64 n, .func (.func 128) #[] #[], .tuple #[], .int .i64 blockSize, .int .i64 n, .bool (decide ((blockSize : Int) < n)), .int .i64 blockSize, .int .i64 (IntKind.wrap .i64 (2 * blockSize)), g33, g34, g35, g36, g37, g38, g39, g40, g41, g42, g43, g44, g45, g46, g47, g48, g49, g50, g51, g52, g53, g54, g55, g56, g57, g58, g59, g60, g61, g62] H (blockQ 4 (seqQ (exK Try.prog E_slices_stableCmpFunc_float32 (cr (cr (cl (cr (cl (cl (cr (cr (cr (cr (bodyC Try.f143)))))))))))) (blockQ 3 (R))))) (R (.exit 2) [.slice data_a data_n data_e, .int .i64 n, .func (.func 128) #[] #[], undef, undef, undef, .int .i64 blockSize, .int .i64 a_7, .int .i64 b_8, g9, .int .i64 20, g11, g12, g13, g14, g15, g16, g17, g18, g19, g20, g21, g22, .slice data_a data_n data_e, .int .i64 a, .int .i64 n, .func (.func 128) #[] #[], .tuple #[], .int .i64 blockSize, .int .i64 n, .bool (decide ((blockSize : Int) < n)), g31, g32, g33, g34, g35, g36, g37, g38, g39, g40, g41, g42, g43, g44, g45, g46, g47, g48, g49, g50, g51, g52, g53, g54, g55, g56, g57, g58, g59, g60, g61, g62] H)) := by kernel_rfl
def slices_stableCmpFunc_float32_I2 (a : Int) (data_a : Option Addr) (data_e : Nat) (data_n : Nat) (g11 : Value) (g12 : Value) (g13 : Value) (g14 : Value) (g15 : Value) (g16 : Value) (g17 : Value) (g18 : Value) (g19 : Value) (g20 : Value) (g21 : Value) (g22 : Value) (n : Int) (Inv : Nat → Int → Int → Int → AHeap → Prop) : Nat → List Value → AHeap → Prop := fun μ tm H => ∃ (blockSize : Int), ∃ (a_7 : Int), ∃ (b_8 : Int), ∃ g9 g28 g29 g30 g31 g32 g33 g34 g35 g36 g37 g38 g39 g40 g41 g42 g43 g44 g45 g46 g47 g48 g49 g50 g51 g52 g53 g54 g55 g56 g57 g58 g59 g60 g61 g62, tm = [.slice data_a data_n data_e, .int .i64 n, .func (.func 128) #[] #[], undef, undef, undef, .int .i64 blockSize, .int .i64 a_7, .int .i64 b_8, g9, .int .i64 20, g11, g12, g13, g14, g15, g16, g17, g18, g19, g20, g21, g22, .slice data_a data_n data_e, .int .i64 a, .int .i64 n, .func (.func 128) #[] #[], .tuple #[], g28, g29, g30, g31, g32, g33, g34, g35, g36, g37, g38, g39, g40, g41, g42, g43, g44, g45, g46, g47, g48, g49, g50, g51, g52, g53, g54, g55, g56, g57, g58, g59, g60, g61, g62] ∧ Inv μ blockSize a_7 b_8 H
theorem slices_stableCmpFunc_float32_L2 (a : Int) (data_a : Option Addr) (data_e : Nat) (data_n : Nat) (g11 : Value) (g12 : Value) (g13 : Value) (g14 : Value) (g15 : Value) (g16 : Value) (g17 : Value) (g18 : Value) (g19 : Value) (g20 : Value) (g21 : Value) (g22 : Value) (n : Int) {Q : Post} (Inv : Nat → Int → Int → Int → AHeap → Prop) (ν : Nat) (blockSize : Int) (a_7 : Int) (b_8 : Int) (g9 g28 g29 g30 g31 g32 g33 g34 g35 g36 g37 g38 g39 g40 g41 g42 g43 g44 g45 g46 g47 g48 g49 g50 g51 g52 g53 g54 g55 g56 g57 g58 g59 g60 g61 g62 : Value) (H : AHeap) (h0 : Inv ν blockSize a_7 b_8 H)
    (hs : ∀ (μ : Nat) (blockSize : Int) (a_7 : Int) (b_8 : Int) (g9 g28 g29 g30 g31 g32 g33 g34 g35 g36 g37 g38 g39 g40 g41 g42 g43 g44 g45 g46 g47 g48 g49 g50 g51 g52 g53 g54 g55 g56 g57 g58 g59 g60 g61 g62 : Value) (H : AHeap), Inv μ blockSize a_7 b_8 H → exK Try.prog E_slices_stableCmpFunc_float32 (cl (cl (cr (cr (cr (cr (bodyC Try.f143))))))) [.slice data_a data_n data_e, .int .i64 n, .func (.func 128) #[] #[], undef, undef, undef, .int .i64 blockSize, .int .i64 a_7, .int .i64 b_8, g9, .int .i64 20, g11, g12, g13, g14, g15, g16, g17, g18, g19, g20, g21, g22, .slice data_a data_n data_e, .int .i64 a, .int .i64 n, .func (.func 128) #[] #[], .tuple #[], g28, g29, g30, g31, g32, g33, g34, g35, g36, g37, g38, g39, g40, g41, g42, g43, g44, g45, g46, g47, g48, g49, g50, g51, g52, g53, g54, g55, g56, g57, g58, g59, g60, g61, g62] H (loopQ (slices_stableCmpFunc_float32_I2 a data_a data_e data_n g11 g12 g13 g14 g15 g16 g17 g18 g19 g20 g21 g22 n Inv) μ Q)) : loopK (exK Try.prog E_slices_stableCmpFunc_float32 (cl (cl (cr (cr (cr (cr (bodyC Try.f143)))))))) [.slice data_a data_n data_e, .int .i64 n, .func (.func 128) #[] #[], undef, undef, undef, .int .i64 blockSize, .int .i64 a_7, .int .i64 b_8, g9, .int .i64 20, g11, g12, g13, g14, g15, g16, g17, g18, g19, g20, g21, g22, .slice data_a data_n data_e, .int .i64 a, .int .i64 n, .func (.func 128) #[] #[], .tuple #[], g28, g29, g30, g31, g32, g33, g34, g35, g36, g37, g38, g39, g40, g41, g42, g43, g44, g45, g46, g47, g48, g49, g50, g51, g52, g53, g54, g55, g56, g57, g58, g59, g60, g61, g62] H Q :=
  ⟨slices_stableCmpFunc_float32_I2 a data_a data_e data_n g11 g12 g13 g14 g15 g16 g17 g18 g19 g20 g21 g22 n Inv, ν, ⟨blockSize, a_7, b_8, g9, g28, g29, g30, g31, g32, g33, g34, g35, g36, g37, g38, g39, g40, g41, g42, g43, g44, g45, g46, g47, g48, g49, g50, g51, g52, g53, g54, g55, g56, g57, g58, g59, g60, g61, g62, rfl, h0⟩, fun μ tm H h => by obtain ⟨blockSize, a_7, b_8, g9, g28, g29, g30, g31, g32, g33, g34, g35, g36, g37, g38, g39, g40, g41, g42, g43, g44, g45, g46, g47, g48, g49, g50, g51, g52, g53, g54, g55, g56, g57, g58, g59, g60, g61, g62, rfl, hI⟩ := h; exact hs μ blockSize a_7 b_8 g9 g28 g29 g30 g31 g32 g33 g34 g35 g36 g37 g38 g39 g40 g41 g42 g43 g44 g45 g46 g47 g48 g49 g50 g51 g52 g53 g54 g55 g56 g57 g58 g59 g60 g61 g62 H hI⟩
theorem slices_stableCmpFunc_float32_n2 {a : Int} {data_a : Option Addr} {data_e : Nat} {data_n : Nat} {g11 : Value} {g12 : Value} {g13 : Value} {g14 : Value} {g15 : Value} {g16 : Value} {g17 : Value} {g18 : Value} {g19 : Value} {g20 : Value} {g21 : Value} {g22 : Value} {n : Int} {Q : Post} {Inv : Nat → Int → Int → Int → AHeap → Prop} {μ : Nat} (μ' : Nat) {blockSize : Int} {a_7 : Int} {b_8 : Int} {g9 g28 g29 g30 g31 g32 g33 g34 g35 g36 g37 g38 g39 g40 g41 g42 g43 g44 g45 g46 g47 g48 g49 g50 g51 g52 g53 g54 g55 g56 g57 g58 g59 g60 g61 g62 : Value} {H : AHeap} (hm : μ' < μ) (hI : Inv μ' blockSize a_7 b_8 H) : loopQ (slices_stableCmpFunc_float32_I2 a data_a data_e data_n g11 g12 g13 g14 g15 g16 g17 g18 g19 g20 g21 g22 n Inv) μ Q .normal [.slice data_a data_n data_e, .int .i64 n, .func (.func 128) #[] #[], undef, undef, undef, .int .i64 blockSize, .int .i64 a_7, .int .i64 b_8, g9, .int .i64 20, g11, g12, g13, g14, g15, g16, g17, g18, g19, g20, g21, g22, .slice data_a data_n data_e, .int .i64 a, .int .i64 n, .func (.func 128) #[] #[], .tuple #[], g28, g29, g30, g31, g32, g33, g34, g35, g36, g37, g38, g39, g40, g41, g42, g43, g44, g45, g46, g47, g48, g49, g50, g51, g52, g53, g54, g55, g56, g57, g58, g59, g60, g61, g62] H := ⟨μ', hm, blockSize, a_7, b_8, g9, g28, g29, g30, g31, g32, g33, g34, g35, g36, g37, g38, g39, g40, g41, g42, g43, g44, g45, g46, g47, g48, g49, g50, g51, g52, g53, g54, g55, g56, g57, g58, g59, g60, g61, g62, rfl, hI⟩
theorem slices_stableCmpFunc_float32_x2_2 (a : Int) (data_a : Option Addr) (data_e : Nat) (data_n : Nat) (g11 : Value) (g12 : Value) (g13 : Value) (g14 : Value) (g15 : Value) (g16 : Value) (g17 : Value) (g18 : Value) (g19 : Value) (g20 : Value) (g21 : Value) (g22 : Value) (n : Int) (blockSize : Int) (a_7 : Int) (b_8 : Int) (g9 g28 g29 g30 g31 g32 g33 g34 g35 g36 g37 g38 g39 g40 g41 g42 g43 g44 g45 g46 g47 g48 g49 g50 g51 g52 g53 g54 g55 g56 g57 g58 g59 g60 g61 g62 : Value) (H : AHeap) (K : Value → AHeap → Prop)  {I : Nat → List Value → AHeap → Prop} {μ : Nat} : loopQ I μ (blockQ 2 (retK Try.prog Try.f143 K)) (.exit 2) [.slice data_a data_n data_e, .int .i64 n, .func (.func 128) #[] #[], undef, undef, undef, .int .i64 blockSize, .int .i64 a_7, .int .i64 b_8, g9, .int .i64 20, g11, g12, g13, g14, g15, g16, g17, g18, g19, g20, g21, g22, .slice data_a data_n data_e, .int .i64 a, .int .i64 n, .func (.func 128) #[] #[], .tuple #[], g28, g29, g30, g31, g32, g33, g34, g35, g36, g37, g38, g39, g40, g41, g42, g43, g44, g45, g46, g47, g48, g49, g50, g51, g52, g53, g54, g55, g56, g57, g58, g59, g60, g61, g62] H =
  (K (.tuple #[]) H) := by kernel_rfl
theorem slices_stableCmpFunc_float32_r3 (a : Int) (blockSize : Int) (data_a : Option Addr) (data_e : Nat) (data_n : Nat) (g11 : Value) (g12 : Value) (g13 : Value) (g14 : Value) (g15 : Value) (g16 : Value) (g17 : Value) (g18 : Value) (g19 : Value) (g20 : Value) (g21 : Value) (g22 : Value) (g49 : Value) (g50 : Value) (g51 : Value) (g52 : Value) (g53 : Value) (g54 : Value) (g55 : Value) (g56 : Value) (g57 : Value) (g58 : Value) (g59 : Value) (g60 : Value) (g61 : Value) (g62 : Value) (g9 : Value) (n : Int) (z3_32 : Int) (a_7' : Int) (b_8' : Int) (g33 g34 g35 g36 g37 g38 g39 g40 g41 g42 g43 g44 g45 g46 g47 g48 : Value) (H : AHeap) (R : Post) : exK Try.prog E_slices_stableCmpFunc_float32 (cl (cl (cl (cr (cl (cr (cl (cl (cr (cr (cr (cr (bodyC Try.f143))))))))))))) [.slice data_a data_n data_e, .int .i64 n, .func (.func 128) #[] #[], undef, undef, undef, .int .i64 blockSize, .int .i64 a_7', .int .i64 b_8', g9, .int .i64 20, g11, g12, g13, g14, g15, g16, g17, g18, g19, g20, g21, g22, .slice data_a data_n data_e, .int .i64 a, .int .i64 n, .func (.func 128) #[] #[], .tuple #[], .int .i64 blockSize, .int .i64 n, .bool (decide ((blockSize : Int) < n)), .int .i64 blockSize, .int .i64 z3_32, g33, g34, g35, g36, g37, g38, g39, g40, g41, g42, g43, g44, g45, g46, g47, g48, g49, g50, g51, g52, g53, g54, g55, g56, g57, g58, g59, g60, g61, g62] H R =
  (Br (decide ((b_8' : Int) ≤ n)) (T_slices_symMergeCmpFunc_float32 data_a data_n data_e a_7' (IntKind.wrap .i64 (a_7' + blockSize)) b_8' H fun  (H3 : AHeap) => R .normal [.slice data_a data_n data_e, .int .i64 n, .func (.func 128) #[] #[], undef, undef, undef, .int .i64 blockSize, .int .i64 b_8', .int .i64 (IntKind.wrap .i64 (b_8' + (IntKind.wrap .i64 (2 * blockSize)))), g9, .int .i64 20, g11, g12, g13, g14, g15, g16, g17, g18, g19, g20, g21, g22, .slice data_a data_n data_e, .int .i64 a, .int .i64 n, .func (.func 128) #[] #[], .tuple #[], .int .i64 blockSize, .int .i64 n, .bool (decide ((blockSize : Int) < n)), .int .i64 blockSize, .int .i64 z3_32, .int .i64 b_8', .int .i64 n, .bool (decide ((b_8' : Int) ≤ n)), .slice data_a data_n data_e, .int .i64 a_7', .int .i64 a_7', .int .i64 blockSize, .int .i64 (IntKind.wrap .i64 (a_7' + blockSize)), .int .i64 b_8', .func (.func 128) #[] #[], .tuple #[], .int .i64 b_8', .int .i64 b_8', .int .i64 blockSize, .int .i64 (IntKind.wrap .i64 (2 * blockSize)), .int .i64 (IntKind.wrap .i64 (b_8' + (IntKind.wrap .i64 (2 * blockSize)))), g49, g50, g51, g52, g53, g54, g55, g56, g57, g58, g59, g60, g61, g62] H3) (R (.exit 4) [.slice data_a data_n data_e, .int .i64 n, .func (.func 128) #[] #[], undef, undef, undef, .int .i64 blockSize, .int .i64 a_7', .int .i64 b_8', g9, .int .i64 20, g11, g12, g13, g14, g15, g16, g17, g18, g19, g20, g21, g22, .slice data_a data_n data_e, .int .i64 a, .int .i64 n, .func (.func 128) #[] #[], .tuple #[], .int .i64 blockSize, .int .i64 n, .bool (decide ((blockSize : Int) < n)), .int .i64 blockSize, .int .i64 z3_32, .int .i64 b_8', .int .i64 n, .bool (decide ((b_8' : Int) ≤ n)), g36, g37, g38, g39, g40, g41, g42, g43, g44, g45, g46, g47, g48, g49, g50, g51, g52, g53, g54, g55, g56, g57, g58, g59, g60, g61, g62] H)) := by kernel_rfl
def slices_stableCmpFunc_float32_I3 (a : Int) (blockSize : Int) (data_a : Option Addr) (data_e : Nat) (data_n : Nat) (g11 : Value) (g12 : Value) (g13 : Value) (g14 : Value) (g15 : Value) (g16 : Value) (g17 : Value) (g18 : Value) (g19 : Value) (g20 : Value) (g21 : Value) (g22 : Value) (g49 : Value) (g50 : Value) (g51 : Value) (g52 : Value) (g53 : Value) (g54 : Value) (g55 : Value) (g56 : Value) (g57 : Value) (g58 : Value) (g59 : Value) (g60 : Value) (g61 : Value) (g62 : Value) (g9 : Value) (n : Int) (z3_32 : Int) (Inv : Nat → Int → Int → AHeap → Prop) : Nat → List Value → AHeap → Prop := fun μ tm H => ∃ (a_7' : Int), ∃ (b_8' : Int), ∃ g33 g34 g35 g36 g37 g38 g39 g40 g41 g42 g43 g44 g45 g46 g47 g48, tm = [.slice data_a data_n data_e, .int .i64 n, .func (.func 128) #[] #[], undef, undef, undef, .int .i64 blockSize, .int .i64 a_7', .int .i64 b_8', g9, .int .i64 20, g11, g12, g13, g14, g15, g16, g17, g18, g19, g20, g21, g22, .slice data_a data_n data_e, .int .i64 a, .int .i64 n, .func (.func 128) #[] #[], .tuple #[], .int .i64 blockSize, .int .i64 n, .bool (decide ((blockSize : Int) < n)), .int .i64 blockSize, .int .i64 z3_32, g33, g34, g35, g36, g37, g38, g39, g40, g41, g42, g43, g44, g45, g46, g47, g48, g49, g50, g51, g52, g53, g54, g55, g56, g57, g58, g59, g60, g61, g62] ∧ Inv μ a_7' b_8' H
theorem slices_stableCmpFunc_float32_L3 (a : Int) (blockSize : Int) (data_a : Option Addr) (data_e : Nat) (data_n : Nat) (g11 : Value) (g12 : Value) (g13 : Value) (g14 : Value) (g15 : Value) (g16 : Value) (g17 : Value) (g18 : Value) (g19 : Value) (g20 : Value) (g21 : Value) (g22 : Value) (g49 : Value) (g50 : Value) (g51 : Value) (g52 : Value) (g53 : Value) (g54 : Value) (g55 : Value) (g56 : Value) (g57 : Value) (g58 : Value) (g59 : Value) (g60 : Value) (g61 : Value) (g62 : Value) (g9 : Value) (n : Int) (z3_32 : Int) {Q : Post} (Inv : Nat → Int → Int → AHeap → Prop) (ν : Nat) (a_7' : Int) (b_8' : Int) (g33 g34 g35 g36 g37 g38 g39 g40 g41 g42 g43 g44 g45 g46 g47 g48 : Value) (H : AHeap) (h0 : Inv ν a_7' b_8' H)
    (hs : ∀ (μ : Nat) (a_7' : Int) (b_8' : Int) (g33 g34 g35 g36 g37 g38 g39 g40 g41 g42 g43 g44 g45 g46 g47 g48 : Value) (H : AHeap), Inv μ a_7' b_8' H → exK Try.prog E_slices_stableCmpFunc_float32 (cl (cl (cl (cr (cl (cr (cl (cl (cr (cr (cr (cr (bodyC Try.f143))))))))))))) [.slice data_a data_n data_e, .int .i64 n, .func (.func 128) #[] #[], undef, undef, undef, .int .i64 blockSize, .int .i64 a_7', .int .i64 b_8', g9, .int .i64 20, g11, g12, g13, g14, g15, g16, g17, g18, g19, g20, g21, g22, .slice data_a data_n data_e, .int .i64 a, .int .i64 n, .func (.func 128) #[] #[], .tuple #[], .int .i64 blockSize, .int .i64 n, .bool (decide ((blockSize : Int) < n)), .int .i64 blockSize, .int .i64 z3_32, g33, g34, g35, g36, g37, g38, g39, g40, g41, g42, g43, g44, g45, g46, g47, g48, g49, g50, g51, g52, g53, g54, g55, g56, g57, g58, g59, g60, g61, g62] H (loopQ (slices_stableCmpFunc_float32_I3 a blockSize data_a data_e data_n g11 g12 g13 g14 g15 g16 g17 g18 g19 g20 g21 g22 g49 g50 g51 g52 g53 g54 g55 g56 g57 g58 g59 g60 g61 g62 g9 n z3_32 Inv) μ Q)) : loopK (exK Try.prog E_slices_stableCmpFunc_float32 (cl (cl (cl (cr (cl (cr (cl (cl (cr (cr (cr (cr (bodyC Try.f143)))))))))))))) [.slice data_a data_n data_e, .int .i64 n, .func (.func 128) #[] #[], undef, undef, undef, .int .i64 blockSize, .int .i64 a_7', .int .i64 b_8', g9, .int .i64 20, g11, g12, g13, g14, g15, g16, g17, g18, g19, g20, g21, g22, .slice data_a data_n data_e, .int .i64 a, .int .i64 n, .func (.func 128) #[] #[], .tuple #[], .int .i64 blockSize, .int .i64 n, .bool (decide ((blockSize : Int) < n)), .int .i64 blockSize, .int .i64 z3_32, g33, g34, g35, g36, g37, g38, g39, g40, g41, g42, g43, g44, g45, g46, g47, g48, g49, g50, g51, g52, g53, g54, g55, g56, g57, g58, g59, g60, g61, g62] H Q :=
  ⟨slices_stableCmpFunc_float32_I3 a blockSize data_a data_e data_n g11 g12 g13 g14 g15 g16 g17 g18 g19 g20 g21 g22 g49 g50 g51 g52 g53 g54 g55 g56 g57 g58 g59 g60 g61 g62 g9 n z3_32 Inv, ν, ⟨a_7', b_8', g33, g34, g35, g36, g37, g38, g39, g40, g41, g42, g43, g44, g45, g46, g47, g48, rfl, h0⟩, fun μ tm H h => by obtain ⟨a_7', b_8', g33, g34, g35, g36, g37, g38, g39, g40, g41, g42, g43, g44, g45, g46, g47, g48, rfl, hI⟩ := h; exact hs μ a_7' b_8' g33 g34 g35 g36 g37 g38 g39 g40 g41 g42 g43 g44 g45 g46 g47 g48 H hI⟩
theorem slices_stableCmpFunc_float32_n3 {a : Int} {blockSize : Int} {data_a : Option Addr} {data_e : Nat} {data_n : Nat} {g11 : Value} {g12 : Value} {g13 : Value} {g14 : Value} {g15 : Value} {g16 : Value} {g17 : Value} {g18 : Value} {g19 : Value} {g20 : Value} {g21 : Value} {g22 : Value} {g49 : Value} {g50 : Value} {g51 : Value} {g52 : Value} {g53 : Value} {g54 : Value} {g55 : Value} {g56 : Value} {g57 : Value} {g58 : Value} {g59 : Value} {g60 : Value} {g61 : Value} {g62 : Value} {g9 : Value} {n : Int} {z3_32 : Int} {Q : Post} {Inv : Nat → Int → Int → AHeap → Prop} {μ : Nat} (μ' : Nat) {a_7' : Int} {b_8' : Int} {g33 g34 g35 g36 g37 g38 g39 g40 g41 g42 g43 g44 g45 g46 g47 g48 : Value} {H : AHeap} (hm : μ' < μ) (hI : Inv μ' a_7' b_8' H) : loopQ (slices_stableCmpFunc_float32_I3 a blockSize data_a data_e data_n g11 g12 g13 g14 g15 g16 g17 g18 g19 g20 g21 g22 g49 g50 g51 g52 g53 g54 g55 g56 g57 g58 g59 g60 g61 g62 g9 n z3_32 Inv) μ Q .normal [.slice data_a data_n data_e, .int .i64 n, .func (.func 128) #[] #[], undef, undef, undef, .int .i64 blockSize, .int .i64 a_7', .int .i64 b_8', g9, .int .i64 20, g11, g12, g13, g14, g15, g16, g17, g18, g19, g20, g21, g22, .slice data_a data_n data_e, .int .i64 a, .int .i64 n, .func (.func 128) #[] #[], .tuple #[], .int .i64 blockSize, .int .i64 n, .bool (decide ((blockSize : Int) < n)), .int .i64 blockSize, .int .i64 z3_32, g33, g34, g35, g36, g37, g38, g39, g40, g41, g42, g43, g44, g45, g46, g47, g48, g49, g50, g51, g52, g53, g54, g55, g56, g57, g58, g59, g60, g61, g62] H := ⟨μ', hm, a_7', b_8', g33, g34, g35, g36, g37, g38, g39, g40, g41, g42, g43, g44, g45, g46, g47, g48, rfl, hI⟩
theorem slices_stableCmpFunc_float32_x3_4 (a : Int) (blockSize : Int) (data_a : Option Addr) (data_e : Nat) (data_n : Nat) (g11 : Value) (g12 : Value) (g13 : Value) (g14 : Value) (g15 : Value) (g16 : Value) (g17 : Value) (g18 : Value) (g19 : Value) (g20 : Value) (g21 : Value) (g22 : Value) (g49 : Value) (g50 : Value) (g51 : Value) (g52 : Value) (g53 : Value) (g54 : Value) (g55 : Value) (g56 : Value) (g57 : Value) (g58 : Value) (g59 : Value) (g60 : Value) (g61 : Value) (g62 : Value) (g9 : Value) (n : Int) (z3_32 : Int) (a_7' : Int) (b_8' : Int) (g33 g34 g35 g36 g37 g38 g39 g40 g41 g42 g43 g44 g45 g46 g47 g48 : Value) (H : AHeap)  (R : Post) {I : Nat → List Value → AHeap → Prop} {μ : Nat} : loopQ I μ (blockQ 4 (seqQ (exK Try.prog E_slices_stableCmpFunc_float32 (cr (cr (cl (cr (cl (cl (cr (cr (cr (cr (bodyC Try.f143)))))))))))) (blockQ 3 (R)))) (.exit 4) [.slice data_a data_n data_e, .int .i64 n, .func (.func 128) #[] #[], undef, undef, undef, .int .i64 blockSize, .int .i64 a_7', .int .i64 b_8', g9, .int .i64 20, g11, g12, g13, g14, g15, g16, g17, g18, g19, g20, g21, g22, .slice data_a data_n data_e, .int .i64 a, .int .i64 n, .func (.func 128) #[] #[], .tuple #[], .int .i64 blockSize, .int .i64 n, .bool (decide ((blockSize : Int) < n)), .int .i64 blockSize, .int .i64 z3_32, g33, g34, g35, g36, g37, g38, g39, g40, g41, g42, g43, g44, g45, g46, g47, g48, g49, g50, g51, g52, g53, g54, g55, g56, g57, g58, g59, g60, g61, g62] H =
  (Br (decide ((IntKind.wrap .i64 (a_7' + blockSize) : Int) < n)) (T_slices_symMergeCmpFunc_float32 data_a data_n data_e a_7' (IntKind.wrap .i64 (a_7' + blockSize)) n H fun  (H4 : AHeap) => R .normal [.slice data_a data_n data_e, .int .i64 n, .func (.func 128) #[] #[], undef, undef, undef, .int .i64 (IntKind.wrap .i64 (blockSize * 2)), .int .i64 a_7', .int .i64 b_8', .int .i64 (IntKind.wrap .i64 (a_7' + blockSize)), .int .i64 20, g11, g12, g13, g14, g15, g16, g17, g18, g19, g20, g21, g22, .slice data_a data_n data_e, .int .i64 a, .int .i64 n, .func (.func 128) #[] #[], .tuple #[], .int .i64 blockSize, .int .i64 n, .bool (decide ((blockSize : Int) < n)), .int .i64 blockSize, .int .i64 z3_32, g33, g34, g35, g36, g37, g38, g39, g40, g41, g42, g43, g44, g45, g46, g47, g48, .int .i64 a_7', .int .i64 blockSize, .int .i64 (IntKind.wrap .i64 (a_7' + blockSize)), .int .i64 (IntKind.wrap .i64 (a_7' + blockSize)), .int .i64 n, .bool (decide ((IntKind.wrap .i64 (a_7' + blockSize) : Int) < n)), .slice data_a data_n data_e, .int .i64 a_7', .int .i64 (IntKind.wrap .i64 (a_7' + blockSize)), .int .i64 n, .func (.func 128) #[] #[], .tuple #[], .int .i64 blockSize, .int .i64 (IntKind.wrap .i64 (blockSize * 2))] H4) (R .normal [.slice data_a data_n data_e, .int .i64 n, .func (.func 128) #[] #[], undef, undef, undef, .int .i64 (IntKind.wrap .i64 (blockSize * 2)), .int .i64 a_7', .int .i64 b_8', .int .i64 (IntKind.wrap .i64 (a_7' + blockSize)), .int .i64 20, g11, g12, g13, g14, g15, g16, g17, g18, g19, g20, g21, g22, .slice data_a data_n data_e, .int .i64 a, .int .i64 n, .func (.func 128) #[] #[], .tuple #[], .int .i64 blockSize, .int .i64 n, .bool (decide ((blockSize : Int) < n)), .int .i64 blockSize, .int .i64 z3_32, g33, g34, g35, g36, g37, g38, g39, g40, g41, g42, g43, g44, g45, g46, g47, g48, .int .i64 a_7', .int .i64 blockSize, .int .i64 (IntKind.wrap .i64 (a_7' + blockSize)), .int .i64 (IntKind.wrap .i64 (a_7' + blockSize)), .int .i64 n, .bool (decide ((IntKind.wrap .i64 (a_7' + blockSize) : Int) < n)), g55, g56, g57, g58, g59, g60, .int .i64 blockSize, .int .i64 (IntKind.wrap .i64 (blockSize * 2))] H)) := by kernel_rfl
theorem E_slices_stableCmpFunc_float32_ok : ∀ g, FnOk Try.prog g (E_slices_stableCmpFunc_float32 g) := FnOk.envOf (by
  intro x hx
  simp only [List.mem_cons, List.not_mem_nil, or_false] at hx
  rcases hx with rfl | rfl
  · exact slices_insertionSortCmpFunc_float32_ok
  · exact slices_symMergeCmpFunc_float32_ok)
set_option maxHeartbeats 1000000 in
theorem slices_stableCmpFunc_float32_main (data_a : Option Addr) (data_n : Nat) (data_e : Nat) (n : Int) (H : AHeap) (K : Value → AHeap → Prop) (h : T_slices_stableCmpFunc_float32 data_a data_n data_e n H fun  (H' : AHeap) => K (.tuple #[]) H') : bodyK Try.prog E_slices_stableCmpFunc_float32 Try.f143 [.slice data_a data_n data_e, .int .i64 n, .func (.func 128) #[] #[]] H K := by
  rw [slices_stableCmpFunc_float32_vc]
  obtain ⟨lo, l_data, i_data, bd_52, pr0, hk⟩ := h
  obtain rfl := i_data.len
  have up_m := i_data.up
  have lo_m := i_data.lo
  have e : (p_slices_stableCmpFunc_float32 l_data n) = _ := rfl
  have e := e.trans (p_slices_stableCmpFunc_float32_eq l_data n)
  have g0 := KeepA.refl data_a H
  refine slices_stableCmpFunc_float32_L1 _ _ _ _ (fun (μ : Nat) (a : Int) (b : Int) (H_1 : AHeap) => ∃ (y1_1 : List Nat), OwnS fF H_1 lo data_a l_data.length data_e y1_1 ∧ y1_1.length = (l_data).length ∧ H.length ≤ H_1.length ∧ KeepA data_a H H_1 ∧ 0 ≤ a ∧ b = a + 20 ∧ a ≤ n ∧ n - a ≤ (μ : Int) ∧ p_slices_stableCmpFunc_float32 l_data n = p_slices_stableCmpFunc_float32_l1 l_data n (μ + 1) a b y1_1) (Int.toNat (n - (0 : Int))) _ _ _ _ _ _ _ _ _ _ _ _ _ _ H ?_ ?_
  · exact ⟨_, i_data, (by first | rfl | assumption | omega | (simp; done)), (by omega), g0, (by first | omega | (simp; done) | (simp; omega)), (by first | omega | (simp; done) | (simp; omega)), (by first | omega | (simp; done) | (simp; omega)), (by omega), e⟩
  · intro μ a b g11 g12 g13 g14 g15 g16 g17 g18 g19 g20 g21 g22 H_1 hI
    obtain ⟨y1_1, r_1, y_2, n_3, g_4, v_5, v_6, v_7, hμ, e⟩ := hI
    rw [slices_stableCmpFunc_float32_r1]
    have e := e.trans (p_slices_stableCmpFunc_float32_l1_s l_data n μ a b y1_1)
    have l_8 := g_4.1
    refine Br.intro (fun c_9 => ?_) (fun c_9 => ?_)
    · have e := e.trans (cond_t c_9)
      have c_9' := of_decide_eq_true c_9
      refine T_slices_insertionSortCmpFunc_float32_i ⟨_, _, r_1, (by first | omega | (simp only [List.length_set, List.length_replicate, List.length_append, List.length_cons, List.length_nil, List.length_take, List.length_drop, marks_length]; done) | (simp only [List.length_set, List.length_replicate, List.length_append, List.length_cons, List.length_nil, List.length_take, List.length_drop, marks_length]; omega)), (by first | assumption | omega | (simp; omega)), (by first | assumption | omega | (simp; omega)), (by first | assumption | omega | (simp; omega)), (fun H_2 k_11 o_12 => ?_)⟩
      have z_10 := slices_insertionSort_len y1_1 a b (by omega)
      have l_13 := k_11.1
      have g_14 := g_4.transA k_11
      have l_15 := g_14.1
      rw [show IntKind.wrap .i64 (b + 20) = (b + 20) from wrap64 (by omega) (by omega)]
      refine slices_stableCmpFunc_float32_n1 (μ - 1) (by first | omega) ⟨_, o_12, (by first | assumption | omega | (simp only [List.length_set]; first | rfl | assumption | omega)), (by omega), g_14, (by first | omega | (simp only [List.length_append, List.length_cons, List.length_nil, List.length_set]; done) | (simp only [List.length_append, List.length_cons, List.length_nil, List.length_set]; omega)), (by first | omega | (simp only [List.length_append, List.length_cons, List.length_nil, List.length_set]; done) | (simp only [List.length_append, List.length_cons, List.length_nil, List.length_set]; omega)), (by first | omega | (simp only [List.length_append, List.length_cons, List.length_nil, List.length_set]; done) | (simp only [List.length_append, List.length_cons, List.length_nil, List.length_set]; omega)), (by first | omega), (by rw [show μ - 1 + 1 = μ from by first | omega]; exact e)⟩
    · have e := e.trans (cond_f c_9)
      have c_9' := of_decide_eq_false c_9
      rw [slices_stableCmpFunc_float32_x1_0]
      refine T_slices_insertionSortCmpFunc_float32_i ⟨_, _, r_1, (by first | omega | (simp only [List.length_set, List.length_replicate, List.length_append, List.length_cons, List.length_nil, List.length_take, List.length_drop, marks_length]; done) | (simp only [List.length_set, List.length_replicate, List.length_append, List.length_cons, List.length_nil, List.length_take, List.length_drop, marks_length]; omega)), (by first | assumption | omega | (simp; omega)), (by first | assumption | omega | (simp; omega)), (by first | assumption | omega | (simp; omega)), (fun H_3 k_17 o_18 => ?_)⟩
      have z_16 := slices_insertionSort_len y1_1 a n (by omega)
      have l_19 := k_17.1
      have g_20 := g_4.transA k_17
      have l_21 := g_20.1
      refine slices_stableCmpFunc_float32_L2 _ _ _ _ _ _ _ _ _ _ _ _ _ _ _ _ _ (fun (μ2 : Nat) (blockSize : Int) (a_7 : Int) (b_8 : Int) (H_4 : AHeap) => ∃ (y2_1 : List Nat), OwnS fF H_4 lo data_a l_data.length data_e y2_1 ∧ y2_1.length = (l_data).length ∧ H.length ≤ H_4.length ∧ KeepA data_a H H_4 ∧ 20 ≤ blockSize ∧ blockSize ≤ 2147483648 ∧ n - blockSize ≤ (μ2 : Int) ∧ p_slices_stableCmpFunc_float32 l_data n = p_slices_stableCmpFunc_float32_l2 l_data n a b y1_1 (fun (blockSize : Int) (a_7 : Int) (b_8 : Int) (y2_1 : List Nat) => y2_1) (μ2 + 1) blockSize a_7 b_8 y2_1) (Int.toNat (n - (20 : Int))) _ _ _ _ _ _ _ _ _ _ _ _ _ _ _ _ _ _ _ _ _ _ _ _ _ _ _ _ _ _ _ _ _ _ _ _ _ _ _ H_3 ?_ ?_
      · exact ⟨_, o_18, (by first | rfl | assumption | omega | (simp; done)), (by omega), g_20, (by first | omega | (simp; done) | (simp; omega)), (by first | omega | (simp; done) | (simp; omega)), (by omega), e⟩
      · intro μ2 blockSize a_7 b_8 g9 g28 g29 g30 g31 g32 g33 g34 g35 g36 g37 g38 g39 g40 g41 g42 g43 g44 g45 g46 g47 g48 g49 g50 g51 g52 g53 g54 g55 g56 g57 g58 g59 g60 g61 g62 H_4 hI
        obtain ⟨y2_1, r_22, y_23, n_24, g_25, v_26, v_27, hμ, e⟩ := hI
        rw [slices_stableCmpFunc_float32_r2]
        have e := e.trans (p_slices_stableCmpFunc_float32_l2_s l_data n a b y1_1 (fun (blockSize : Int) (a_7 : Int) (b_8 : Int) (y2_1 : List Nat) => y2_1) μ2 blockSize a_7 b_8 y2_1)
        have l_28 := g_25.1
        refine Br.intro (fun c_29 => ?_) (fun c_29 => ?_)
        · have e := e.trans (cond_t c_29)
          have c_29' := of_decide_eq_true c_29
          rw [show IntKind.wrap .i64 (2 * blockSize) = (2 * blockSize) from wrap64 (by omega) (by omega)]
          refine slices_stableCmpFunc_float32_L3 _ _ _ _ _ _ _ _ _ _ _ _ _ _ _ _ _ _ _ _ _ _ _ _ _ _ _ _ _ _ _ _ _ _ (fun (μ3 : Nat) (a_7' : Int) (b_8' : Int) (H_5 : AHeap) => ∃ (y3_1 : List Nat), OwnS fF H_5 lo data_a l_data.length data_e y3_1 ∧ y3_1.length = (l_data).length ∧ H.length ≤ H_5.length ∧ KeepA data_a H H_5 ∧ 0 ≤ a_7' ∧ a_7' ≤ n ∧ b_8' = a_7' + 2 * blockSize ∧ n - a_7' ≤ (μ3 : Int) ∧ p_slices_stableCmpFunc_float32 l_data n = p_slices_stableCmpFunc_float32_l3 l_data n a b y1_1 blockSize a_7 b_8 y2_1 (fun (a_7' : Int) (b_8' : Int) (y3_1 : List Nat) => (bif decide (((a_7' + blockSize) : Int) < n) then (p_slices_stableCmpFunc_float32_l2 l_data n a b y1_1 (fun (blockSize : Int) (a_7 : Int) (b_8 : Int) (y2_1 : List Nat) => y2_1) μ2 (blockSize * 2) a_7' b_8' ((rsymM ((n - a_7').toNat) y3_1 a_7' (a_7' + blockSize) n))) else (p_slices_stableCmpFunc_float32_l2 l_data n a b y1_1 (fun (blockSize : Int) (a_7 : Int) (b_8 : Int) (y2_1 : List Nat) => y2_1) μ2 (blockSize * 2) a_7' b_8' y3_1))) (μ3 + 1) a_7' b_8' y3_1) (Int.toNat (n - (0 : Int))) _ _ _ _ _ _ _ _ _ _ _ _ _ _ _ _ _ _ H_4 ?_ ?_
          · exact ⟨_, r_22, (by first | rfl | assumption | omega | (simp; done)), (by omega), g_25, (by first | omega | (simp; done) | (simp; omega)), (by first | omega | (simp; done) | (simp; omega)), (by first | omega | (simp; done) | (simp; omega)), (by omega), e⟩
          · intro μ3 a_7' b_8' g33 g34 g35 g36 g37 g38 g39 g40 g41 g42 g43 g44 g45 g46 g47 g48 H_5 hI
            obtain ⟨y3_1, r_30, y_31, n_32, g_33, v_34, v_35, v_36, hμ, e⟩ := hI
            rw [slices_stableCmpFunc_float32_r3]
            have e := e.trans (p_slices_stableCmpFunc_float32_l3_s l_data n a b y1_1 blockSize a_7 b_8 y2_1 (fun (a_7' : Int) (b_8' : Int) (y3_1 : List Nat) => (bif decide (((a_7' + blockSize) : Int) < n) then (p_slices_stableCmpFunc_float32_l2 l_data n a b y1_1 (fun (blockSize : Int) (a_7 : Int) (b_8 : Int) (y2_1 : List Nat) => y2_1) μ2 (blockSize * 2) a_7' b_8' ((rsymM ((n - a_7').toNat) y3_1 a_7' (a_7' + blockSize) n))) else (p_slices_stableCmpFunc_float32_l2 l_data n a b y1_1 (fun (blockSize : Int) (a_7 : Int) (b_8 : Int) (y2_1 : List Nat) => y2_1) μ2 (blockSize * 2) a_7' b_8' y3_1))) μ3 a_7' b_8' y3_1)
            have l_37 := g_33.1
            refine Br.intro (fun c_38 => ?_) (fun c_38 => ?_)
            · have e := e.trans (cond_t c_38)
              have c_38' := of_decide_eq_true c_38
              rw [show IntKind.wrap .i64 (a_7' + blockSize) = (a_7' + blockSize) from wrap64 (by omega) (by omega)]
              refine T_slices_symMergeCmpFunc_float32_i ⟨_, _, r_30, (by first | omega | (simp only [List.length_set, List.length_replicate, List.length_append, List.length_cons, List.length_nil, List.length_take, List.length_drop, marks_length]; done) | (simp only [List.length_set, List.length_replicate, List.length_append, List.length_cons, List.length_nil, List.length_take, List.length_drop, marks_length]; omega)), (by first | assumption | omega | (simp; omega)), (by first | assumption | omega | (simp; omega)), (by first | assumption | omega | (simp; omega)), (by first | assumption | omega | (simp; omega)), (by first | assumption | omega | (simp; omega)), (fun H_6 k_40 o_41 => ?_)⟩
              have z_39 := rsymM_len ((b_8' - a_7').toNat) y3_1 a_7' (a_7' + blockSize) b_8'
              have l_42 := k_40.1
              have g_43 := g_33.transA k_40
              have l_44 := g_43.1
              rw [show IntKind.wrap .i64 (2 * blockSize) = (2 * blockSize) from wrap64 (by omega) (by omega)]
              rw [show IntKind.wrap .i64 (b_8' + (2 * blockSize)) = (b_8' + (2 * blockSize)) from wrap64 (by omega) (by omega)]
              refine slices_stableCmpFunc_float32_n3 (μ3 - 1) (by first | omega) ⟨_, o_41, (by first | assumption | omega | (simp only [List.length_set]; first | rfl | assumption | omega)), (by omega), g_43, (by first | omega | (simp only [List.length_append, List.length_cons, List.length_nil, List.length_set]; done) | (simp only [List.length_append, List.length_cons, List.length_nil, List.length_set]; omega)), (by first | omega | (simp only [List.length_append, List.length_cons, List.length_nil, List.length_set]; done) | (simp only [List.length_append, List.length_cons, List.length_nil, List.length_set]; omega)), (by first | omega | (simp only [List.length_append, List.length_cons, List.length_nil, List.length_set]; done) | (simp only [List.length_append, List.length_cons, List.length_nil, List.length_set]; omega)), (by first | omega), (by rw [show μ3 - 1 + 1 = μ3 from by first | omega]; exact e)⟩
            · have e := e.trans (cond_f c_38)
              have c_38' := of_decide_eq_false c_38
              rw [slices_stableCmpFunc_float32_x3_4]
              rw [show IntKind.wrap .i64 (a_7' + blockSize) = (a_7' + blockSize) from wrap64 (by omega) (by omega)]
              refine Br.intro (fun c_45 => ?_) (fun c_45 => ?_)
              · have e := e.trans (cond_t c_45)
                have c_45' := of_decide_eq_true c_45
                refine T_slices_symMergeCmpFunc_float32_i ⟨_, _, r_30, (by first | omega | (simp only [List.length_set, List.length_replicate, List.length_append, List.length_cons, List.length_nil, List.length_take, List.length_drop, marks_length]; done) | (simp only [List.length_set, List.length_replicate, List.length_append, List.length_cons, List.length_nil, List.length_take, List.length_drop, marks_length]; omega)), (by first | assumption | omega | (simp; omega)), (by first | assumption | omega | (simp; omega)), (by first | assumption | omega | (simp; omega)), (by first | assumption | omega | (simp; omega)), (by first | assumption | omega | (simp; omega)), (fun H_7 k_47 o_48 => ?_)⟩
                have z_46 := rsymM_len ((n - a_7').toNat) y3_1 a_7' (a_7' + blockSize) n
                have l_49 := k_47.1
                have g_50 := g_33.transA k_47
                have l_51 := g_50.1
                rw [show IntKind.wrap .i64 (blockSize * 2) = (blockSize * 2) from wrap64 (by omega) (by omega)]
                refine slices_stableCmpFunc_float32_n2 (μ2 - 1) (by first | omega) ⟨_, o_48, (by first | assumption | omega | (simp only [List.length_set]; first | rfl | assumption | omega)), (by omega), g_50, (by first | omega | (simp only [List.length_append, List.length_cons, List.length_nil, List.length_set]; done) | (simp only [List.length_append, List.length_cons, List.length_nil, List.length_set]; omega)), (by first | omega | (simp only [List.length_append, List.length_cons, List.length_nil, List.length_set]; done) | (simp only [List.length_append, List.length_cons, List.length_nil, List.length_set]; omega)), (by first | omega), (by rw [show μ2 - 1 + 1 = μ2 from by first | omega]; exact e)⟩
              · have e := e.trans (cond_f c_45)
                have c_45' := of_decide_eq_false c_45
                rw [show IntKind.wrap .i64 (blockSize * 2) = (blockSize * 2) from wrap64 (by omega) (by omega)]
                refine slices_stableCmpFunc_float32_n2 (μ2 - 1) (by first | omega) ⟨_, r_30, (by first | assumption | omega | (simp only [List.length_set]; first | rfl | assumption | omega)), (by omega), g_33, (by first | omega | (simp only [List.length_append, List.length_cons, List.length_nil, List.length_set]; done) | (simp only [List.length_append, List.length_cons, List.length_nil, List.length_set]; omega)), (by first | omega | (simp only [List.length_append, List.length_cons, List.length_nil, List.length_set]; done) | (simp only [List.length_append, List.length_cons, List.length_nil, List.length_set]; omega)), (by first | omega), (by rw [show μ2 - 1 + 1 = μ2 from by first | omega]; exact e)⟩
        · have e := e.trans (cond_f c_29)
          have c_29' := of_decide_eq_false c_29
          rw [slices_stableCmpFunc_float32_x2_2]
          rw [e] at hk
          exact hk H_4 g_25 r_22
theorem slices_stableCmpFunc_float32_ok : FnOk Try.prog 143 S_slices_stableCmpFunc_float32 := by
  refine FnOk.body mix_ok E_slices_stableCmpFunc_float32_ok Try.func143 rfl (by kernel_rfl) (by kernel_rfl) ?_ ?_ ?_ ?_ ?_
  · intro args H K K' h hk
    simp only [S_slices_stableCmpFunc_float32] at *
    unfold F_slices_stableCmpFunc_float32 at *
    split at hk
    · obtain ⟨lo, l_data, i_data, bd_52, pr0, k⟩ := hk
      exact ⟨lo, l_data, i_data, bd_52, pr0, (fun H' gg ow => h _ _ (k H' gg ow))⟩
    · exact hk.elim
  · intro hq; cases hq
  · intro args H K hk
    simp only [S_slices_stableCmpFunc_float32] at *
    unfold F_slices_stableCmpFunc_float32 at *
    split at hk
    · obtain ⟨lo, l_data, i_data, bd_52, pr0, k⟩ := hk
      exact (OwnS.put i_data _ (by exact slices_stable_len _ _ (by assumption))).elim fun H1 h => ⟨_, _, k H1 h.1 h.2⟩
    · exact hk.elim
  · intro hq; cases hq
  · have mm := @slices_stableCmpFunc_float32_main
    revert mm
    generalize bodyK Try.prog E_slices_stableCmpFunc_float32 Try.f143 = Q
    intro mm args H K hk
    simp only [S_slices_stableCmpFunc_float32] at *
    unfold F_slices_stableCmpFunc_float32 at *
    split at hk
    · exact mm _ _ _ _ H K hk
    · exact hk.elim

def p_slices_SortStableFunc_float32_float32 (l_x : List Nat) : (List Nat) := (p_slices_stableCmpFunc_float32 l_x (l_x.length : Int))
theorem p_slices_SortStableFunc_float32_float32_eq (l_x : List Nat) : p_slices_SortStableFunc_float32_float32 l_x = (p_slices_stableCmpFunc_float32 l_x (l_x.length : Int)) := rfl
def T_slices_SortStableFunc_float32_float32 (x_a : Option Addr) (x_n : Nat) (x_e : Nat) (H : AHeap) (K : AHeap → Prop) : Prop := ∃ lo : Nat, ∃ (l_x : List Nat), OwnS fF H lo x_a x_n x_e l_x ∧ l_x.length < 1073741824 ∧ ((∀ H' : AHeap, KeepA x_a H H' → OwnS fF H' lo x_a x_n x_e (p_slices_SortStableFunc_float32_float32 l_x) → K  H'))
theorem T_slices_SortStableFunc_float32_float32_i {x_a : Option Addr} {x_n : Nat} {x_e : Nat} {H : AHeap} {K : AHeap → Prop} (h : ∃ lo : Nat, ∃ (l_x : List Nat), OwnS fF H lo x_a x_n x_e l_x ∧ l_x.length < 1073741824 ∧ ((∀ H' : AHeap, KeepA x_a H H' → OwnS fF H' lo x_a x_n x_e (p_slices_SortStableFunc_float32_float32 l_x) → K  H'))) : T_slices_SortStableFunc_float32_float32 x_a x_n x_e H K := h
theorem slices_SortStable_len (l : List Nat) : (p_slices_SortStableFunc_float32_float32 l).length = l.length := by
  rw [p_slices_SortStableFunc_float32_float32_eq]; exact slices_stable_len _ _ rfl
theorem slices_SortStable_ss (l : List Nat) : So.SS kappa l (p_slices_SortStableFunc_float32_float32 l) := by
  rw [p_slices_SortStableFunc_float32_float32_eq]; exact slices_stable_ss _ _ rfl
/-! slices_SortStableFunc_float32_float32: function 127 -/
def E_slices_SortStableFunc_float32_float32 : Env := envOf [(143, S_slices_stableCmpFunc_float32)]
def F_slices_SortStableFunc_float32_float32 : List Value → AHeap → (Value → AHeap → Prop) → Prop
  | [.slice x_a x_n x_e, .func (.func 128) ⟨[]⟩ ⟨[]⟩], H, K => T_slices_SortStableFunc_float32_float32 x_a x_n x_e H fun  (H' : AHeap) => K (.tuple #[]) H'
  | _, _, _ => False
def S_slices_SortStableFunc_float32_float32 : FSpec := { F := F_slices_SortStableFunc_float32_float32, quiet := false, tame := false }
theorem slices_SortStableFunc_float32_float32_vc (x_a : Option Addr) (x_n : Nat) (x_e : Nat) (H : AHeap) (K : Value → AHeap → Prop) : bodyK Try.prog E_slices_SortStableFunc_float32_float32 Try.f127 [.slice x_a x_n x_e, .func (.func 128) #[] #[]] H K =
  (T_slices_stableCmpFunc_float32 x_a x_n x_e (x_n : Int) H fun  (H1 : AHeap) => K (.tuple #[]) H1) := by kernel_rfl
theorem E_slices_SortStableFunc_float32_float32_ok : ∀ g, FnOk Try.prog g (E_slices_SortStableFunc_float32_float32 g) := FnOk.envOf (by
  intro x hx
  simp only [List.mem_cons, List.not_mem_nil, or_false] at hx
  subst hx; exact slices_stableCmpFunc_float32_ok)
set_option maxHeartbeats 1000000 in
theorem slices_SortStableFunc_float32_float32_main (x_a : Option Addr) (x_n : Nat) (x_e : Nat) (H : AHeap) (K : Value → AHeap → Prop) (h : T_slices_SortStableFunc_float32_float32 x_a x_n x_e H fun  (H' : AHeap) => K (.tuple #[]) H') : bodyK Try.prog E_slices_SortStableFunc_float32_float32 Try.f127 [.slice x_a x_n x_e, .func (.func 128) #[] #[]] H K := by
  rw [slices_SortStableFunc_float32_float32_vc]
  obtain ⟨lo, l_x, i_x, bd_7, hk⟩ := h
  obtain rfl := i_x.len
  have up_m := i_x.up
  have lo_m := i_x.lo
  have e : (p_slices_SortStableFunc_float32_float32 l_x) = _ := rfl
  have e := e.trans (p_slices_SortStableFunc_float32_float32_eq l_x)
  have g0 := KeepA.refl x_a H
  refine T_slices_stableCmpFunc_float32_i ⟨_, _, i_x, (by first | omega | (simp only [List.length_set, List.length_replicate, List.length_append, List.length_cons, List.length_nil, List.length_take, List.length_drop, marks_length]; done) | (simp only [List.length_set, List.length_replicate, List.length_append, List.length_cons, List.length_nil, List.length_take, List.length_drop, marks_length]; omega)), (by first | assumption | omega | (simp; omega)), (fun H_1 k_2 o_3 => ?_)⟩
  have z_1 := slices_stable_len l_x (l_x.length : Int) (by omega)
  have l_4 := k_2.1
  have g_5 := g0.transA k_2
  have l_6 := g_5.1
  rw [e] at hk
  exact hk H_1 g_5 o_3
theorem slices_SortStableFunc_float32_float32_ok : FnOk Try.prog 127 S_slices_SortStableFunc_float32_float32 := by
  refine FnOk.body mix_ok E_slices_SortStableFunc_float32_float32_ok Try.func127 rfl (by kernel_rfl) (by kernel_rfl) ?_ ?_ ?_ ?_ ?_
  · intro args H K K' h hk
    simp only [S_slices_SortStableFunc_float32_float32] at *
    unfold F_slices_SortStableFunc_float32_float32 at *
    split at hk
    · obtain ⟨lo, l_x, i_x, bd_7, k⟩ := hk
      exact ⟨lo, l_x, i_x, bd_7, (fun H' gg ow => h _ _ (k H' gg ow))⟩
    · exact hk.elim
  · intro hq; cases hq
  · intro args H K hk
    simp only [S_slices_SortStableFunc_float32_float32] at *
    unfold F_slices_SortStableFunc_float32_float32 at *
    split at hk
    · obtain ⟨lo, l_x, i_x, bd_7, k⟩ := hk
      exact (OwnS.put i_x _ (by exact slices_SortStable_len _)).elim fun H1 h => ⟨_, _, k H1 h.1 h.2⟩
    · exact hk.elim
  · intro hq; cases hq
  · have mm := @slices_SortStableFunc_float32_float32_main
    revert mm
    generalize bodyK Try.prog E_slices_SortStableFunc_float32_float32 Try.f127 = Q
    intro mm args H K hk
    simp only [S_slices_SortStableFunc_float32_float32] at *
    unfold F_slices_SortStableFunc_float32_float32 at *
    split at hk
    · exact mm _ _ _ H K hk
    · exact hk.elim

def p_impl_median (l_list : List Nat) : Nat := (((p_slices_SortStableFunc_float32_float32 (p_impl_copyOf l_list))).getD ((Int.tdiv ((((((p_impl_copyOf l_list)).length : Int)) - 1)) 2) : Int).toNat 0)
theorem p_impl_median_eq (l_list : List Nat) : p_impl_median l_list = (((p_slices_SortStableFunc_float32_float32 (p_impl_copyOf l_list))).getD ((Int.tdiv ((((((p_impl_copyOf l_list)).length : Int)) - 1)) 2) : Int).toNat 0) := rfl
def T_impl_median (list_a : Option Addr) (list_n : Nat) (list_e : Nat) (H : AHeap) (K : Nat → AHeap → Prop) : Prop := ∃ (l_list : List Nat), IsL fF H list_a list_n l_list ∧ l_list.length < 1073741824 ∧ 0 < l_list.length ∧ ((∀ H' : AHeap, Grow H H' → K (p_impl_median l_list) H'))
theorem T_impl_median_i {list_a : Option Addr} {list_n : Nat} {list_e : Nat} {H : AHeap} {K : Nat → AHeap → Prop} (h : ∃ (l_list : List Nat), IsL fF H list_a list_n l_list ∧ l_list.length < 1073741824 ∧ 0 < l_list.length ∧ ((∀ H' : AHeap, Grow H H' → K (p_impl_median l_list) H'))) : T_impl_median list_a list_n list_e H K := h

/-! impl_median: function 87 -/
def E_impl_median : Env := envOf [(102, S_impl_copyOf), (127, S_slices_SortStableFunc_float32_float32)]
def F_impl_median : List Value → AHeap → (Value → AHeap → Prop) → Prop
  | [.slice list_a list_n list_e], H, K => T_impl_median list_a list_n list_e H fun (r1 : Nat) (H' : AHeap) => K (.float .f32 r1) H'
  | _, _, _ => False
def S_impl_median : FSpec := { F := F_impl_median, quiet := false, tame := true }
theorem impl_median_vc (list_a : Option Addr) (list_n : Nat) (list_e : Nat) (H : AHeap) (K : Value → AHeap → Prop) : bodyK Try.prog E_impl_median Try.f87 [.slice list_a list_n list_e] H K =
  (T_impl_copyOf list_a list_n list_e H fun (a1 : Option Addr) (r1 : Nat) (r2 : Nat) (H1 : AHeap) => T_slices_SortStableFunc_float32_float32 a1 r1 r2 H1 fun  (H2 : AHeap) => 2 ≠ (0 : Int) ∧ (0 : Int) ≤ IntKind.wrap .i64 (Int.tdiv (IntKind.wrap .i64 ((r1 : Int) - 1)) 2) ∧ IntKind.wrap .i64 (Int.tdiv (IntKind.wrap .i64 ((r1 : Int) - 1)) 2) < (r1 : Int) ∧ ∃ b1 f1, (a1 : Option Addr) = some ⟨b1, f1, none⟩ ∧ ∃ x1 : Nat,  rdC H2 b1 (f1 + (IntKind.wrap .i64 (Int.tdiv (IntKind.wrap .i64 ((r1 : Int) - 1)) 2) : Int).toNat * 1) = some (.float .f32 x1) ∧ K (.float .f32 x1) H2) := by kernel_rfl
theorem E_impl_median_ok : ∀ g, FnOk Try.prog g (E_impl_median g) := FnOk.envOf (by
  intro x hx
  simp only [List.mem_cons, List.not_mem_nil, or_false] at hx
  rcases hx with rfl | rfl
  · exact impl_copyOf_ok
  · exact slices_SortStableFunc_float32_float32_ok)
set_option maxHeartbeats 1000000 in
theorem impl_median_main (list_a : Option Addr) (list_n : Nat) (list_e : Nat) (H : AHeap) (K : Value → AHeap → Prop) (h : T_impl_median list_a list_n list_e H fun (r1 : Nat) (H' : AHeap) => K (.float .f32 r1) H') : bodyK Try.prog E_impl_median Try.f87 [.slice list_a list_n list_e] H K := by
  rw [impl_median_vc]
  obtain ⟨l_list, i_list, bd_23, pr0, hk⟩ := h
  obtain rfl := i_list.eqn
  have e : (p_impl_median l_list) = _ := rfl
  have e := e.trans (p_impl_median_eq l_list)
  have g0 := Grow.refl H
  refine T_impl_copyOf_i ⟨_, (i_list.grow g0), (by first | omega | (simp only [List.length_set, List.length_replicate, List.length_append, List.length_cons, List.length_nil, List.length_take, List.length_drop, marks_length]; done) | (simp only [List.length_set, List.length_replicate, List.length_append, List.length_cons, List.length_nil, List.length_take, List.length_drop, marks_length]; omega)), fun a_1 n_2 e_3 H_1 g_6 r_4 => ?_⟩
  have z_5 := impl_copyOf_len l_list
  have l_7 := g_6.1
  have g_8 := g0.trans g_6
  have l_9 := g_8.1
  obtain rfl := r_4.isL.eqn
  have u_10 := r_4.up
  have u_11 := r_4.lo
  refine T_slices_SortStableFunc_float32_float32_i ⟨_, _, r_4, (by first | omega | (simp only [List.length_set, List.length_replicate, List.length_append, List.length_cons, List.length_nil, List.length_take, List.length_drop, marks_length]; done) | (simp only [List.length_set, List.length_replicate, List.length_append, List.length_cons, List.length_nil, List.length_take, List.length_drop, marks_length]; omega)), (fun H_2 k_14 o_15 => ?_)⟩
  have z_13 := slices_SortStable_len (p_impl_copyOf l_list)
  have l_16 := k_14.1
  have g_17 := g_8.keepA (fun x hx => by have := u_11 x hx; omega) k_14
  have l_18 := g_17.1
  rw [show IntKind.wrap .i64 (((((p_impl_copyOf l_list)).length : Int)) - 1) = (((((p_impl_copyOf l_list)).length : Int)) - 1) from wrap64 (by omega) (by omega)]
  have z_19 := tdiv_nn ((((((p_impl_copyOf l_list)).length : Int)) - 1)) 2
  refine ⟨(by first | omega | decide | (simp; done) | (simp; omega)), ?_⟩
  rw [show IntKind.wrap .i64 (Int.tdiv ((((((p_impl_copyOf l_list)).length : Int)) - 1)) 2) = (Int.tdiv ((((((p_impl_copyOf l_list)).length : Int)) - 1)) 2) from wrap64 (by omega) (by omega)]
  obtain ⟨b_20, f_21, q_22⟩ := (o_15.isL).pos (by first | omega | (simp only [List.length_set, List.length_replicate, List.length_append, List.length_cons, List.length_nil, List.length_take, List.length_drop, marks_length]; done) | (simp only [List.length_set, List.length_replicate, List.length_append, List.length_cons, List.length_nil, List.length_take, List.length_drop, marks_length]; omega))
  refine ⟨by omega, by omega, b_20, f_21, q_22, ?_⟩
  refine ⟨(((p_slices_SortStableFunc_float32_float32 (p_impl_copyOf l_list))).getD ((Int.tdiv ((((((p_impl_copyOf l_list)).length : Int)) - 1)) 2) : Int).toNat 0), (o_15.isL).rd (Grow.refl _) q_22 (by omega) _, ?_⟩
  rw [e] at hk
  exact hk  H_2 g_17 
theorem impl_median_ok : FnOk Try.prog 87 S_impl_median := by
  refine FnOk.body mix_ok E_impl_median_ok Try.func87 rfl (by kernel_rfl) (by kernel_rfl) ?_ ?_ ?_ ?_ ?_
  · intro args H K K' h hk
    simp only [S_impl_median] at *
    unfold F_impl_median at *
    split at hk
    · obtain ⟨l_list, i_list, bd_23, pr0, k⟩ := hk
      exact ⟨l_list, i_list, bd_23, pr0, (fun  H' gg  => h _ _ (k  H' gg ))⟩
    · exact hk.elim
  · intro hq; cases hq
  · intro args H K hk
    simp only [S_impl_median] at *
    unfold F_impl_median at *
    split at hk
    · obtain ⟨l_list, i_list, bd_23, pr0, k⟩ := hk
      exact ⟨_, _, k H (Grow.refl H)⟩
    · exact hk.elim
  · intro _ args H K hk
    simp only [S_impl_median] at *
    unfold F_impl_median at *
    split at hk
    · obtain ⟨l_list, i_list, bd_23, pr0, k⟩ := hk
      exact ⟨l_list, i_list, bd_23, pr0, (fun  H' gg  => ⟨gg, k  H' gg ⟩)⟩
    · exact hk.elim
  · have mm := @impl_median_main
    revert mm
    generalize bodyK Try.prog E_impl_median Try.f87 = Q
    intro mm args H K hk
    simp only [S_impl_median] at *
    unfold F_impl_median at *
    split at hk
    · exact mm _ _ _ H K hk
    · exact hk.elim

def p_impl_MedianOf (l_list : List Nat) : Nat × Bool := (bif !(p_impl_isLong l_list) then (0, false) else ((p_impl_median l_list), true))
theorem p_impl_MedianOf_eq (l_list : List Nat) : p_impl_MedianOf l_list = (bif !(p_impl_isLong l_list) then (0, false) else ((p_impl_median l_list), true)) := rfl
def T_impl_MedianOf (list_a : Option Addr) (list_n : Nat) (list_e : Nat) (H : AHeap) (K : Nat → Bool → AHeap → Prop) : Prop := ∃ (l_list : List Nat), IsL fF H list_a list_n l_list ∧ l_list.length < 1073741824 ∧ ((∀ H' : AHeap, Grow H H' → K ((p_impl_MedianOf l_list).1) ((p_impl_MedianOf l_list).2) H'))
theorem T_impl_MedianOf_i {list_a : Option Addr} {list_n : Nat} {list_e : Nat} {H : AHeap} {K : Nat → Bool → AHeap → Prop} (h : ∃ (l_list : List Nat), IsL fF H list_a list_n l_list ∧ l_list.length < 1073741824 ∧ ((∀ H' : AHeap, Grow H H' → K ((p_impl_MedianOf l_list).1) ((p_impl_MedianOf l_list).2) H'))) : T_impl_MedianOf list_a list_n list_e H K := h
theorem impl_MedianOf_t {l : List Nat} (h : (p_impl_MedianOf l).2 = true) : 1 ≤ (l.length : Int) ∧ (l.length : Int) ≤ 128 := by
  rw [p_impl_MedianOf_eq] at h
  cases hL : p_impl_isLong l with
  | false => rw [hL] at h; cases h
  | true => exact impl_isLong_t hL
/-! impl_MedianOf: function 36 -/
def E_impl_MedianOf : Env := envOf [(61, S_impl_isLong), (87, S_impl_median)]
def F_impl_MedianOf : List Value → AHeap → (Value → AHeap → Prop) → Prop
  | [.slice list_a list_n list_e], H, K => T_impl_MedianOf list_a list_n list_e H fun (r1 : Nat) (r2 : Bool) (H' : AHeap) => K (.tuple #[.float .f32 r1, .bool r2]) H'
  | _, _, _ => False
def S_impl_MedianOf : FSpec := { F := F_impl_MedianOf, quiet := false, tame := true }
theorem impl_MedianOf_vc (list_a : Option Addr) (list_n : Nat) (list_e : Nat) (H : AHeap) (K : Value → AHeap → Prop) : bodyK Try.prog E_impl_MedianOf Try.f36 [.slice list_a list_n list_e] H K =
  (T_impl_isLong list_a list_n list_e H fun (r1 : Bool) (H1 : AHeap) => Br (!r1) (K (.tuple #[.float .f32 0, .bool false]) H1) (T_impl_median list_a list_n list_e H1 fun (r2 : Nat) (H2 : AHeap) => K (.tuple #[.float .f32 r2, .bool true]) H2)) := by kernel_rfl
theorem E_impl_MedianOf_ok : ∀ g, FnOk Try.prog g (E_impl_MedianOf g) := FnOk.envOf (by
  intro x hx
  simp only [List.mem_cons, List.not_mem_nil, or_false] at hx
  rcases hx with rfl | rfl
  · exact impl_isLong_ok
  · exact impl_median_ok)
set_option maxHeartbeats 1000000 in
theorem impl_MedianOf_main (list_a : Option Addr) (list_n : Nat) (list_e : Nat) (H : AHeap) (K : Value → AHeap → Prop) (h : T_impl_MedianOf list_a list_n list_e H fun (r1 : Nat) (r2 : Bool) (H' : AHeap) => K (.tuple #[.float .f32 r1, .bool r2]) H') : bodyK Try.prog E_impl_MedianOf Try.f36 [.slice list_a list_n list_e] H K := by
  rw [impl_MedianOf_vc]
  obtain ⟨l_list, i_list, bd_10, hk⟩ := h
  obtain rfl := i_list.eqn
  have e : (p_impl_MedianOf l_list) = _ := rfl
  have e := e.trans (p_impl_MedianOf_eq l_list)
  have g0 := Grow.refl H
  refine T_impl_isLong_i ⟨_, (i_list.grow g0), (by first | omega | (simp only [List.length_set, List.length_replicate, List.length_append, List.length_cons, List.length_nil, List.length_take, List.length_drop, marks_length]; done) | (simp only [List.length_set, List.length_replicate, List.length_append, List.length_cons, List.length_nil, List.length_take, List.length_drop, marks_length]; omega)), fun  H_1 g_1  => ?_⟩
  have l_2 := g_1.1
  have g_3 := g0.trans g_1
  have l_4 := g_3.1
  refine Br.intro (fun c_5 => ?_) (fun c_5 => ?_)
  · have e := e.trans (cond_t c_5)
    have c_5n := nf_of_t c_5
    rw [e] at hk
    exact hk  H_1 g_3 
  · have e := e.trans (cond_f c_5)
    have c_5n := nt_of_f c_5
    have c_5n' := impl_isLong_t c_5n
    refine T_impl_median_i ⟨_, (i_list.grow g_3), (by first | omega | (simp only [List.length_set, List.length_replicate, List.length_append, List.length_cons, List.length_nil, List.length_take, List.length_drop, marks_length]; done) | (simp only [List.length_set, List.length_replicate, List.length_append, List.length_cons, List.length_nil, List.length_take, List.length_drop, marks_length]; omega)), (by first | assumption | omega | (simp; omega)), fun  H_2 g_6  => ?_⟩
    have l_7 := g_6.1
    have g_8 := g_3.trans g_6
    have l_9 := g_8.1
    rw [e] at hk
    exact hk  H_2 g_8 
theorem impl_MedianOf_ok : FnOk Try.prog 36 S_impl_MedianOf := by
  refine FnOk.body mix_ok E_impl_MedianOf_ok Try.func36 rfl (by kernel_rfl) (by kernel_rfl) ?_ ?_ ?_ ?_ ?_
  · intro args H K K' h hk
    simp only [S_impl_MedianOf] at *
    unfold F_impl_MedianOf at *
    split at hk
    · obtain ⟨l_list, i_list, bd_10, k⟩ := hk
      exact ⟨l_list, i_list, bd_10, (fun  H' gg  => h _ _ (k  H' gg ))⟩
    · exact hk.elim
  · intro hq; cases hq
  · intro args H K hk
    simp only [S_impl_MedianOf] at *
    unfold F_impl_MedianOf at *
    split at hk
    · obtain ⟨l_list, i_list, bd_10, k⟩ := hk
      exact ⟨_, _, k H (Grow.refl H)⟩
    · exact hk.elim
  · intro _ args H K hk
    simp only [S_impl_MedianOf] at *
    unfold F_impl_MedianOf at *
    split at hk
    · obtain ⟨l_list, i_list, bd_10, k⟩ := hk
      exact ⟨l_list, i_list, bd_10, (fun  H' gg  => ⟨gg, k  H' gg ⟩)⟩
    · exact hk.elim
  · have mm := @impl_MedianOf_main
    revert mm
    generalize bodyK Try.prog E_impl_MedianOf Try.f36 = Q
    intro mm args H K hk
    simp only [S_impl_MedianOf] at *
    unfold F_impl_MedianOf at *
    split at hk
    · exact mm _ _ _ H K hk
    · exact hk.elim
def p_impl_size (x : Nat) : Nat := (bif flt .f32 x 0 then fneg .f32 x else (bif feq .f32 x 0 then 0 else x))
theorem p_impl_size_eq (x : Nat) : p_impl_size x = (bif flt .f32 x 0 then fneg .f32 x else (bif feq .f32 x 0 then 0 else x)) := rfl
def T_impl_size (x : Nat) (H : AHeap) (K : Nat → AHeap → Prop) : Prop := K (p_impl_size x) H

theorem T_impl_size_i {x : Nat} {H : AHeap} {K : Nat → AHeap → Prop} (h : K (p_impl_size x) H) : T_impl_size x H K := h
/-! impl_size: function 108 -/
def E_impl_size : Env := envOf []
def F_impl_size : List Value → AHeap → (Value → AHeap → Prop) → Prop
  | [.float .f32 x], H, K => T_impl_size x H fun (r1 : Nat) (H' : AHeap) => K (.float .f32 r1) H'
  | _, _, _ => False
def S_impl_size : FSpec := { F := F_impl_size, quiet := true, tame := false }
theorem impl_size_vc (x : Nat) (H : AHeap) (K : Value → AHeap → Prop) : bodyK Try.prog E_impl_size Try.f108 [.float .f32 x] H K =
  (Br (flt .f32 x 0) (K (.float .f32 (fneg .f32 x)) H) (Br (feq .f32 x 0) (K (.float .f32 0) H) (K (.float .f32 x) H))) := by kernel_rfl
theorem E_impl_size_ok : ∀ g, FnOk Try.prog g (E_impl_size g) := FnOk.envOf (by
  intro x hx; cases hx)
set_option maxHeartbeats 1000000 in
theorem impl_size_main (x : Nat) (H : AHeap) (K : Value → AHeap → Prop) (h : T_impl_size x H fun (r1 : Nat) (H' : AHeap) => K (.float .f32 r1) H') : bodyK Try.prog E_impl_size Try.f108 [.float .f32 x] H K := by
  rw [impl_size_vc]
  unfold T_impl_size p_impl_size at h
  repeat' (first | exact h | (exfalso; simp_all; done) | (refine ⟨by decide, ?_⟩) | (refine Br.intro (fun hb => ?_) (fun hb => ?_) <;> (try simp only [hb, cond_true, cond_false, Bool.not_true, Bool.not_false] at h)))
theorem impl_size_ok : FnOk Try.prog 108 S_impl_size := by
  refine FnOk.body mix_ok E_impl_size_ok Try.func108 rfl (by kernel_rfl) (by kernel_rfl) ?_ ?_ ?_ ?_ ?_
  · intro args H K K' h hk
    simp only [S_impl_size] at *
    unfold F_impl_size at *
    split at hk
    · have k := hk
      exact h _ _ k
    · exact hk.elim
  · intro _ args H K hk
    simp only [S_impl_size] at *
    unfold F_impl_size at *
    split at hk
    · have k := hk
      exact ⟨_, k, fun K' k' => k'⟩
    · exact hk.elim
  · intro args H K hk
    simp only [S_impl_size] at *
    unfold F_impl_size at *
    split at hk
    · have k := hk
      exact ⟨_, _, k⟩
    · exact hk.elim
  · intro hq; cases hq
  · have mm := @impl_size_main
    revert mm
    generalize bodyK Try.prog E_impl_size Try.f108 = Q
    intro mm args H K hk
    simp only [S_impl_size] at *
    unfold F_impl_size at *
    split at hk
    · exact mm _ H K hk
    · exact hk.elim
def p_impl_finite (x : Nat) : Nat × Bool := (bif !(p_impl_IsFinite x) then (0, false) else (x, true))
theorem p_impl_finite_eq (x : Nat) : p_impl_finite x = (bif !(p_impl_IsFinite x) then (0, false) else (x, true)) := rfl
def T_impl_finite (x : Nat) (H : AHeap) (K : Nat → Bool → AHeap → Prop) : Prop := K (p_impl_finite x).1 (p_impl_finite x).2 H

theorem T_impl_finite_i {x : Nat} {H : AHeap} {K : Nat → Bool → AHeap → Prop} (h : K (p_impl_finite x).1 (p_impl_finite x).2 H) : T_impl_finite x H K := h
/-! impl_finite: function 65 -/
def E_impl_finite : Env := envOf [(62, S_impl_IsFinite)]
def F_impl_finite : List Value → AHeap → (Value → AHeap → Prop) → Prop
  | [.float .f32 x], H, K => T_impl_finite x H fun (r1 : Nat) (r2 : Bool) (H' : AHeap) => K (.tuple #[.float .f32 r1, .bool r2]) H'
  | _, _, _ => False
def S_impl_finite : FSpec := { F := F_impl_finite, quiet := true, tame := false }
theorem impl_finite_vc (x : Nat) (H : AHeap) (K : Value → AHeap → Prop) : bodyK Try.prog E_impl_finite Try.f65 [.float .f32 x] H K =
  (T_impl_IsFinite x H fun (r1 : Bool) (H1 : AHeap) => Br (!r1) (K (.tuple #[.float .f32 0, .bool false]) H1) (K (.tuple #[.float .f32 x, .bool true]) H1)) := by kernel_rfl
theorem E_impl_finite_ok : ∀ g, FnOk Try.prog g (E_impl_finite g) := FnOk.envOf (by
  intro x hx
  simp only [List.mem_cons, List.not_mem_nil, or_false] at hx
  subst hx; exact impl_IsFinite_ok)
set_option maxHeartbeats 1000000 in
theorem impl_finite_main (x : Nat) (H : AHeap) (K : Value → AHeap → Prop) (h : T_impl_finite x H fun (r1 : Nat) (r2 : Bool) (H' : AHeap) => K (.tuple #[.float .f32 r1, .bool r2]) H') : bodyK Try.prog E_impl_finite Try.f65 [.float .f32 x] H K := by
  rw [impl_finite_vc]
  simp only [T_impl_IsFinite]
  unfold T_impl_finite p_impl_finite at h
  repeat' (first | exact h | (exfalso; simp_all; done) | (refine ⟨by decide, ?_⟩) | (refine Br.intro (fun hb => ?_) (fun hb => ?_) <;> (try simp only [hb, cond_true, cond_false, Bool.not_true, Bool.not_false] at h)))
theorem impl_finite_ok : FnOk Try.prog 65 S_impl_finite := by
  refine FnOk.body mix_ok E_impl_finite_ok Try.func65 rfl (by kernel_rfl) (by kernel_rfl) ?_ ?_ ?_ ?_ ?_
  · intro args H K K' h hk
    simp only [S_impl_finite] at *
    unfold F_impl_finite at *
    split at hk
    · have k := hk
      exact h _ _ k
    · exact hk.elim
  · intro _ args H K hk
    simp only [S_impl_finite] at *
    unfold F_impl_finite at *
    split at hk
    · have k := hk
      exact ⟨_, k, fun K' k' => k'⟩
    · exact hk.elim
  · intro args H K hk
    simp only [S_impl_finite] at *
    unfold F_impl_finite at *
    split at hk
    · have k := hk
      exact ⟨_, _, k⟩
    · exact hk.elim
  · intro hq; cases hq
  · have mm := @impl_finite_main
    revert mm
    generalize bodyK Try.prog E_impl_finite Try.f65 = Q
    intro mm args H K hk
    simp only [S_impl_finite] at *
    unfold F_impl_finite at *
    split at hk
    · exact mm _ H K hk
    · exact hk.elim

def p_impl_SpreadOf_l1 (l_list : List Nat) : Nat → (List Nat) → Int → Nat × Bool
  | 0, _, _ => (0, false)
  | μ + 1, l_far, t19 => (bif decide ((t19 : Int) < (l_list.length : Int)) then (p_impl_SpreadOf_l1 l_list μ ((l_far ++ [((p_impl_size (fsub .f32 (((l_list).getD (t19 : Int).toNat 0)) ((p_impl_MedianOf l_list).1))))])) (t19 + 1)) else ((p_impl_finite (fmul .f32 1069401558 (p_impl_median l_far))).1, (p_impl_finite (fmul .f32 1069401558 (p_impl_median l_far))).2))
theorem p_impl_SpreadOf_l1_s (l_list : List Nat) (μ : Nat) (l_far : List Nat) (t19 : Int) : p_impl_SpreadOf_l1 l_list (μ + 1) l_far t19 = (bif decide ((t19 : Int) < (l_list.length : Int)) then (p_impl_SpreadOf_l1 l_list μ ((l_far ++ [((p_impl_size (fsub .f32 (((l_list).getD (t19 : Int).toNat 0)) ((p_impl_MedianOf l_list).1))))])) (t19 + 1)) else ((p_impl_finite (fmul .f32 1069401558 (p_impl_median l_far))).1, (p_impl_finite (fmul .f32 1069401558 (p_impl_median l_far))).2)) := rfl
def p_impl_SpreadOf (l_list : List Nat) : Nat × Bool := (bif !((p_impl_MedianOf l_list).2) then (0, false) else (p_impl_SpreadOf_l1 l_list (Int.toNat ((l_list.length : Int) - (0 : Int)) + 1) ([] : List Nat) (0 : Int)))
theorem p_impl_SpreadOf_eq (l_list : List Nat) : p_impl_SpreadOf l_list = (bif !((p_impl_MedianOf l_list).2) then (0, false) else (p_impl_SpreadOf_l1 l_list (Int.toNat ((l_list.length : Int) - (0 : Int)) + 1) ([] : List Nat) (0 : Int))) := rfl
def T_impl_SpreadOf (list_a : Option Addr) (list_n : Nat) (list_e : Nat) (H : AHeap) (K : Nat → Bool → AHeap → Prop) : Prop := ∃ (l_list : List Nat), IsL fF H list_a list_n l_list ∧ l_list.length < 1073741824 ∧ ((∀ H' : AHeap, Grow H H' → K ((p_impl_SpreadOf l_list).1) ((p_impl_SpreadOf l_list).2) H'))
theorem T_impl_SpreadOf_i {list_a : Option Addr} {list_n : Nat} {list_e : Nat} {H : AHeap} {K : Nat → Bool → AHeap → Prop} (h : ∃ (l_list : List Nat), IsL fF H list_a list_n l_list ∧ l_list.length < 1073741824 ∧ ((∀ H' : AHeap, Grow H H' → K ((p_impl_SpreadOf l_list).1) ((p_impl_SpreadOf l_list).2) H'))) : T_impl_SpreadOf list_a list_n list_e H K := h

/-! impl_SpreadOf: function 51 -/
def E_impl_SpreadOf : Env := envOf [(36, S_impl_MedianOf), (108, S_impl_size), (87, S_impl_median), (65, S_impl_finite)]
def F_impl_SpreadOf : List Value → AHeap → (Value → AHeap → Prop) → Prop
  | [.slice list_a list_n list_e], H, K => T_impl_SpreadOf list_a list_n list_e H fun (r1 : Nat) (r2 : Bool) (H' : AHeap) => K (.tuple #[.float .f32 r1, .bool r2]) H'
  | _, _, _ => False
def S_impl_SpreadOf : FSpec := { F := F_impl_SpreadOf, quiet := false, tame := true }
theorem impl_SpreadOf_vc (list_a : Option Addr) (list_n : Nat) (list_e : Nat) (H : AHeap) (K : Value → AHeap → Prop) : bodyK Try.prog E_impl_SpreadOf Try.f51 [.slice list_a list_n list_e] H K =
  (T_impl_MedianOf list_a list_n list_e H fun (r1 : Nat) (r2 : Bool) (H1 : AHeap) => Br (!r2) (K (.tuple #[.float .f32 0, .bool false]) H1) (Al [] H1 fun b1 H2 => loopK (exK Try.prog E_impl_SpreadOf (cl (cl (cr (cl (cr (cr (cr (cr (bodyC Try.f51)))))))))) [.slice list_a list_n list_e, undef, .float .f32 0, .bool false, .float .f32 r1, .bool r2, .slice (some ⟨b1, 0, none⟩) 0 1, undef, undef, .tuple #[.float .f32 r1, .bool r2], .slice list_a list_n list_e, .tuple #[.float .f32 r1, .bool r2], .float .f32 r1, .bool r2, .bool r2, .bool (!r2), .slice (some ⟨b1, 0, none⟩) 0 1, .slice list_a list_n list_e, .int .i64 (list_n : Int), .int .i64 0, undef, undef, undef, undef, undef, undef, undef, undef, undef, undef, undef, undef, undef, undef, undef, undef, undef] H2 (blockQ 0 (seqQ (exK Try.prog E_impl_SpreadOf (cr (cr (cr (cr (cr (bodyC Try.f51))))))) (retK Try.prog Try.f51 K))))) := by kernel_rfl
theorem impl_SpreadOf_r1 (b1 : Nat) (list_a : Option Addr) (list_e : Nat) (list_n : Nat) (r1 : Nat) (r2 : Bool) (far_a : Option Addr) (far_n : Nat) (far_e : Nat) (t19 : Int) (g8 g20 g21 g22 g23 g24 g25 g26 g27 g28 g29 g30 : Value) (H : AHeap) (R : Post) : exK Try.prog E_impl_SpreadOf (cl (cl (cr (cl (cr (cr (cr (cr (bodyC Try.f51))))))))) [.slice list_a list_n list_e, undef, .float .f32 0, .bool false, .float .f32 r1, .bool r2, .slice far_a far_n far_e, undef, g8, .tuple #[.float .f32 r1, .bool r2], .slice list_a list_n list_e, .tuple #[.float .f32 r1, .bool r2], .float .f32 r1, .bool r2, .bool r2, .bool (!r2), .slice (some ⟨b1, 0, none⟩) 0 1, .slice list_a list_n list_e, .int .i64 (list_n : Int), .int .i64 t19, g20, g21, g22, g23, g24, g25, g26, g27, g28, g29, g30, undef, undef, undef, undef, undef, undef] H R =
  (Br (decide ((t19 : Int) < (list_n : Int))) ((0 : Int) ≤ t19 ∧ t19 < (list_n : Int) ∧ ∃ b2 f1, (list_a : Option Addr) = some ⟨b2, f1, none⟩ ∧ ∃ x1 : Nat,  rdC H b2 (f1 + (t19 : Int).toNat * 1) = some (.float .f32 x1) ∧ T_impl_size (fsub .f32 x1 r1) H fun (r3 : Nat) (H3 : AHeap) => Al [.float .f32 r3] H3 fun b3 H4 => ∃ o1 w1 : List Value, ownB H4 far_a far_n far_e 1 = some o1 ∧ rdS H4 (some ⟨b3, 0, none⟩) (1 * 1) = some w1 ∧ ((far_a : Option Addr) = none → 0 < (1 : Nat)) ∧ (far_n : Nat) + 1 < most ∧ Ap H4 (killB H4 far_a ++ [some ⟨o1 ++ w1, true⟩]) fun b4 H5 => R .normal [.slice list_a list_n list_e, undef, .float .f32 0, .bool false, .float .f32 r1, .bool r2, .slice (some ⟨b4, 0, none⟩) (far_n + 1) 1, undef, .float .f32 x1, .tuple #[.float .f32 r1, .bool r2], .slice list_a list_n list_e, .tuple #[.float .f32 r1, .bool r2], .float .f32 r1, .bool r2, .bool r2, .bool (!r2), .slice (some ⟨b1, 0, none⟩) 0 1, .slice list_a list_n list_e, .int .i64 (list_n : Int), .int .i64 (IntKind.wrap .i64 (t19 + 1)), .bool (decide ((t19 : Int) < (list_n : Int))), .pointer (some ⟨b2, f1 + (t19 : Int).toNat * 1, none⟩), .float .f32 x1, .slice far_a far_n far_e, .float .f32 x1, .float .f32 r1, .float .f32 (fsub .f32 x1 r1), .float .f32 r3, .slice (some ⟨b3, 0, none⟩) 1 1, .slice (some ⟨b4, 0, none⟩) (far_n + 1) 1, .int .i64 (IntKind.wrap .i64 (t19 + 1)), undef, undef, undef, undef, undef, undef] H5) (R (.exit 0) [.slice list_a list_n list_e, undef, .float .f32 0, .bool false, .float .f32 r1, .bool r2, .slice far_a far_n far_e, undef, g8, .tuple #[.float .f32 r1, .bool r2], .slice list_a list_n list_e, .tuple #[.float .f32 r1, .bool r2], .float .f32 r1, .bool r2, .bool r2, .bool (!r2), .slice (some ⟨b1, 0, none⟩) 0 1, .slice list_a list_n list_e, .int .i64 (list_n : Int), .int .i64 t19, .bool (decide ((t19 : Int) < (list_n : Int))), g21, g22, g23, g24, g25, g26, g27, g28, g29, g30, undef, undef, undef, undef, undef, undef] H)) := by kernel_rfl
def impl_SpreadOf_I1 (b1 : Nat) (list_a : Option Addr) (list_e : Nat) (list_n : Nat) (r1 : Nat) (r2 : Bool) (Inv : Nat → (Option Addr) → Nat → Nat → Int → AHeap → Prop) : Nat → List Value → AHeap → Prop := fun μ tm H => ∃ (far_a : Option Addr), ∃ (far_n : Nat), ∃ (far_e : Nat), ∃ (t19 : Int), ∃ g8 g20 g21 g22 g23 g24 g25 g26 g27 g28 g29 g30, tm = [.slice list_a list_n list_e, undef, .float .f32 0, .bool false, .float .f32 r1, .bool r2, .slice far_a far_n far_e, undef, g8, .tuple #[.float .f32 r1, .bool r2], .slice list_a list_n list_e, .tuple #[.float .f32 r1, .bool r2], .float .f32 r1, .bool r2, .bool r2, .bool (!r2), .slice (some ⟨b1, 0, none⟩) 0 1, .slice list_a list_n list_e, .int .i64 (list_n : Int), .int .i64 t19, g20, g21, g22, g23, g24, g25, g26, g27, g28, g29, g30, undef, undef, undef, undef, undef, undef] ∧ Inv μ far_a far_n far_e t19 H
theorem impl_SpreadOf_L1 (b1 : Nat) (list_a : Option Addr) (list_e : Nat) (list_n : Nat) (r1 : Nat) (r2 : Bool) {Q : Post} (Inv : Nat → (Option Addr) → Nat → Nat → Int → AHeap → Prop) (ν : Nat) (far_a : Option Addr) (far_n : Nat) (far_e : Nat) (t19 : Int) (g8 g20 g21 g22 g23 g24 g25 g26 g27 g28 g29 g30 : Value) (H : AHeap) (h0 : Inv ν far_a far_n far_e t19 H)
    (hs : ∀ (μ : Nat) (far_a : Option Addr) (far_n : Nat) (far_e : Nat) (t19 : Int) (g8 g20 g21 g22 g23 g24 g25 g26 g27 g28 g29 g30 : Value) (H : AHeap), Inv μ far_a far_n far_e t19 H → exK Try.prog E_impl_SpreadOf (cl (cl (cr (cl (cr (cr (cr (cr (bodyC Try.f51))))))))) [.slice list_a list_n list_e, undef, .float .f32 0, .bool false, .float .f32 r1, .bool r2, .slice far_a far_n far_e, undef, g8, .tuple #[.float .f32 r1, .bool r2], .slice list_a list_n list_e, .tuple #[.float .f32 r1, .bool r2], .float .f32 r1, .bool r2, .bool r2, .bool (!r2), .slice (some ⟨b1, 0, none⟩) 0 1, .slice list_a list_n list_e, .int .i64 (list_n : Int), .int .i64 t19, g20, g21, g22, g23, g24, g25, g26, g27, g28, g29, g30, undef, undef, undef, undef, undef, undef] H (loopQ (impl_SpreadOf_I1 b1 list_a list_e list_n r1 r2 Inv) μ Q)) : loopK (exK Try.prog E_impl_SpreadOf (cl (cl (cr (cl (cr (cr (cr (cr (bodyC Try.f51)))))))))) [.slice list_a list_n list_e, undef, .float .f32 0, .bool false, .float .f32 r1, .bool r2, .slice far_a far_n far_e, undef, g8, .tuple #[.float .f32 r1, .bool r2], .slice list_a list_n list_e, .tuple #[.float .f32 r1, .bool r2], .float .f32 r1, .bool r2, .bool r2, .bool (!r2), .slice (some ⟨b1, 0, none⟩) 0 1, .slice list_a list_n list_e, .int .i64 (list_n : Int), .int .i64 t19, g20, g21, g22, g23, g24, g25, g26, g27, g28, g29, g30, undef, undef, undef, undef, undef, undef] H Q :=
  ⟨impl_SpreadOf_I1 b1 list_a list_e list_n r1 r2 Inv, ν, ⟨far_a, far_n, far_e, t19, g8, g20, g21, g22, g23, g24, g25, g26, g27, g28, g29, g30, rfl, h0⟩, fun μ tm H h => by obtain ⟨far_a, far_n, far_e, t19, g8, g20, g21, g22, g23, g24, g25, g26, g27, g28, g29, g30, rfl, hI⟩ := h; exact hs μ far_a far_n far_e t19 g8 g20 g21 g22 g23 g24 g25 g26 g27 g28 g29 g30 H hI⟩
theorem impl_SpreadOf_n1 {b1 : Nat} {list_a : Option Addr} {list_e : Nat} {list_n : Nat} {r1 : Nat} {r2 : Bool} {Q : Post} {Inv : Nat → (Option Addr) → Nat → Nat → Int → AHeap → Prop} {μ : Nat} (μ' : Nat) {far_a : Option Addr} {far_n : Nat} {far_e : Nat} {t19 : Int} {g8 g20 g21 g22 g23 g24 g25 g26 g27 g28 g29 g30 : Value} {H : AHeap} (hm : μ' < μ) (hI : Inv μ' far_a far_n far_e t19 H) : loopQ (impl_SpreadOf_I1 b1 list_a list_e list_n r1 r2 Inv) μ Q .normal [.slice list_a list_n list_e, undef, .float .f32 0, .bool false, .float .f32 r1, .bool r2, .slice far_a far_n far_e, undef, g8, .tuple #[.float .f32 r1, .bool r2], .slice list_a list_n list_e, .tuple #[.float .f32 r1, .bool r2], .float .f32 r1, .bool r2, .bool r2, .bool (!r2), .slice (some ⟨b1, 0, none⟩) 0 1, .slice list_a list_n list_e, .int .i64 (list_n : Int), .int .i64 t19, g20, g21, g22, g23, g24, g25, g26, g27, g28, g29, g30, undef, undef, undef, undef, undef, undef] H := ⟨μ', hm, far_a, far_n, far_e, t19, g8, g20, g21, g22, g23, g24, g25, g26, g27, g28, g29, g30, rfl, hI⟩
theorem impl_SpreadOf_x1_0 (b1 : Nat) (list_a : Option Addr) (list_e : Nat) (list_n : Nat) (r1 : Nat) (r2 : Bool) (far_a : Option Addr) (far_n : Nat) (far_e : Nat) (t19 : Int) (g8 g20 g21 g22 g23 g24 g25 g26 g27 g28 g29 g30 : Value) (H : AHeap) (K : Value → AHeap → Prop)  {I : Nat → List Value → AHeap → Prop} {μ : Nat} : loopQ I μ (blockQ 0 (seqQ (exK Try.prog E_impl_SpreadOf (cr (cr (cr (cr (cr (bodyC Try.f51))))))) (retK Try.prog Try.f51 K))) (.exit 0) [.slice list_a list_n list_e, undef, .float .f32 0, .bool false, .float .f32 r1, .bool r2, .slice far_a far_n far_e, undef, g8, .tuple #[.float .f32 r1, .bool r2], .slice list_a list_n list_e, .tuple #[.float .f32 r1, .bool r2], .float .f32 r1, .bool r2, .bool r2, .bool (!r2), .slice (some ⟨b1, 0, none⟩) 0 1, .slice list_a list_n list_e, .int .i64 (list_n : Int), .int .i64 t19, g20, g21, g22, g23, g24, g25, g26, g27, g28, g29, g30, undef, undef, undef, undef, undef, undef] H =
  (T_impl_median far_a far_n far_e H fun (r4 : Nat) (H6 : AHeap) => T_impl_finite (fmul .f32 1069401558 r4) H6 fun (r5 : Nat) (r6 : Bool) (H7 : AHeap) => K (.tuple #[.float .f32 r5, .bool r6]) H7) := by kernel_rfl
theorem E_impl_SpreadOf_ok : ∀ g, FnOk Try.prog g (E_impl_SpreadOf g) := FnOk.envOf (by
  intro x hx
  simp only [List.mem_cons, List.not_mem_nil, or_false] at hx
  rcases hx with rfl | rfl | rfl | rfl
  · exact impl_MedianOf_ok
  · exact impl_size_ok
  · exact impl_median_ok
  · exact impl_finite_ok)
set_option maxHeartbeats 1000000 in
theorem impl_SpreadOf_main (list_a : Option Addr) (list_n : Nat) (list_e : Nat) (H : AHeap) (K : Value → AHeap → Prop) (h : T_impl_SpreadOf list_a list_n list_e H fun (r1 : Nat) (r2 : Bool) (H' : AHeap) => K (.tuple #[.float .f32 r1, .bool r2]) H') : bodyK Try.prog E_impl_SpreadOf Try.f51 [.slice list_a list_n list_e] H K := by
  rw [impl_SpreadOf_vc]
  obtain ⟨l_list, i_list, bd_60, hk⟩ := h
  obtain rfl := i_list.eqn
  have e : (p_impl_SpreadOf l_list) = _ := rfl
  have e := e.trans (p_impl_SpreadOf_eq l_list)
  have g0 := Grow.refl H
  refine T_impl_MedianOf_i ⟨_, (i_list.grow g0), (by first | omega | (simp only [List.length_set, List.length_replicate, List.length_append, List.length_cons, List.length_nil, List.length_take, List.length_drop, marks_length]; done) | (simp only [List.length_set, List.length_replicate, List.length_append, List.length_cons, List.length_nil, List.length_take, List.length_drop, marks_length]; omega)), fun  H_1 g_1  => ?_⟩
  have l_2 := g_1.1
  have g_3 := g0.trans g_1
  have l_4 := g_3.1
  refine Br.intro (fun c_5 => ?_) (fun c_5 => ?_)
  · have e := e.trans (cond_t c_5)
    have c_5n := nf_of_t c_5
    rw [e] at hk
    exact hk  H_1 g_3 
  · have e := e.trans (cond_f c_5)
    have c_5n := nt_of_f c_5
    have c_5n' := impl_MedianOf_t c_5n
    refine Al.intro (fun b_6 H_2 hb_7 hl_8 g_9 o_10 => ?_)
    have o_10 : Own H_2 b_6 ((([] : List Nat)).map fF) := o_10
    have l_12 := g_9.1
    have g_13 := g_3.trans g_9
    have l_14 := g_13.1
    have w_59 := o_10.lt
    refine impl_SpreadOf_L1 _ _ _ _ _ _ (fun (μ : Nat) (far_a : Option Addr) (far_n : Nat) (far_e : Nat) (t19 : Int) (H_3 : AHeap) => ∃ (l_far : List Nat), ∃ (b_15 : Nat), far_a = some ⟨b_15, 0, none⟩ ∧ far_n = l_far.length ∧ far_e = 1 ∧ Own H_3 b_15 (l_far.map fF) ∧ Grow H H_3 ∧ H.length ≤ b_15 ∧ (0 : Int) ≤ t19 ∧ t19 ≤ (l_list.length : Int) ∧ (l_far.length : Int) ≤ t19 - (0 : Int) + 0 ∧ (l_far.length : Int) = t19 ∧ (l_list.length : Int) - t19 ≤ (μ : Int) ∧ p_impl_SpreadOf l_list = p_impl_SpreadOf_l1 l_list (μ + 1) l_far t19) (Int.toNat ((l_list.length : Int) - (0 : Int))) _ _ _ _ _ _ _ _ _ _ _ _ _ _ _ _ H_2 ?_ ?_
    · exact ⟨_, _, rfl, (by first | rfl | omega | (simp only [List.length_set]; done) | (simp only [List.length_set, List.length_replicate]; omega)), rfl, o_10, g_13, (by omega), (by first | omega | (simp; done) | (simp; omega)), (by first | omega | (simp; done) | (simp; omega)), (by first | omega | (simp; done) | (simp; omega)), (by first | omega | (simp; done) | (simp; omega)), (by omega), e⟩
    · intro μ far_a far_n far_e t19 g8 g20 g21 g22 g23 g24 g25 g26 g27 g28 g29 g30 H_3 hI
      obtain ⟨l_far, b_15, rfl, rfl, rfl, o_16, g_17, l_18, v_19, v_20, v_21, v_22, hμ, e⟩ := hI
      rw [impl_SpreadOf_r1]
      have e := e.trans (p_impl_SpreadOf_l1_s l_list μ l_far t19)
      have w_23 := o_16.lt
      have l_24 := g_17.1
      refine Br.intro (fun c_25 => ?_) (fun c_25 => ?_)
      · have e := e.trans (cond_t c_25)
        have c_25' := of_decide_eq_true c_25
        obtain ⟨b_26, f_27, q_28⟩ := ((i_list.grow g_17)).pos (by first | omega | (simp only [List.length_set, List.length_replicate, List.length_append, List.length_cons, List.length_nil, List.length_take, List.length_drop, marks_length]; done) | (simp only [List.length_set, List.length_replicate, List.length_append, List.length_cons, List.length_nil, List.length_take, List.length_drop, marks_length]; omega))
        refine ⟨by omega, by omega, b_26, f_27, q_28, ?_⟩
        refine ⟨((l_list).getD (t19 : Int).toNat 0), (i_list).rd g_17 q_28 (by omega) _, ?_⟩
        refine T_impl_size_i ?_
        refine Al.intro (fun b_29 H_4 hb_30 hl_31 g_32 o_33 => ?_)
        have o_33 : Own H_4 b_29 (([((p_impl_size (fsub .f32 (((l_list).getD (t19 : Int).toNat 0)) ((p_impl_MedianOf l_list).1))))]).map fF) := o_33
        have l_35 := g_32.1
        have g_36 := g_17.trans g_32
        have l_37 := g_36.1
        have o_38 := o_16.grow g_32
        have w_39 := o_38.lt
        have w_52 := o_33.lt
        refine ⟨_, _, o_38.ownB (by first | (simp only [List.length_map, List.length_cons, List.length_nil, List.length_append]; done) | (simp only [List.length_map, List.length_cons, List.length_nil, List.length_append]; omega)) rfl, (isl_rdS (o_33.isL (by first | rfl | omega | (simp only [List.length_set]; done) | (simp only [List.length_set, List.length_replicate]; omega)))), (fun h => by cases h), (by have := most_eq; omega), ?_⟩
        refine Ap.app o_38 rfl rfl (fun b_44 H_5 q_50 hl_40 o_41 k_42 => ?_)
        have o_41 := map_snoc o_41
        have l_45 := k_42.1
        have g_46 := g_36.keep (b := b_15) (by omega) k_42
        have l_47 := g_46.1
        have o_48 := o_33.keep (by omega) k_42
        have w_49 := o_48.lt
        have w_51 := o_41.lt
        rw [show IntKind.wrap .i64 (t19 + 1) = (t19 + 1) from wrap64 (by omega) (by omega)]
        refine impl_SpreadOf_n1 (μ - 1) (by first | omega) ⟨_, _, rfl, (by first | (simp only [List.length_append, List.length_cons, List.length_nil]; done) | (simp only [List.length_append, List.length_cons, List.length_nil]; omega) | (simp only [List.length_append, List.length_cons, List.length_nil, List.length_take, List.length_drop]; omega)), rfl, o_41, g_46, (by omega), (by first | omega | (simp only [List.length_append, List.length_cons, List.length_nil, List.length_set]; done) | (simp only [List.length_append, List.length_cons, List.length_nil, List.length_set]; omega)), (by first | omega | (simp only [List.length_append, List.length_cons, List.length_nil, List.length_set]; done) | (simp only [List.length_append, List.length_cons, List.length_nil, List.length_set]; omega)), (by first | omega | (simp only [List.length_append, List.length_cons, List.length_nil, List.length_set]; done) | (simp only [List.length_append, List.length_cons, List.length_nil, List.length_set]; omega)), (by first | omega | (simp only [List.length_append, List.length_cons, List.length_nil, List.length_set]; done) | (simp only [List.length_append, List.length_cons, List.length_nil, List.length_set]; omega)), (by first | omega), (by rw [show μ - 1 + 1 = μ from by first | omega]; exact e)⟩
      · have e := e.trans (cond_f c_25)
        have c_25' := of_decide_eq_false c_25
        rw [impl_SpreadOf_x1_0]
        refine T_impl_median_i ⟨_, (o_16.isL (by first | rfl | omega | (simp only [List.length_set]; done) | (simp only [List.length_set, List.length_replicate]; omega))), (by first | omega | (simp only [List.length_set, List.length_replicate, List.length_append, List.length_cons, List.length_nil, List.length_take, List.length_drop, marks_length]; done) | (simp only [List.length_set, List.length_replicate, List.length_append, List.length_cons, List.length_nil, List.length_take, List.length_drop, marks_length]; omega)), (by first | assumption | omega | (simp; omega)), fun  H_6 g_53  => ?_⟩
        have l_54 := g_53.1
        have g_55 := g_17.trans g_53
        have l_56 := g_55.1
        have o_57 := o_16.grow g_53
        have w_58 := o_57.lt
        refine T_impl_finite_i ?_
        rw [e] at hk
        exact hk  H_6 g_55 
theorem impl_SpreadOf_ok : FnOk Try.prog 51 S_impl_SpreadOf := by
  refine FnOk.body mix_ok E_impl_SpreadOf_ok Try.func51 rfl (by kernel_rfl) (by kernel_rfl) ?_ ?_ ?_ ?_ ?_
  · intro args H K K' h hk
    simp only [S_impl_SpreadOf] at *
    unfold F_impl_SpreadOf at *
    split at hk
    · obtain ⟨l_list, i_list, bd_60, k⟩ := hk
      exact ⟨l_list, i_list, bd_60, (fun  H' gg  => h _ _ (k  H' gg ))⟩
    · exact hk.elim
  · intro hq; cases hq
  · intro args H K hk
    simp only [S_impl_SpreadOf] at *
    unfold F_impl_SpreadOf at *
    split at hk
    · obtain ⟨l_list, i_list, bd_60, k⟩ := hk
      exact ⟨_, _, k H (Grow.refl H)⟩
    · exact hk.elim
  · intro _ args H K hk
    simp only [S_impl_SpreadOf] at *
    unfold F_impl_SpreadOf at *
    split at hk
    · obtain ⟨l_list, i_list, bd_60, k⟩ := hk
      exact ⟨l_list, i_list, bd_60, (fun  H' gg  => ⟨gg, k  H' gg ⟩)⟩
    · exact hk.elim
  · have mm := @impl_SpreadOf_main
    revert mm
    generalize bodyK Try.prog E_impl_SpreadOf Try.f51 = Q
    intro mm args H K hk
    simp only [S_impl_SpreadOf] at *
    unfold F_impl_SpreadOf at *
    split at hk
    · exact mm _ _ _ H K hk
    · exact hk.elim
def p_laws_sameFloat (a : Nat) (b : Nat) : Bool := ((bif !(feq .f64 a a) then (bif !(feq .f64 a a) then !(feq .f64 b b) else false) else (bif !(feq .f64 b b) then (bif !(feq .f64 a a) then !(feq .f64 b b) else false) else (bif feq .f64 a 0 then (bif feq .f64 b 0 then (flt .f64 0 (fdiv .f64 4607182418800017408 a)) == (flt .f64 0 (fdiv .f64 4607182418800017408 b)) else feq .f64 a b) else feq .f64 a b))))
theorem p_laws_sameFloat_eq (a : Nat) (b : Nat) : p_laws_sameFloat a b = ((bif !(feq .f64 a a) then (bif !(feq .f64 a a) then !(feq .f64 b b) else false) else (bif !(feq .f64 b b) then (bif !(feq .f64 a a) then !(feq .f64 b b) else false) else (bif feq .f64 a 0 then (bif feq .f64 b 0 then (flt .f64 0 (fdiv .f64 4607182418800017408 a)) == (flt .f64 0 (fdiv .f64 4607182418800017408 b)) else feq .f64 a b) else feq .f64 a b)))) := rfl
def T_laws_sameFloat (a : Nat) (b : Nat) (H : AHeap) (K : Bool → AHeap → Prop) : Prop := K (p_laws_sameFloat a b) H

theorem T_laws_sameFloat_i {a : Nat} {b : Nat} {H : AHeap} {K : Bool → AHeap → Prop} (h : K (p_laws_sameFloat a b) H) : T_laws_sameFloat a b H K := h
/-! laws_sameFloat: function 18 -/
def E_laws_sameFloat : Env := envOf []
def F_laws_sameFloat : List Value → AHeap → (Value → AHeap → Prop) → Prop
  | [.float .f64 a, .float .f64 b], H, K => T_laws_sameFloat a b H fun (r1 : Bool) (H' : AHeap) => K (.bool r1) H'
  | _, _, _ => False
def S_laws_sameFloat : FSpec := { F := F_laws_sameFloat, quiet := true, tame := false }
theorem laws_sameFloat_vc (a : Nat) (b : Nat) (H : AHeap) (K : Value → AHeap → Prop) : bodyK Try.prog E_laws_sameFloat Try.f18 [.float .f64 a, .float .f64 b] H K =
  (Br (!(feq .f64 a a)) (Br (!(feq .f64 a a)) (K (.bool (!(feq .f64 b b))) H) (K (.bool false) H)) (Br (!(feq .f64 b b)) (Br (!(feq .f64 a a)) (K (.bool (!(feq .f64 b b))) H) (K (.bool false) H)) (Br (feq .f64 a 0) (Br (feq .f64 b 0) (K (.bool ((flt .f64 0 (fdiv .f64 4607182418800017408 a)) == (flt .f64 0 (fdiv .f64 4607182418800017408 b)))) H) (K (.bool (feq .f64 a b)) H)) (K (.bool (feq .f64 a b)) H)))) := by kernel_rfl
theorem E_laws_sameFloat_ok : ∀ g, FnOk Try.prog g (E_laws_sameFloat g) := FnOk.envOf (by
  intro x hx; cases hx)
set_option maxHeartbeats 1000000 in
theorem laws_sameFloat_main (a : Nat) (b : Nat) (H : AHeap) (K : Value → AHeap → Prop) (h : T_laws_sameFloat a b H fun (r1 : Bool) (H' : AHeap) => K (.bool r1) H') : bodyK Try.prog E_laws_sameFloat Try.f18 [.float .f64 a, .float .f64 b] H K := by
  rw [laws_sameFloat_vc]
  unfold T_laws_sameFloat p_laws_sameFloat at h
  repeat' (first | exact h | (exfalso; simp_all; done) | (refine ⟨by decide, ?_⟩) | (refine Br.intro (fun hb => ?_) (fun hb => ?_) <;> (try simp only [hb, cond_true, cond_false, Bool.not_true, Bool.not_false] at h)))
theorem laws_sameFloat_ok : FnOk Try.prog 18 S_laws_sameFloat := by
  refine FnOk.body mix_ok E_laws_sameFloat_ok Try.func18 rfl (by kernel_rfl) (by kernel_rfl) ?_ ?_ ?_ ?_ ?_
  · intro args H K K' h hk
    simp only [S_laws_sameFloat] at *
    unfold F_laws_sameFloat at *
    split at hk
    · have k := hk
      exact h _ _ k
    · exact hk.elim
  · intro _ args H K hk
    simp only [S_laws_sameFloat] at *
    unfold F_laws_sameFloat at *
    split at hk
    · have k := hk
      exact ⟨_, k, fun K' k' => k'⟩
    · exact hk.elim
  · intro args H K hk
    simp only [S_laws_sameFloat] at *
    unfold F_laws_sameFloat at *
    split at hk
    · have k := hk
      exact ⟨_, _, k⟩
    · exact hk.elim
  · intro hq; cases hq
  · have mm := @laws_sameFloat_main
    revert mm
    generalize bodyK Try.prog E_laws_sameFloat Try.f18 = Q
    intro mm args H K hk
    simp only [S_laws_sameFloat] at *
    unfold F_laws_sameFloat at *
    split at hk
    · exact mm _ _ H K hk
    · exact hk.elim

def p_laws_eqFloat32S_l1 (l_a : List Nat) (l_b : List Nat) : Nat → Bool → Int → Bool
  | 0, _, _ => false
  | μ + 1, t4, i => (bif decide ((i : Int) < (l_a.length : Int)) then (bif !((p_laws_sameFloat (fwide (((l_a).getD (i : Int).toNat 0))) (fwide (((l_b).getD (i : Int).toNat 0))))) then false else (p_laws_eqFloat32S_l1 l_a l_b μ t4 (i + 1))) else true)
theorem p_laws_eqFloat32S_l1_s (l_a : List Nat) (l_b : List Nat) (μ : Nat) (t4 : Bool) (i : Int) : p_laws_eqFloat32S_l1 l_a l_b (μ + 1) t4 i = (bif decide ((i : Int) < (l_a.length : Int)) then (bif !((p_laws_sameFloat (fwide (((l_a).getD (i : Int).toNat 0))) (fwide (((l_b).getD (i : Int).toNat 0))))) then false else (p_laws_eqFloat32S_l1 l_a l_b μ t4 (i + 1))) else true) := rfl
def p_laws_eqFloat32S (l_a : List Nat) (l_b : List Nat) : Bool := ((bif ((l_a.length : Int) : Int) != (l_b.length : Int) then false else (p_laws_eqFloat32S_l1 l_a l_b (Int.toNat ((l_a.length : Int) - (0 : Int)) + 1) false (0 : Int))))
theorem p_laws_eqFloat32S_eq (l_a : List Nat) (l_b : List Nat) : p_laws_eqFloat32S l_a l_b = ((bif ((l_a.length : Int) : Int) != (l_b.length : Int) then false else (p_laws_eqFloat32S_l1 l_a l_b (Int.toNat ((l_a.length : Int) - (0 : Int)) + 1) false (0 : Int)))) := rfl
def T_laws_eqFloat32S (a_a : Option Addr) (a_n : Nat) (a_e : Nat) (b_a : Option Addr) (b_n : Nat) (b_e : Nat) (H : AHeap) (K : Bool → AHeap → Prop) : Prop := ∃ (l_a : List Nat), ∃ (l_b : List Nat), IsL fF H a_a a_n l_a ∧ IsL fF H b_a b_n l_b ∧ l_a.length < 1073741824 ∧ l_b.length < 1073741824 ∧ K (p_laws_eqFloat32S l_a l_b) H
theorem T_laws_eqFloat32S_i {a_a : Option Addr} {a_n : Nat} {a_e : Nat} {b_a : Option Addr} {b_n : Nat} {b_e : Nat} {H : AHeap} {K : Bool → AHeap → Prop} (h : ∃ (l_a : List Nat), ∃ (l_b : List Nat), IsL fF H a_a a_n l_a ∧ IsL fF H b_a b_n l_b ∧ l_a.length < 1073741824 ∧ l_b.length < 1073741824 ∧ K (p_laws_eqFloat32S l_a l_b) H) : T_laws_eqFloat32S a_a a_n a_e b_a b_n b_e H K := h
theorem laws_sameFloat_self (y : Nat) : p_laws_sameFloat y y = true := by
  rw [p_laws_sameFloat_eq]
  cases feq .f64 y y <;> simp
theorem laws_eqFloat32S_go (l : List Nat) : ∀ (μ : Nat) (t : Bool) (i : Nat), l.length - i < μ → p_laws_eqFloat32S_l1 l l μ t (i : Int) = true := by
  intro μ
  induction μ with
  | zero => intro t i h; omega
  | succ μ ih =>
    intro t i hm
    rw [p_laws_eqFloat32S_l1_s]
    by_cases h : i < l.length
    · rw [decide_eq_true (show (i : Int) < (l.length : Int) by omega), cond_true, laws_sameFloat_self]
      simp only [Bool.not_true, cond_false]
      exact ih t (i + 1) (by omega)
    · rw [decide_eq_false (show ¬ (i : Int) < (l.length : Int) by omega), cond_false]
theorem laws_eqFloat32S_self (l : List Nat) : p_laws_eqFloat32S l l = true := by
  rw [p_laws_eqFloat32S_eq]
  have h0 : ((l.length : Int) != (l.length : Int)) = false := by simp
  rw [h0, cond_false]
  exact laws_eqFloat32S_go l _ false 0 (by omega)
/-! laws_eqFloat32S: function 19 -/
def E_laws_eqFloat32S : Env := envOf [(18, S_laws_sameFloat)]
def F_laws_eqFloat32S : List Value → AHeap → (Value → AHeap → Prop) → Prop
  | [.slice a_a a_n a_e, .slice b_a b_n b_e], H, K => T_laws_eqFloat32S a_a a_n a_e b_a b_n b_e H fun (r1 : Bool) (H' : AHeap) => K (.bool r1) H'
  | _, _, _ => False
def S_laws_eqFloat32S : FSpec := { F := F_laws_eqFloat32S, quiet := true, tame := false }
theorem laws_eqFloat32S_vc (a_a : Option Addr) (a_n : Nat) (a_e : Nat) (b_a : Option Addr) (b_n : Nat) (b_e : Nat) (H : AHeap) (K : Value → AHeap → Prop) : bodyK Try.prog E_laws_eqFloat32S Try.f19 [.slice a_a a_n a_e, .slice b_a b_n b_e] H K =
  (Br (((a_n : Int) : Int) != (b_n : Int)) (K (.bool false) H) (loopK (exK Try.prog E_laws_eqFloat32S (cl (cl (cr (cl (cr (cr (bodyC Try.f19)))))))) [.slice a_a a_n a_e, .slice b_a b_n b_e, undef, undef, .bool false, .int .i64 0, .slice a_a a_n a_e, .int .i64 (a_n : Int), .slice b_a b_n b_e, .int .i64 (b_n : Int), .bool (((a_n : Int) : Int) != (b_n : Int)), undef, undef, undef, undef, undef, undef, undef, undef, undef, undef, undef, undef, undef, undef, undef, undef, undef, undef] H (blockQ 0 (seqQ (exK Try.prog E_laws_eqFloat32S (cr (cr (cr (bodyC Try.f19))))) (retK Try.prog Try.f19 K))))) := by kernel_rfl
theorem laws_eqFloat32S_r1 (a_a : Option Addr) (a_e : Nat) (a_n : Nat) (b_a : Option Addr) (b_e : Nat) (b_n : Nat) (t4 : Bool) (i : Int) (g11 g12 g13 g14 g15 g16 g17 g18 g19 g20 g21 g22 g23 g24 g25 g26 g27 g28 : Value) (H : AHeap) (R : Post) : exK Try.prog E_laws_eqFloat32S (cl (cl (cr (cl (cr (cr (bodyC Try.f19))))))) [.slice a_a a_n a_e, .slice b_a b_n b_e, undef, undef, .bool t4, .int .i64 i, .slice a_a a_n a_e, .int .i64 (a_n : Int), .slice b_a b_n b_e, .int .i64 (b_n : Int), .bool (((a_n : Int) : Int) != (b_n : Int)), g11, g12, g13, g14, g15, g16, g17, g18, g19, g20, g21, g22, g23, g24, g25, g26, g27, g28] H R =
  (Br (decide ((i : Int) < (a_n : Int))) ((0 : Int) ≤ i ∧ i < (a_n : Int) ∧ ∃ b1 f1, (a_a : Option Addr) = some ⟨b1, f1, none⟩ ∧ ∃ x1 : Nat,  rdC H b1 (f1 + (i : Int).toNat * 1) = some (.float .f32 x1) ∧ (0 : Int) ≤ i ∧ i < (b_n : Int) ∧ ∃ b2 f2, (b_a : Option Addr) = some ⟨b2, f2, none⟩ ∧ ∃ x2 : Nat,  rdC H b2 (f2 + (i : Int).toNat * 1) = some (.float .f32 x2) ∧ T_laws_sameFloat (fwide x1) (fwide x2) H fun (r1 : Bool) (H1 : AHeap) => Br (!r1) (R .ret [.slice a_a a_n a_e, .slice b_a b_n b_e, undef, undef, .bool false, .int .i64 i, .slice a_a a_n a_e, .int .i64 (a_n : Int), .slice b_a b_n b_e, .int .i64 (b_n : Int), .bool (((a_n : Int) : Int) != (b_n : Int)), .int .i64 i, .slice a_a a_n a_e, .int .i64 (a_n : Int), .bool (decide ((i : Int) < (a_n : Int))), g15, g16, .slice a_a a_n a_e, .int .i64 i, .pointer (some ⟨b1, f1 + (i : Int).toNat * 1, none⟩), .float .f32 x1, .float .f64 (fwide x1), .slice b_a b_n b_e, .int .i64 i, .pointer (some ⟨b2, f2 + (i : Int).toNat * 1, none⟩), .float .f32 x2, .float .f64 (fwide x2), .bool r1, .bool (!r1)] H1) (R .normal [.slice a_a a_n a_e, .slice b_a b_n b_e, undef, undef, .bool t4, .int .i64 (IntKind.wrap .i64 (i + 1)), .slice a_a a_n a_e, .int .i64 (a_n : Int), .slice b_a b_n b_e, .int .i64 (b_n : Int), .bool (((a_n : Int) : Int) != (b_n : Int)), .int .i64 i, .slice a_a a_n a_e, .int .i64 (a_n : Int), .bool (decide ((i : Int) < (a_n : Int))), .int .i64 i, .int .i64 (IntKind.wrap .i64 (i + 1)), .slice a_a a_n a_e, .int .i64 i, .pointer (some ⟨b1, f1 + (i : Int).toNat * 1, none⟩), .float .f32 x1, .float .f64 (fwide x1), .slice b_a b_n b_e, .int .i64 i, .pointer (some ⟨b2, f2 + (i : Int).toNat * 1, none⟩), .float .f32 x2, .float .f64 (fwide x2), .bool r1, .bool (!r1)] H1)) (R (.exit 0) [.slice a_a a_n a_e, .slice b_a b_n b_e, undef, undef, .bool t4, .int .i64 i, .slice a_a a_n a_e, .int .i64 (a_n : Int), .slice b_a b_n b_e, .int .i64 (b_n : Int), .bool (((a_n : Int) : Int) != (b_n : Int)), .int .i64 i, .slice a_a a_n a_e, .int .i64 (a_n : Int), .bool (decide ((i : Int) < (a_n : Int))), g15, g16, g17, g18, g19, g20, g21, g22, g23, g24, g25, g26, g27, g28] H)) := by kernel_rfl
def laws_eqFloat32S_I1 (a_a : Option Addr) (a_e : Nat) (a_n : Nat) (b_a : Option Addr) (b_e : Nat) (b_n : Nat) (Inv : Nat → Bool → Int → AHeap → Prop) : Nat → List Value → AHeap → Prop := fun μ tm H => ∃ (t4 : Bool), ∃ (i : Int), ∃ g11 g12 g13 g14 g15 g16 g17 g18 g19 g20 g21 g22 g23 g24 g25 g26 g27 g28, tm = [.slice a_a a_n a_e, .slice b_a b_n b_e, undef, undef, .bool t4, .int .i64 i, .slice a_a a_n a_e, .int .i64 (a_n : Int), .slice b_a b_n b_e, .int .i64 (b_n : Int), .bool (((a_n : Int) : Int) != (b_n : Int)), g11, g12, g13, g14, g15, g16, g17, g18, g19, g20, g21, g22, g23, g24, g25, g26, g27, g28] ∧ Inv μ t4 i H
theorem laws_eqFloat32S_L1 (a_a : Option Addr) (a_e : Nat) (a_n : Nat) (b_a : Option Addr) (b_e : Nat) (b_n : Nat) {Q : Post} (Inv : Nat → Bool → Int → AHeap → Prop) (ν : Nat) (t4 : Bool) (i : Int) (g11 g12 g13 g14 g15 g16 g17 g18 g19 g20 g21 g22 g23 g24 g25 g26 g27 g28 : Value) (H : AHeap) (h0 : Inv ν t4 i H)
    (hs : ∀ (μ : Nat) (t4 : Bool) (i : Int) (g11 g12 g13 g14 g15 g16 g17 g18 g19 g20 g21 g22 g23 g24 g25 g26 g27 g28 : Value) (H : AHeap), Inv μ t4 i H → exK Try.prog E_laws_eqFloat32S (cl (cl (cr (cl (cr (cr (bodyC Try.f19))))))) [.slice a_a a_n a_e, .slice b_a b_n b_e, undef, undef, .bool t4, .int .i64 i, .slice a_a a_n a_e, .int .i64 (a_n : Int), .slice b_a b_n b_e, .int .i64 (b_n : Int), .bool (((a_n : Int) : Int) != (b_n : Int)), g11, g12, g13, g14, g15, g16, g17, g18, g19, g20, g21, g22, g23, g24, g25, g26, g27, g28] H (loopQ (laws_eqFloat32S_I1 a_a a_e a_n b_a b_e b_n Inv) μ Q)) : loopK (exK Try.prog E_laws_eqFloat32S (cl (cl (cr (cl (cr (cr (bodyC Try.f19)))))))) [.slice a_a a_n a_e, .slice b_a b_n b_e, undef, undef, .bool t4, .int .i64 i, .slice a_a a_n a_e, .int .i64 (a_n : Int), .slice b_a b_n b_e, .int .i64 (b_n : Int), .bool (((a_n : Int) : Int) != (b_n : Int)), g11, g12, g13, g14, g15, g16, g17, g18, g19, g20, g21, g22, g23, g24, g25, g26, g27, g28] H Q :=
  ⟨laws_eqFloat32S_I1 a_a a_e a_n b_a b_e b_n Inv, ν, ⟨t4, i, g11, g12, g13, g14, g15, g16, g17, g18, g19, g20, g21, g22, g23, g24, g25, g26, g27, g28, rfl, h0⟩, fun μ tm H h => by obtain ⟨t4, i, g11, g12, g13, g14, g15, g16, g17, g18, g19, g20, g21, g22, g23, g24, g25, g26, g27, g28, rfl, hI⟩ := h; exact hs μ t4 i g11 g12 g13 g14 g15 g16 g17 g18 g19 g20 g21 g22 g23 g24 g25 g26 g27 g28 H hI⟩
theorem laws_eqFloat32S_n1 {a_a : Option Addr} {a_e : Nat} {a_n : Nat} {b_a : Option Addr} {b_e : Nat} {b_n : Nat} {Q : Post} {Inv : Nat → Bool → Int → AHeap → Prop} {μ : Nat} (μ' : Nat) {t4 : Bool} {i : Int} {g11 g12 g13 g14 g15 g16 g17 g18 g19 g20 g21 g22 g23 g24 g25 g26 g27 g28 : Value} {H : AHeap} (hm : μ' < μ) (hI : Inv μ' t4 i H) : loopQ (laws_eqFloat32S_I1 a_a a_e a_n b_a b_e b_n Inv) μ Q .normal [.slice a_a a_n a_e, .slice b_a b_n b_e, undef, undef, .bool t4, .int .i64 i, .slice a_a a_n a_e, .int .i64 (a_n : Int), .slice b_a b_n b_e, .int .i64 (b_n : Int), .bool (((a_n : Int) : Int) != (b_n : Int)), g11, g12, g13, g14, g15, g16, g17, g18, g19, g20, g21, g22, g23, g24, g25, g26, g27, g28] H := ⟨μ', hm, t4, i, g11, g12, g13, g14, g15, g16, g17, g18, g19, g20, g21, g22, g23, g24, g25, g26, g27, g28, rfl, hI⟩
theorem laws_eqFloat32S_x1_0 (a_a : Option Addr) (a_e : Nat) (a_n : Nat) (b_a : Option Addr) (b_e : Nat) (b_n : Nat) (t4 : Bool) (i : Int) (g11 g12 g13 g14 g15 g16 g17 g18 g19 g20 g21 g22 g23 g24 g25 g26 g27 g28 : Value) (H : AHeap) (K : Value → AHeap → Prop)  {I : Nat → List Value → AHeap → Prop} {μ : Nat} : loopQ I μ (blockQ 0 (seqQ (exK Try.prog E_laws_eqFloat32S (cr (cr (cr (bodyC Try.f19))))) (retK Try.prog Try.f19 K))) (.exit 0) [.slice a_a a_n a_e, .slice b_a b_n b_e, undef, undef, .bool t4, .int .i64 i, .slice a_a a_n a_e, .int .i64 (a_n : Int), .slice b_a b_n b_e, .int .i64 (b_n : Int), .bool (((a_n : Int) : Int) != (b_n : Int)), g11, g12, g13, g14, g15, g16, g17, g18, g19, g20, g21, g22, g23, g24, g25, g26, g27, g28] H =
  (K (.bool true) H) := by kernel_rfl
theorem laws_eqFloat32S_x1_ret (a_a : Option Addr) (a_e : Nat) (a_n : Nat) (b_a : Option Addr) (b_e : Nat) (b_n : Nat) (t4 : Bool) (i : Int) (g11 g12 g13 g14 g15 g16 g17 g18 g19 g20 g21 g22 g23 g24 g25 g26 g27 g28 : Value) (H : AHeap) (K : Value → AHeap → Prop)  {I : Nat → List Value → AHeap → Prop} {μ : Nat} : loopQ I μ (blockQ 0 (seqQ (exK Try.prog E_laws_eqFloat32S (cr (cr (cr (bodyC Try.f19))))) (retK Try.prog Try.f19 K))) .ret [.slice a_a a_n a_e, .slice b_a b_n b_e, undef, undef, .bool t4, .int .i64 i, .slice a_a a_n a_e, .int .i64 (a_n : Int), .slice b_a b_n b_e, .int .i64 (b_n : Int), .bool (((a_n : Int) : Int) != (b_n : Int)), g11, g12, g13, g14, g15, g16, g17, g18, g19, g20, g21, g22, g23, g24, g25, g26, g27, g28] H =
  (K (.bool t4) H) := by kernel_rfl
theorem E_laws_eqFloat32S_ok : ∀ g, FnOk Try.prog g (E_laws_eqFloat32S g) := FnOk.envOf (by
  intro x hx
  simp only [List.mem_cons, List.not_mem_nil, or_false] at hx
  subst hx; exact laws_sameFloat_ok)
set_option maxHeartbeats 1000000 in
theorem laws_eqFloat32S_main (a_a : Option Addr) (a_n : Nat) (a_e : Nat) (b_a : Option Addr) (b_n : Nat) (b_e : Nat) (H : AHeap) (K : Value → AHeap → Prop) (h : T_laws_eqFloat32S a_a a_n a_e b_a b_n b_e H fun (r1 : Bool) (H' : AHeap) => K (.bool r1) H') : bodyK Try.prog E_laws_eqFloat32S Try.f19 [.slice a_a a_n a_e, .slice b_a b_n b_e] H K := by
  rw [laws_eqFloat32S_vc]
  obtain ⟨l_a, l_b, i_a, i_b, bd_13, bd_14, hk⟩ := h
  obtain rfl := i_a.eqn
  obtain rfl := i_b.eqn
  have e : (p_laws_eqFloat32S l_a l_b) = _ := rfl
  have e := e.trans (p_laws_eqFloat32S_eq l_a l_b)
  have g0 := Grow.refl H
  refine Br.intro (fun c_1 => ?_) (fun c_1 => ?_)
  · have e := e.trans (cond_t c_1)
    have c_1' := ine_t c_1
    rw [e] at hk
    exact hk
  · have e := e.trans (cond_f c_1)
    have c_1' := ine_f c_1
    refine laws_eqFloat32S_L1 _ _ _ _ _ _ (fun (μ : Nat) (t4 : Bool) (i : Int) (H_1 : AHeap) => H = H_1 ∧ (0 : Int) ≤ i ∧ i ≤ (l_a.length : Int) ∧ (l_a.length : Int) - i ≤ (μ : Int) ∧ p_laws_eqFloat32S l_a l_b = p_laws_eqFloat32S_l1 l_a l_b (μ + 1) t4 i) (Int.toNat ((l_a.length : Int) - (0 : Int))) _ _ _ _ _ _ _ _ _ _ _ _ _ _ _ _ _ _ _ _ H ?_ ?_
    · exact ⟨rfl, (by first | omega | (simp; done) | (simp; omega)), (by first | omega | (simp; done) | (simp; omega)), (by omega), e⟩
    · intro μ t4 i g11 g12 g13 g14 g15 g16 g17 g18 g19 g20 g21 g22 g23 g24 g25 g26 g27 g28 H_1 hI
      obtain ⟨rfl, v_2, v_3, hμ, e⟩ := hI
      rw [laws_eqFloat32S_r1]
      have e := e.trans (p_laws_eqFloat32S_l1_s l_a l_b μ t4 i)
      have l_4 := g0.1
      refine Br.intro (fun c_5 => ?_) (fun c_5 => ?_)
      · have e := e.trans (cond_t c_5)
        have c_5' := of_decide_eq_true c_5
        obtain ⟨b_6, f_7, q_8⟩ := ((i_a.grow g0)).pos (by first | omega | (simp only [List.length_set, List.length_replicate, List.length_append, List.length_cons, List.length_nil, List.length_take, List.length_drop, marks_length]; done) | (simp only [List.length_set, List.length_replicate, List.length_append, List.length_cons, List.length_nil, List.length_take, List.length_drop, marks_length]; omega))
        refine ⟨by omega, by omega, b_6, f_7, q_8, ?_⟩
        refine ⟨((l_a).getD (i : Int).toNat 0), (i_a).rd g0 q_8 (by omega) _, ?_⟩
        obtain ⟨b_9, f_10, q_11⟩ := ((i_b.grow g0)).pos (by first | omega | (simp only [List.length_set, List.length_replicate, List.length_append, List.length_cons, List.length_nil, List.length_take, List.length_drop, marks_length]; done) | (simp only [List.length_set, List.length_replicate, List.length_append, List.length_cons, List.length_nil, List.length_take, List.length_drop, marks_length]; omega))
        refine ⟨by omega, by omega, b_9, f_10, q_11, ?_⟩
        refine ⟨((l_b).getD (i : Int).toNat 0), (i_b).rd g0 q_11 (by omega) _, ?_⟩
        refine T_laws_sameFloat_i ?_
        refine Br.intro (fun c_12 => ?_) (fun c_12 => ?_)
        · have e := e.trans (cond_t c_12)
          have c_12n := nf_of_t c_12
          rw [laws_eqFloat32S_x1_ret]
          rw [e] at hk
          exact hk
        · have e := e.trans (cond_f c_12)
          have c_12n := nt_of_f c_12
          rw [show IntKind.wrap .i64 (i + 1) = (i + 1) from wrap64 (by omega) (by omega)]
          refine laws_eqFloat32S_n1 (μ - 1) (by first | omega) ⟨rfl, (by first | omega | (simp only [List.length_append, List.length_cons, List.length_nil, List.length_set]; done) | (simp only [List.length_append, List.length_cons, List.length_nil, List.length_set]; omega)), (by first | omega | (simp only [List.length_append, List.length_cons, List.length_nil, List.length_set]; done) | (simp only [List.length_append, List.length_cons, List.length_nil, List.length_set]; omega)), (by first | omega), (by rw [show μ - 1 + 1 = μ from by first | omega]; exact e)⟩
      · have e := e.trans (cond_f c_5)
        have c_5' := of_decide_eq_false c_5
        rw [laws_eqFloat32S_x1_0]
        rw [e] at hk
        exact hk
theorem laws_eqFloat32S_ok : FnOk Try.prog 19 S_laws_eqFloat32S := by
  refine FnOk.body mix_ok E_laws_eqFloat32S_ok Try.func19 rfl (by kernel_rfl) (by kernel_rfl) ?_ ?_ ?_ ?_ ?_
  · intro args H K K' h hk
    simp only [S_laws_eqFloat32S] at *
    unfold F_laws_eqFloat32S at *
    split at hk
    · obtain ⟨l_a, l_b, i_a, i_b, bd_13, bd_14, k⟩ := hk
      exact ⟨l_a, l_b, i_a, i_b, bd_13, bd_14, h _ _ k⟩
    · exact hk.elim
  · intro _ args H K hk
    simp only [S_laws_eqFloat32S] at *
    unfold F_laws_eqFloat32S at *
    split at hk
    · obtain ⟨l_a, l_b, i_a, i_b, bd_13, bd_14, k⟩ := hk
      exact ⟨_, k, fun K' k' => ⟨l_a, l_b, i_a, i_b, bd_13, bd_14, k'⟩⟩
    · exact hk.elim
  · intro args H K hk
    simp only [S_laws_eqFloat32S] at *
    unfold F_laws_eqFloat32S at *
    split at hk
    · obtain ⟨l_a, l_b, i_a, i_b, bd_13, bd_14, k⟩ := hk
      exact ⟨_, _, k⟩
    · exact hk.elim
  · intro hq; cases hq
  · have mm := @laws_eqFloat32S_main
    revert mm
    generalize bodyK Try.prog E_laws_eqFloat32S Try.f19 = Q
    intro mm args H K hk
    simp only [S_laws_eqFloat32S] at *
    unfold F_laws_eqFloat32S at *
    split at hk
    · exact mm _ _ _ _ _ _ H K hk
    · exact hk.elim

def p_laws_FnExactSpreadOf (l_aList : List Nat) : Bool := ((bif decide ((1048576 : Int) < (l_aList.length : Int)) then true else (bif !((p_laws_sameFloat (fwide ((p_impl_SpreadOf l_aList).1)) (fwide ((p_spec_SpreadOf l_aList).1)))) then false else (bif !(((p_impl_SpreadOf l_aList).2) == ((p_spec_SpreadOf l_aList).2)) then false else (bif !(p_laws_eqFloat32S l_aList l_aList) then false else true)))))
theorem p_laws_FnExactSpreadOf_eq (l_aList : List Nat) : p_laws_FnExactSpreadOf l_aList = ((bif decide ((1048576 : Int) < (l_aList.length : Int)) then true else (bif !((p_laws_sameFloat (fwide ((p_impl_SpreadOf l_aList).1)) (fwide ((p_spec_SpreadOf l_aList).1)))) then false else (bif !(((p_impl_SpreadOf l_aList).2) == ((p_spec_SpreadOf l_aList).2)) then false else (bif !(p_laws_eqFloat32S l_aList l_aList) then false else true))))) := rfl
def T_laws_FnExactSpreadOf (aList_a : Option Addr) (aList_n : Nat) (aList_e : Nat) (H : AHeap) (K : Bool → AHeap → Prop) : Prop := ∃ l_aList : List Nat, IsL fF H aList_a aList_n l_aList ∧ (∀ y ∈ l_aList, W32 y) ∧ l_aList.length ≤ 9223372036854775807 ∧ ∀ H' : AHeap, K true H'
theorem spec_fin (x : Nat) : p_spec_l01Finite x = fin .f32 x := fin_asked x
theorem impl_fin (x : Nat) : p_impl_IsFinite x = fin .f32 x := fin_asked x
theorem w32_wd {x : Nat} (h : W32 x) : Wd .f32 x := ⟨h.1, h.2⟩
theorem wd_w32 {x : Nat} (h : Wd .f32 x) : W32 x := ⟨h.1, h.2⟩
theorem l02Finite_go (l : List Nat) : ∀ (μ : Nat) (t : Bool) (i : Nat), l.length - i < μ → p_spec_l02Finite_l1 l μ t (i : Int) = (l.drop i).all (fin .f32) := by
  intro μ
  induction μ with
  | zero => intro t i h; omega
  | succ μ ih =>
    intro t i hm
    rw [p_spec_l02Finite_l1_s]
    by_cases h : i < l.length
    · rw [decide_eq_true (show (i : Int) < (l.length : Int) by omega), cond_true, Int.toNat_natCast, spec_fin]
      rw [List.drop_eq_getElem_cons h, List.all_cons, List.getD_eq_getElem?_getD, List.getElem?_eq_getElem h, Option.getD_some]
      have := ih t (i + 1) (by omega)
      cases fin .f32 l[i]
      · rfl
      · simp only [Bool.not_true, cond_false, Bool.true_and]; exact this
    · rw [decide_eq_false (show ¬ (i : Int) < (l.length : Int) by omega), cond_false, List.drop_eq_nil_of_le (by omega)]; rfl
theorem l02Finite_all (l : List Nat) : p_spec_l02Finite l = l.all (fin .f32) := by
  rw [p_spec_l02Finite_eq]
  have := l02Finite_go l (Int.toNat ((l.length : Int) - (0 : Int)) + 1) false 0 (by omega)
  simpa using this
theorem areFinite_in (ls : List (List Nat)) (t2 : Bool) (t9 : Int) (k : Bool → Int → Bool) : ∀ (μ : Nat) (t : Bool) (i : Nat), i ≤ (ls.getD t9.toNat []).length → (ls.getD t9.toNat []).length - i < μ →
    p_impl_areFinite_l2 ls t2 t9 k μ t (i : Int) = bif ((ls.getD t9.toNat []).drop i).all (fin .f32) then k t ((ls.getD t9.toNat []).length : Int) else false := by
  intro μ
  generalize hl : ls.getD t9.toNat [] = l
  induction μ with
  | zero => intro t i _ h; omega
  | succ μ ih =>
    intro t i hi hm
    rw [p_impl_areFinite_l2_s, hl]
    by_cases h : i < l.length
    · rw [decide_eq_true (show (i : Int) < (l.length : Int) by omega), cond_true, Int.toNat_natCast, impl_fin]
      rw [List.drop_eq_getElem_cons h, List.all_cons, List.getD_eq_getElem?_getD, List.getElem?_eq_getElem h, Option.getD_some]
      have := ih t (i + 1) (by omega) (by omega)
      cases fin .f32 l[i]
      · rfl
      · simp only [Bool.not_true, cond_false, Bool.true_and]; exact this
    · rw [decide_eq_false (show ¬ (i : Int) < (l.length : Int) by omega), cond_false, List.drop_eq_nil_of_le (by omega), show i = l.length by omega]; rfl
theorem areFinite_go (ls : List (List Nat)) : ∀ (μ : Nat) (t : Bool) (i : Nat), ls.length - i < μ → p_impl_areFinite_l1 ls μ t (i : Int) = (ls.drop i).all (fun l => l.all (fin .f32)) := by
  intro μ
  induction μ with
  | zero => intro t i h; omega
  | succ μ ih =>
    intro t i hm
    rw [p_impl_areFinite_l1_s]
    by_cases h : i < ls.length
    · rw [decide_eq_true (show (i : Int) < (ls.length : Int) by omega), cond_true]
      have := areFinite_in ls t (i : Int) (fun t2 t15 => p_impl_areFinite_l1 ls μ t2 ((i : Int) + 1)) (Int.toNat ((((ls).getD ((i : Int) : Int).toNat []).length : Int) - (0 : Int)) + 1) t 0 (Nat.zero_le _) (by omega)
      refine Eq.trans this ?_
      rw [Int.toNat_natCast, List.drop_zero, List.drop_eq_getElem_cons h, List.all_cons, List.getD_eq_getElem?_getD, List.getElem?_eq_getElem h, Option.getD_some]
      have := ih t (i + 1) (by omega)
      cases ls[i].all (fin .f32)
      · rfl
      · simp only [cond_true, Bool.true_and]; exact this
    · rw [decide_eq_false (show ¬ (i : Int) < (ls.length : Int) by omega), cond_false, List.drop_eq_nil_of_le (by omega)]; rfl
theorem areFinite_all (ls : List (List Nat)) : p_impl_areFinite ls = ls.all (fun l => l.all (fin .f32)) := by
  rw [p_impl_areFinite_eq]
  have := areFinite_go ls (Int.toNat ((ls.length : Int) - (0 : Int)) + 1) false 0 (by omega)
  simpa using this
theorem finite_same (l : List Nat) : p_impl_areFinite [l] = p_spec_l02Finite l := by rw [areFinite_all, l02Finite_all]; simp
theorem long_same (l : List Nat) : p_impl_isLong l = p_spec_l03Long l := by
  rw [p_impl_isLong_eq, p_spec_l03Long_eq, finite_same]
  unfold p_impl_within
  cases decide ((1 : Int) ≤ (l.length : Int)) <;> cases decide (((l.length : Int) : Int) ≤ 128) <;> rfl
theorem long_t {l : List Nat} (h : p_spec_l03Long l = true) : 1 ≤ l.length ∧ l.length ≤ 128 ∧ l.all (fin .f32) = true := by
  rw [p_spec_l03Long_eq, l02Finite_all] at h
  by_cases h1 : (1 : Int) ≤ (l.length : Int)
  · rw [decide_eq_true h1, cond_true] at h
    by_cases h2 : (l.length : Int) ≤ 128
    · rw [decide_eq_true h2, cond_true] at h; exact ⟨by omega, by omega, h⟩
    · rw [decide_eq_false h2] at h; cases h
  · rw [decide_eq_false h1] at h; cases h
theorem fin_getD {l : List Nat} (h : l.all (fin .f32) = true) (i : Nat) : fin .f32 (l.getD i 0) = true := by
  rw [List.getD_eq_getElem?_getD]
  cases hx : l[i]? with
  | none => exact fin_zero _
  | some y => exact List.all_eq_true.1 h y (List.mem_of_getElem? hx)
theorem w32_zero : W32 0 := ⟨by decide, by decide +kernel⟩
theorem w32_getD {l : List Nat} (h : ∀ y ∈ l, W32 y) (i : Nat) : W32 (l.getD i 0) := by
  rw [List.getD_eq_getElem?_getD]
  cases hx : l[i]? with
  | none => exact w32_zero
  | some y => exact h y (List.mem_of_getElem? hx)
theorem sorted_same (l : List Nat) (h : ∀ y ∈ l, (FloatKind.f32.format.read y).isNaN = false) : p_slices_SortStableFunc_float32_float32 l = p_spec_l05Sorted l :=
  So.SS.unique (slices_SortStable_ss l) (l05Sorted_ss l h)
theorem median_same (l : List Nat) (h : ∀ y ∈ l, (FloatKind.f32.format.read y).isNaN = false) : p_impl_median l = p_spec_l05Median l := by
  rw [p_impl_median_eq, p_spec_l05Median_eq, impl_copyOf_is, sorted_same l h]
theorem number_same (x : Nat) : p_impl_finite x = p_spec_l02Number x := by
  unfold p_impl_finite p_spec_l02Number
  rw [impl_fin, spec_fin]
theorem size_nn {x : Nat} (h : (FloatKind.f32.format.read x).isNaN = false) : (FloatKind.f32.format.read (p_impl_size x)).isNaN = false := by
  unfold p_impl_size
  cases flt .f32 x 0
  · rw [cond_false]
    cases feq .f32 x 0
    · exact h
    · exact fin_nn (fin_zero .f32)
  · rw [cond_true, read_fneg h]
    cases hr : FloatKind.f32.format.read x <;> first | rfl | (rw [hr] at h; exact h)
theorem sorted_fin {l : List Nat} (h : l.all (fin .f32) = true) : (p_spec_l05Sorted l).all (fin .f32) = true :=
  List.all_eq_true.2 fun y hy => List.all_eq_true.1 h y (((l05Sorted_ss l fun z hz => fin_nn (List.all_eq_true.1 h z hz)).stab.mem y).1 hy)
theorem median_fin {l : List Nat} (h : l.all (fin .f32) = true) : fin .f32 (p_spec_l05Median l) = true := by
  rw [p_spec_l05Median_eq]; exact fin_getD (sorted_fin h) _
theorem MedianOf_is (l : List Nat) : p_impl_MedianOf l = (bif !(p_spec_l03Long l) then (0, false) else (p_spec_l05Median l, true)) := by
  rw [p_impl_MedianOf_eq, long_same]
  cases hL : p_spec_l03Long l with
  | false => rfl
  | true =>
    have hf := (long_t hL).2.2
    rw [median_same l fun y hy => fin_nn (List.all_eq_true.1 hf y hy)]
theorem spread_go (l : List Nat) : ∀ (μ : Nat) (i : Nat) (o : List Nat), l.length - i < μ → p_impl_SpreadOf_l1 l μ o (i : Int) = p_impl_finite (fmul .f32 1069401558 (p_impl_median (o ++ (l.drop i).map fun x => p_impl_size (fsub .f32 x (p_impl_MedianOf l).1)))) := by
  intro μ
  induction μ with
  | zero => intro i o h; omega
  | succ μ ih =>
    intro i o hm
    rw [p_impl_SpreadOf_l1_s]
    by_cases h : i < l.length
    · rw [decide_eq_true (show (i : Int) < (l.length : Int) by omega), cond_true, Int.toNat_natCast]
      have := ih (i + 1) (o ++ [p_impl_size (fsub .f32 (l.getD i 0) (p_impl_MedianOf l).1)]) (by omega)
      rw [show ((i + 1 : Nat) : Int) = (i : Int) + 1 by omega] at this
      rw [this, List.drop_eq_getElem_cons h, List.map_cons, List.getD_eq_getElem?_getD, List.getElem?_eq_getElem h, Option.getD_some, List.append_assoc]; rfl
    · rw [decide_eq_false (show ¬ (i : Int) < (l.length : Int) by omega), cond_false, List.drop_eq_nil_of_le (by omega), List.map_nil, List.append_nil]
theorem spread_same (l : List Nat) : p_impl_SpreadOf l = p_spec_SpreadOf l := by
  rw [p_impl_SpreadOf_eq, p_spec_SpreadOf_eq]
  have e := MedianOf_is l
  cases hL : p_spec_l03Long l with
  | false =>
    rw [hL] at e
    rw [e]; rfl
  | true =>
    rw [hL] at e
    have hf := (long_t hL).2.2
    have hm := median_fin hf
    have e1 : (p_impl_MedianOf l).1 = p_spec_l05Median l := by rw [e]; rfl
    have e2 : (p_impl_MedianOf l).2 = true := by rw [e]; rfl
    have := spread_go l (Int.toNat ((l.length : Int) - (0 : Int)) + 1) 0 [] (by omega)
    rw [e2, Bool.not_true, cond_false, cond_false]
    have h0 : ((0 : Nat) : Int) = 0 := rfl
    rw [h0] at this
    rw [this, e1, List.drop_zero, List.nil_append]
    have hs : (l.map fun x => p_impl_size (fsub .f32 x (p_spec_l05Median l))) = p_spec_l05Sizes l (p_spec_l05Median l) := by
      rw [l05Sizes_map]
      exact List.map_congr_left fun x _ => size_two (Wd.sub _ _ _)
    rw [hs, median_same _ ?_, number_same]
    rw [← hs]
    intro y hy
    obtain ⟨x, hx, rfl⟩ := List.mem_map.1 hy
    exact size_nn (nn_sub_fin (fin_nn (List.all_eq_true.1 hf x hx)) hm)
theorem laws_FnExactSpreadOf_true (l_aList : List Nat) (q0 : (∀ y ∈ l_aList, W32 y)) : p_laws_FnExactSpreadOf l_aList = true := by
  rw [p_laws_FnExactSpreadOf_eq, spread_same, laws_sameFloat_self, laws_eqFloat32S_self]
  cases decide ((1048576 : Int) < (l_aList.length : Int)) <;> simp
/-! laws_FnExactSpreadOf: function 12 -/
def E_laws_FnExactSpreadOf : Env := envOf [(16, S_laws_toFloat32S), (50, S_spec_SpreadOf), (51, S_impl_SpreadOf), (18, S_laws_sameFloat), (19, S_laws_eqFloat32S)]
def F_laws_FnExactSpreadOf : List Value → AHeap → (Value → AHeap → Prop) → Prop
  | [.slice aList_a aList_n aList_e], H, K => T_laws_FnExactSpreadOf aList_a aList_n aList_e H fun (r1 : Bool) (H' : AHeap) => K (.bool r1) H'
  | _, _, _ => False
def S_laws_FnExactSpreadOf : FSpec := { F := F_laws_FnExactSpreadOf, quiet := false, tame := false }
theorem laws_FnExactSpreadOf_vc (aList_a : Option Addr) (aList_n : Nat) (aList_e : Nat) (H : AHeap) (K : Value → AHeap → Prop) : bodyK Try.prog E_laws_FnExactSpreadOf Try.f12 [.slice aList_a aList_n aList_e] H K =
  (Br (decide ((1048576 : Int) < (aList_n : Int))) (K (.bool true) H) (T_laws_toFloat32S aList_a aList_n aList_e H fun (a1 : Option Addr) (r1 : Nat) (r2 : Nat) (H1 : AHeap) => T_spec_SpreadOf a1 r1 r2 H1 fun (r3 : Nat) (r4 : Bool) (H2 : AHeap) => T_laws_toFloat32S aList_a aList_n aList_e H2 fun (a2 : Option Addr) (r5 : Nat) (r6 : Nat) (H3 : AHeap) => T_impl_SpreadOf a2 r5 r6 H3 fun (r7 : Nat) (r8 : Bool) (H4 : AHeap) => T_laws_sameFloat (fwide r7) (fwide r3) H4 fun (r9 : Bool) (H5 : AHeap) => Br (!r9) (K (.bool false) H5) (Br (!(r8 == r4)) (K (.bool false) H5) (T_laws_toFloat32S aList_a aList_n aList_e H5 fun (a3 : Option Addr) (r10 : Nat) (r11 : Nat) (H6 : AHeap) => T_laws_eqFloat32S a2 r5 r6 a3 r10 r11 H6 fun (r12 : Bool) (H7 : AHeap) => Br (!r12) (K (.bool false) H7) (K (.bool true) H7))))) := by kernel_rfl
theorem E_laws_FnExactSpreadOf_ok : ∀ g, FnOk Try.prog g (E_laws_FnExactSpreadOf g) := FnOk.envOf (by
  intro x hx
  simp only [List.mem_cons, List.not_mem_nil, or_false] at hx
  rcases hx with rfl | rfl | rfl | rfl | rfl
  · exact laws_toFloat32S_ok
  · exact spec_SpreadOf_ok
  · exact impl_SpreadOf_ok
  · exact laws_sameFloat_ok
  · exact laws_eqFloat32S_ok)
set_option maxHeartbeats 1000000 in
theorem laws_FnExactSpreadOf_main (aList_a : Option Addr) (aList_n : Nat) (aList_e : Nat) (H : AHeap) (K : Value → AHeap → Prop) (h : T_laws_FnExactSpreadOf aList_a aList_n aList_e H fun (r1 : Bool) (H' : AHeap) => K (.bool r1) H') : bodyK Try.prog E_laws_FnExactSpreadOf Try.f12 [.slice aList_a aList_n aList_e] H K := by
  rw [laws_FnExactSpreadOf_vc]
  obtain ⟨l_aList, h_0, h_1, h_2, hk⟩ := h
  have i_aList := h_0
  obtain rfl := i_aList.eqn
  have hl := laws_FnExactSpreadOf_true l_aList h_1
  have e : p_laws_FnExactSpreadOf l_aList = _ := rfl
  have e := e.trans (p_laws_FnExactSpreadOf_eq l_aList)
  have e := hl.symm.trans e
  have g0 := Grow.refl H
  refine Br.intro (fun c_1 => ?_) (fun c_1 => ?_)
  · have e := e.trans (cond_t c_1)
    have c_1' := of_decide_eq_true c_1
    first | exact hk _ | (exfalso; cases e; done) | (rw [← e]; exact hk _)
  · have e := e.trans (cond_f c_1)
    have c_1' := of_decide_eq_false c_1
    refine T_laws_toFloat32S_i ⟨_, (i_aList.grow g0), (by first | omega | (simp only [List.length_set, List.length_replicate, List.length_append, List.length_cons, List.length_nil, List.length_take, List.length_drop, marks_length]; done) | (simp only [List.length_set, List.length_replicate, List.length_append, List.length_cons, List.length_nil, List.length_take, List.length_drop, marks_length]; omega)), fun a_2 n_3 e_4 H_1 g_6 r_5 => ?_⟩
    have l_7 := g_6.1
    have g_8 := g0.trans g_6
    have l_9 := g_8.1
    obtain rfl := r_5.isL.eqn
    have u_10 := r_5.up
    have u_11 := r_5.lo
    refine T_spec_SpreadOf_i ⟨_, r_5.isL, (by first | omega | (simp only [List.length_set, List.length_replicate, List.length_append, List.length_cons, List.length_nil, List.length_take, List.length_drop, marks_length]; done) | (simp only [List.length_set, List.length_replicate, List.length_append, List.length_cons, List.length_nil, List.length_take, List.length_drop, marks_length]; omega)), fun  H_2 g_13  => ?_⟩
    have l_14 := g_13.1
    have g_15 := g_8.trans g_13
    have l_16 := g_15.1
    have r_17 := r_5.grow g_13
    refine T_laws_toFloat32S_i ⟨_, (i_aList.grow g_15), (by first | omega | (simp only [List.length_set, List.length_replicate, List.length_append, List.length_cons, List.length_nil, List.length_take, List.length_drop, marks_length]; done) | (simp only [List.length_set, List.length_replicate, List.length_append, List.length_cons, List.length_nil, List.length_take, List.length_drop, marks_length]; omega)), fun a_18 n_19 e_20 H_3 g_22 r_21 => ?_⟩
    have l_23 := g_22.1
    have g_24 := g_15.trans g_22
    have l_25 := g_24.1
    have r_26 := r_17.grow g_22
    obtain rfl := r_21.isL.eqn
    have u_27 := r_21.up
    have u_28 := r_21.lo
    refine T_impl_SpreadOf_i ⟨_, r_21.isL, (by first | omega | (simp only [List.length_set, List.length_replicate, List.length_append, List.length_cons, List.length_nil, List.length_take, List.length_drop, marks_length]; done) | (simp only [List.length_set, List.length_replicate, List.length_append, List.length_cons, List.length_nil, List.length_take, List.length_drop, marks_length]; omega)), fun  H_4 g_30  => ?_⟩
    have l_31 := g_30.1
    have g_32 := g_24.trans g_30
    have l_33 := g_32.1
    have r_34 := r_26.grow g_30
    have r_35 := r_21.grow g_30
    refine T_laws_sameFloat_i ?_
    refine Br.intro (fun c_36 => ?_) (fun c_36 => ?_)
    · have e := e.trans (cond_t c_36)
      have c_36n := nf_of_t c_36
      first | exact hk _ | (exfalso; cases e; done) | (rw [← e]; exact hk _)
    · have e := e.trans (cond_f c_36)
      have c_36n := nt_of_f c_36
      refine Br.intro (fun c_37 => ?_) (fun c_37 => ?_)
      · have e := e.trans (cond_t c_37)
        have c_37n := nf_of_t c_37
        first | exact hk _ | (exfalso; cases e; done) | (rw [← e]; exact hk _)
      · have e := e.trans (cond_f c_37)
        have c_37n := nt_of_f c_37
        refine T_laws_toFloat32S_i ⟨_, (i_aList.grow g_32), (by first | omega | (simp only [List.length_set, List.length_replicate, List.length_append, List.length_cons, List.length_nil, List.length_take, List.length_drop, marks_length]; done) | (simp only [List.length_set, List.length_replicate, List.length_append, List.length_cons, List.length_nil, List.length_take, List.length_drop, marks_length]; omega)), fun a_38 n_39 e_40 H_5 g_42 r_41 => ?_⟩
        have l_43 := g_42.1
        have g_44 := g_32.trans g_42
        have l_45 := g_44.1
        have r_46 := r_34.grow g_42
        have r_47 := r_35.grow g_42
        obtain rfl := r_41.isL.eqn
        have u_48 := r_41.up
        have u_49 := r_41.lo
        refine T_laws_eqFloat32S_i ⟨_, _, r_47.isL, r_41.isL, (by first | omega | (simp only [List.length_set, List.length_replicate, List.length_append, List.length_cons, List.length_nil, List.length_take, List.length_drop, marks_length]; done) | (simp only [List.length_set, List.length_replicate, List.length_append, List.length_cons, List.length_nil, List.length_take, List.length_drop, marks_length]; omega)), (by first | omega | (simp only [List.length_set, List.length_replicate, List.length_append, List.length_cons, List.length_nil, List.length_take, List.length_drop, marks_length]; done) | (simp only [List.length_set, List.length_replicate, List.length_append, List.length_cons, List.length_nil, List.length_take, List.length_drop, marks_length]; omega)), ?_⟩
        refine Br.intro (fun c_51 => ?_) (fun c_51 => ?_)
        · have e := e.trans (cond_t c_51)
          have c_51n := nf_of_t c_51
          first | exact hk _ | (exfalso; cases e; done) | (rw [← e]; exact hk _)
        · have e := e.trans (cond_f c_51)
          have c_51n := nt_of_f c_51
          first | exact hk _ | (exfalso; cases e; done) | (rw [← e]; exact hk _)
theorem laws_FnExactSpreadOf_ok : FnOk Try.prog 12 S_laws_FnExactSpreadOf := by
  refine FnOk.body mix_ok E_laws_FnExactSpreadOf_ok Try.func12 rfl (by kernel_rfl) (by kernel_rfl) ?_ ?_ ?_ ?_ ?_
  · intro args H K K' h hk
    simp only [S_laws_FnExactSpreadOf] at *
    unfold F_laws_FnExactSpreadOf at *
    split at hk
    · obtain ⟨l_aList, h_0, h_1, h_2, k⟩ := hk
      exact ⟨l_aList, h_0, h_1, h_2, (fun H' => h _ _ (k H'))⟩
    · exact hk.elim
  · intro hq; cases hq
  · intro args H K hk
    simp only [S_laws_FnExactSpreadOf] at *
    unfold F_laws_FnExactSpreadOf at *
    split at hk
    · obtain ⟨l_aList, h_0, h_1, h_2, k⟩ := hk
      exact ⟨_, _, k []⟩
    · exact hk.elim
  · intro hq; cases hq
  · have mm := @laws_FnExactSpreadOf_main
    revert mm
    generalize bodyK Try.prog E_laws_FnExactSpreadOf Try.f12 = Q
    intro mm args H K hk
    simp only [S_laws_FnExactSpreadOf] at *
    unfold F_laws_FnExactSpreadOf at *
    split at hk
    · exact mm _ _ _ H K hk
    · exact hk.elim
end Go.Proofs.Ytghkkclonabpkaa.Ai
