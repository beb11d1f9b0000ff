/- Functions of the library that have no Go text: what the model's rows for them do. -/
import Derived.Test.YtbnplefohfamnaaFFnExactDenoiseLibB
import Derived.Test.YtbnplefohfamnaaFFnExactDenoiseFl
import Derived.Laws.Externs
set_option linter.unusedVariables false
namespace Go.Proofs.Ytbnplefohfamnaa.Ai
open Go Go.RowKit

theorem FnOk.ext {P : Program} {g : Nat} {S : FSpec} (ht : S.tame = false)
  (mono : ∀ (args : List Value) (H : AHeap) (K K' : Value → AHeap → Prop), (∀ v H', K v H' → K' v H') → S.F args H K → S.F args H K')
  (quiet : S.quiet = true → ∀ (args : List Value) (H : AHeap) (K : Value → AHeap → Prop), S.F args H K → ∃ v, K v H ∧ ∀ K' : Value → AHeap → Prop, K' v H → S.F args H K')
  (live : ∀ (args : List Value) (H : AHeap) (K : Value → AHeap → Prop), S.F args H K → ∃ v H', K v H')
  (hs : ∀ (ρ : Ren) (w : World) (args args' : List Value) (H : AHeap) (K : Value → AHeap → Prop), VRs ρ args args' → S.F args H K →
   ∃ v v' w', (callFunc g args'.toArray).run P w = .ok (.value v') w' ∧ Drew w w' ∧ VR ρ v v' ∧ K v H) : FnOk P g S := by
 refine ⟨mono, quiet, live, (fun h => by rw [ht] at h; cases h), ?_⟩
 intro B0 ρ H w args args' K hr ha hk o a next Q hn
 obtain ⟨v, v', w', h1, h2, h3, h4⟩ := hs ρ w args args' H K ha hk
 rw [h1, Oper.upon_value]
 exact hn v H h4 ρ w' v' (List.prefix_refl _) (hr.drew h2) h3 (h2.below B0)

theorem FnOk.ext1 {P : Program} {g : Nat} {S : FSpec} {fn : Func} {e : Array Value → Sem Value} {f : Nat → Nat} (ht : S.tame = false)
  (hF : ∀ (args : List Value) (H : AHeap) (K : Value → AHeap → Prop), S.F args H K → ∃ x, args = [.float .f64 x] ∧ K (.float .f64 (f x)) H)
  (hB : ∀ (x : Nat) (H : AHeap) (K : Value → AHeap → Prop), K (.float .f64 (f x)) H → S.F [.float .f64 x] H K)
  (hf : P.funcs[g]? = some fn) (hname : (fn.name == "runtime.NumGoroutine") = false) (hb : fn.body.isNone = true) (hn : Extern.findNext fn = Option.none) (he : Extern.find fn = some e)
  (hr : ∀ (b : Nat) (w : World), ∃ r w', (e #[.float .f64 b]).run P w = .ok (.float .f64 r) w' ∧ f (cn .f64 b) = cn .f64 r ∧ Drew w w') : FnOk P g S := by
 refine .ext ht ?_ ?_ ?_ ?_
 ·intro args H K K' h hk
  obtain ⟨x, rfl, k⟩ := hF _ _ _ hk
  exact hB _ _ _ (h _ _ k)
 ·intro _ args H K hk
  obtain ⟨x, rfl, k⟩ := hF _ _ _ hk
  exact ⟨_, k, fun K' k' => hB _ _ _ k'⟩
 ·intro args H K hk
  obtain ⟨x, rfl, k⟩ := hF _ _ _ hk
  exact ⟨_, _, k⟩
 ·intro ρ w args args' H K ha hk
  obtain ⟨x, rfl, k⟩ := hF _ _ _ hk
  obtain ⟨y, ys, rfl, h3, h4⟩ := ha.uncons
  obtain rfl := h4.unnil
  cases h3 with
  | float k0 a b hab =>
   obtain ⟨r, w', h1, h2, h3⟩ := hr b w
   refine ⟨_, .float .f64 r, w', ?_, h3, .float .f64 _ r (by rw [← h2, hab]), k⟩
   have := run_callFunc_extern hf hname hb hn he #[.float .f64 b] w
   rw [this, h1]; rfl

theorem root_not_nan {n : Nat} {d r : Ieee.Datum} (h : Ieee.Datum.root n d = some r) : r.isNaN = false := by
 cases d with
 | nan s t => cases h
 | infinity s =>
  simp only [Ieee.Datum.root] at h
  split at h
  ·cases h
  ·cases h; rfl
 | number s m i =>
  simp only [Ieee.Datum.root] at h
  split at h
  ·cases h; rfl
  ·split at h
   ·cases h
   ·cases h; rfl
theorem sqrt_some {k : FloatKind} {x r : Nat} (h : k.format.sqrt x = some r) : cn k r = r := by
 unfold Ieee.Format.sqrt at h
 cases hd : Ieee.Datum.root (k.format.fractionBits + 2) (k.format.read x) with
 | none => rw [hd] at h; cases h
 | some d => rw [hd] at h; cases h; exact cn_encode k (root_not_nan hd)
theorem sqrt_cn (k : FloatKind) (x : Nat) : k.format.sqrt (cn k x) = k.format.sqrt x := by
 cases h : (k.decode x).isNaN
 ·rw [cn_of_not_nan h]
 ·obtain ⟨s, t, e1⟩ := isNaN_spec _ h
  obtain ⟨s', t', e2⟩ := isNaN_spec (k.decode (cn k x)) (by rw [← h]; exact nan_cn k x)
  have e1 : k.format.read x = .nan s t := e1
  have e2 : k.format.read (cn k x) = .nan s' t' := e2
  unfold Ieee.Format.sqrt
  rw [e1, e2]; rfl
theorem ext_sqrt {P : Program} (b : Nat) (w : World) : ∃ r w', (Extern.MathSqrt.sqrt #[.float .f64 b]).run P w = .ok (.float .f64 r) w' ∧ fsqrt .f64 (cn .f64 b) = cn .f64 r ∧ Drew w w' := by
 obtain ⟨r, w', h1, h2, h3⟩ := run_nan (P := P) .f64 b b (FloatKind.f64.format.sqrt b) (fun r h => sqrt_some h) w
 exact ⟨r, w', h1, by unfold fsqrt; rw [sqrt_cn, h2], h3⟩

def fint (way : Ieee.Toward) (x : Nat) : Nat := if (FloatKind.f64.format.read x).isNaN then qnan .f64 else FloatKind.f64.encode ((FloatKind.f64.format.read x).integral way)
theorem FnOk.never {P : Program} {g : Nat} {S : FSpec} (h : ∀ args H K, ¬ S.F args H K) : FnOk P g S :=
 ⟨fun _ _ _ _ _ k => (h _ _ _ k).elim, fun _ _ _ _ k => (h _ _ _ k).elim, fun _ _ _ k => (h _ _ _ k).elim, fun _ _ _ _ k => (h _ _ _ k).elim, fun _ _ _ _ _ _ _ _ _ k => (h _ _ _ k).elim⟩
theorem FnOk.union {P : Program} {g : Nat} {S : FSpec} (hq : S.quiet = false) (ht : S.tame = false) (h : ∀ args H K, S.F args H K → ∃ S' : FSpec, FnOk P g S' ∧ ∀ K', S.F args H K' ↔ S'.F args H K') : FnOk P g S where
 mono args H K K' hk k := let ⟨_, ok, e⟩ := h args H K k; (e K').2 (ok.mono args H K K' hk ((e K).1 k))
 quiet q := by rw [hq] at q; cases q
 live args H K k := let ⟨_, ok, e⟩ := h args H K k; ok.live args H K ((e K).1 k)
 tame q := by rw [ht] at q; cases q
 sound B0 ρ H w args args' K hr hv k := let ⟨_, ok, e⟩ := h args H K k; ok.sound B0 ρ H w args args' K hr hv ((e K).1 k)
end Go.Proofs.Ytbnplefohfamnaa.Ai
