/-
  No cell of these rows narrows 'for every input' (looked for: loops, veiled, ifaces, maps, wideKeys, modest, calm, conditions, laid).
  DERIVED. THE GIVEN ROWS OF THIS SEAT. 12 by the template 'for every input the law returns true; each argument reads behind the call as it read before'; 0 by the template 'total and deterministic' (their statements: YtghkkclonabpkaaTotals.lean).
  GIVEN WITH THE SEED: the statements are not yours to turn. If you find one false, say at which input.
  Laid BY PROGRAM, IN A SANDBOX (cutbox-rows.mjs): the forced cells as the released guide's own fill.sh prints them over the translation 7a97bec51a50d144… (all of the seat's roots in one cut). By AI agents, Wed Nov 11 2026. No macro, syntax, notation, axiom, sorry.
-/
import Derived.Test.YtghkkclonabpkaaChecked
import GoSem.Claim
import GoSem.ClaimJoined
import GoSem.ClaimMapViews
import Derived.JoinedTies
import Derived.KernelRfl
namespace Go.Proofs.Ytghkkclonabpkaa
/- THE CELL 'sum', in the pinned program and in every row, IS THE sha256 OF THE DUMP (.gsa) THAT YtghkkclonabpkaaProg.lean LOADS. Nothing in Lean hashes anything: it is a label: what it is worth is what the hold of that sum in a sandbox is worth. -/
noncomputable def Try.pinned : Pinned := { name := "ytghkkclonabpkaa", sum := "7a97bec51a50d144bb32fe22896761f073b9672169667e6fc2110d2213e54add", checked := Try.checked }
namespace Rows
def none {H : Type} : Left H := { results := [], args := [] }

/-- 'laws.FnExactKernelMean': WHATEVER THE INPUT: true; the input reads as it did. -/
def fnExactKernelMeanSpec : ChangeSpec := { name := "fnExactKernelMean", fn := fun _ => fun
  | [d1, d2, d3, d4] => { results := [.lit (.bool true)], args := [d1, d2, d3, d4] }
  | _ => none }
def fnExactKernelMeanRow : OpenClaim := { program := "ytghkkclonabpkaa", sum := "7a97bec51a50d144bb32fe22896761f073b9672169667e6fc2110d2213e54add", func := "loop.example/g01317/laws.FnExactKernelMean", spec := "fnExactKernelMean", inPlace := ["math.Float64frombits"], apart := false }
def FnExactKernelMeanSaid : Prop := fnExactKernelMeanRow.holds Try.pinned (OpenSpec.ofChange fnExactKernelMeanSpec)

/-- ITS FALSE NEIGHBOUR: 'it returns false'. Refute it at one input. -/
def fnExactKernelMeanWrong : ChangeSpec := { name := "fnExactKernelMean", fn := fun _ => fun
  | [d1, d2, d3, d4] => { results := [.lit (.bool false)], args := [d1, d2, d3, d4] }
  | _ => none }
def FnExactKernelMeanWrongFalsely : Prop := fnExactKernelMeanRow.holds Try.pinned (OpenSpec.ofChange fnExactKernelMeanWrong)

/-- 'laws.FnExactWithoutSeason': WHATEVER THE INPUT: true; the input reads as it did. -/
def fnExactWithoutSeasonSpec : ChangeSpec := { name := "fnExactWithoutSeason", fn := fun _ => fun
  | [d1, d2] => { results := [.lit (.bool true)], args := [d1, d2] }
  | _ => none }
def fnExactWithoutSeasonRow : OpenClaim := { program := "ytghkkclonabpkaa", sum := "7a97bec51a50d144bb32fe22896761f073b9672169667e6fc2110d2213e54add", func := "loop.example/g01317/laws.FnExactWithoutSeason", spec := "fnExactWithoutSeason", apart := false }
def FnExactWithoutSeasonSaid : Prop := fnExactWithoutSeasonRow.holds Try.pinned (OpenSpec.ofChange fnExactWithoutSeasonSpec)

/-- ITS FALSE NEIGHBOUR: 'it returns false'. Refute it at one input. -/
def fnExactWithoutSeasonWrong : ChangeSpec := { name := "fnExactWithoutSeason", fn := fun _ => fun
  | [d1, d2] => { results := [.lit (.bool false)], args := [d1, d2] }
  | _ => none }
def FnExactWithoutSeasonWrongFalsely : Prop := fnExactWithoutSeasonRow.holds Try.pinned (OpenSpec.ofChange fnExactWithoutSeasonWrong)

/-- 'laws.FnExactSegmentMeans': WHATEVER THE INPUT: true; the input reads as it did. -/
def fnExactSegmentMeansSpec : ChangeSpec := { name := "fnExactSegmentMeans", fn := fun _ => fun
  | [d1, d2] => { results := [.lit (.bool true)], args := [d1, d2] }
  | _ => none }
def fnExactSegmentMeansRow : OpenClaim := { program := "ytghkkclonabpkaa", sum := "7a97bec51a50d144bb32fe22896761f073b9672169667e6fc2110d2213e54add", func := "loop.example/g01317/laws.FnExactSegmentMeans", spec := "fnExactSegmentMeans", apart := false }
def FnExactSegmentMeansSaid : Prop := fnExactSegmentMeansRow.holds Try.pinned (OpenSpec.ofChange fnExactSegmentMeansSpec)

/-- ITS FALSE NEIGHBOUR: 'it returns false'. Refute it at one input. -/
def fnExactSegmentMeansWrong : ChangeSpec := { name := "fnExactSegmentMeans", fn := fun _ => fun
  | [d1, d2] => { results := [.lit (.bool false)], args := [d1, d2] }
  | _ => none }
def FnExactSegmentMeansWrongFalsely : Prop := fnExactSegmentMeansRow.holds Try.pinned (OpenSpec.ofChange fnExactSegmentMeansWrong)

/-- 'laws.FnExactBlockShrink': WHATEVER THE INPUT: true; the input reads as it did. -/
def fnExactBlockShrinkSpec : ChangeSpec := { name := "fnExactBlockShrink", fn := fun _ => fun
  | [d1, d2, d3] => { results := [.lit (.bool true)], args := [d1, d2, d3] }
  | _ => none }
def fnExactBlockShrinkRow : OpenClaim := { program := "ytghkkclonabpkaa", sum := "7a97bec51a50d144bb32fe22896761f073b9672169667e6fc2110d2213e54add", func := "loop.example/g01317/laws.FnExactBlockShrink", spec := "fnExactBlockShrink", unfollowed := true, recurses := true, apart := false }
def FnExactBlockShrinkSaid : Prop := fnExactBlockShrinkRow.holds Try.pinned (OpenSpec.ofChange fnExactBlockShrinkSpec)

/-- ITS FALSE NEIGHBOUR: 'it returns false'. Refute it at one input. -/
def fnExactBlockShrinkWrong : ChangeSpec := { name := "fnExactBlockShrink", fn := fun _ => fun
  | [d1, d2, d3] => { results := [.lit (.bool false)], args := [d1, d2, d3] }
  | _ => none }
def FnExactBlockShrinkWrongFalsely : Prop := fnExactBlockShrinkRow.holds Try.pinned (OpenSpec.ofChange fnExactBlockShrinkWrong)

/-- 'laws.FnExactPlainLimit': WHATEVER THE INPUT: true; the input reads as it did. -/
def fnExactPlainLimitSpec : ChangeSpec := { name := "fnExactPlainLimit", fn := fun _ => fun
  | [d1, d2] => { results := [.lit (.bool true)], args := [d1, d2] }
  | _ => none }
def fnExactPlainLimitRow : OpenClaim := { program := "ytghkkclonabpkaa", sum := "7a97bec51a50d144bb32fe22896761f073b9672169667e6fc2110d2213e54add", func := "loop.example/g01317/laws.FnExactPlainLimit", spec := "fnExactPlainLimit", inPlace := ["math.Float64frombits", "math.Float64bits", "math.sqrt"], apart := false }
def FnExactPlainLimitSaid : Prop := fnExactPlainLimitRow.holds Try.pinned (OpenSpec.ofChange fnExactPlainLimitSpec)

/-- ITS FALSE NEIGHBOUR: 'it returns false'. Refute it at one input. -/
def fnExactPlainLimitWrong : ChangeSpec := { name := "fnExactPlainLimit", fn := fun _ => fun
  | [d1, d2] => { results := [.lit (.bool false)], args := [d1, d2] }
  | _ => none }
def FnExactPlainLimitWrongFalsely : Prop := fnExactPlainLimitRow.holds Try.pinned (OpenSpec.ofChange fnExactPlainLimitWrong)

/-- 'laws.FnExactClearnessOf': WHATEVER THE INPUT: true; the input reads as it did. -/
def fnExactClearnessOfSpec : ChangeSpec := { name := "fnExactClearnessOf", fn := fun _ => fun
  | [d1, d2] => { results := [.lit (.bool true)], args := [d1, d2] }
  | _ => none }
def fnExactClearnessOfRow : OpenClaim := { program := "ytghkkclonabpkaa", sum := "7a97bec51a50d144bb32fe22896761f073b9672169667e6fc2110d2213e54add", func := "loop.example/g01317/laws.FnExactClearnessOf", spec := "fnExactClearnessOf", inPlace := ["math.Float64frombits", "math.Float64bits"], apart := false }
def FnExactClearnessOfSaid : Prop := fnExactClearnessOfRow.holds Try.pinned (OpenSpec.ofChange fnExactClearnessOfSpec)

/-- ITS FALSE NEIGHBOUR: 'it returns false'. Refute it at one input. -/
def fnExactClearnessOfWrong : ChangeSpec := { name := "fnExactClearnessOf", fn := fun _ => fun
  | [d1, d2] => { results := [.lit (.bool false)], args := [d1, d2] }
  | _ => none }
def FnExactClearnessOfWrongFalsely : Prop := fnExactClearnessOfRow.holds Try.pinned (OpenSpec.ofChange fnExactClearnessOfWrong)

/-- 'laws.FnExactMedianOf': WHATEVER THE INPUT: true; the input reads as it did. -/
def fnExactMedianOfSpec : ChangeSpec := { name := "fnExactMedianOf", fn := fun _ => fun
  | [d] => { results := [.lit (.bool true)], args := [d] }
  | _ => none }
def fnExactMedianOfRow : OpenClaim := { program := "ytghkkclonabpkaa", sum := "7a97bec51a50d144bb32fe22896761f073b9672169667e6fc2110d2213e54add", func := "loop.example/g01317/laws.FnExactMedianOf", spec := "fnExactMedianOf", unfollowed := true, recurses := true, apart := false }
def FnExactMedianOfSaid : Prop := fnExactMedianOfRow.holds Try.pinned (OpenSpec.ofChange fnExactMedianOfSpec)

/-- ITS FALSE NEIGHBOUR: 'it returns false'. Refute it at one input. -/
def fnExactMedianOfWrong : ChangeSpec := { name := "fnExactMedianOf", fn := fun _ => fun
  | [d] => { results := [.lit (.bool false)], args := [d] }
  | _ => none }
def FnExactMedianOfWrongFalsely : Prop := fnExactMedianOfRow.holds Try.pinned (OpenSpec.ofChange fnExactMedianOfWrong)

/-- 'laws.FnExactEnergiesIn': WHATEVER THE INPUT: true; the input reads as it did. -/
def fnExactEnergiesInSpec : ChangeSpec := { name := "fnExactEnergiesIn", fn := fun _ => fun
  | [d1, d2] => { results := [.lit (.bool true)], args := [d1, d2] }
  | _ => none }
def fnExactEnergiesInRow : OpenClaim := { program := "ytghkkclonabpkaa", sum := "7a97bec51a50d144bb32fe22896761f073b9672169667e6fc2110d2213e54add", func := "loop.example/g01317/laws.FnExactEnergiesIn", spec := "fnExactEnergiesIn", unfollowed := true, recurses := true, apart := false }
def FnExactEnergiesInSaid : Prop := fnExactEnergiesInRow.holds Try.pinned (OpenSpec.ofChange fnExactEnergiesInSpec)

/-- ITS FALSE NEIGHBOUR: 'it returns false'. Refute it at one input. -/
def fnExactEnergiesInWrong : ChangeSpec := { name := "fnExactEnergiesIn", fn := fun _ => fun
  | [d1, d2] => { results := [.lit (.bool false)], args := [d1, d2] }
  | _ => none }
def FnExactEnergiesInWrongFalsely : Prop := fnExactEnergiesInRow.holds Try.pinned (OpenSpec.ofChange fnExactEnergiesInWrong)

/-- 'laws.FnExactShrinkBands': WHATEVER THE INPUT: true; the input reads as it did. -/
def fnExactShrinkBandsSpec : ChangeSpec := { name := "fnExactShrinkBands", fn := fun _ => fun
  | [d1, d2, d3] => { results := [.lit (.bool true)], args := [d1, d2, d3] }
  | _ => none }
def fnExactShrinkBandsRow : OpenClaim := { program := "ytghkkclonabpkaa", sum := "7a97bec51a50d144bb32fe22896761f073b9672169667e6fc2110d2213e54add", func := "loop.example/g01317/laws.FnExactShrinkBands", spec := "fnExactShrinkBands", apart := false }
def FnExactShrinkBandsSaid : Prop := fnExactShrinkBandsRow.holds Try.pinned (OpenSpec.ofChange fnExactShrinkBandsSpec)

/-- ITS FALSE NEIGHBOUR: 'it returns false'. Refute it at one input. -/
def fnExactShrinkBandsWrong : ChangeSpec := { name := "fnExactShrinkBands", fn := fun _ => fun
  | [d1, d2, d3] => { results := [.lit (.bool false)], args := [d1, d2, d3] }
  | _ => none }
def FnExactShrinkBandsWrongFalsely : Prop := fnExactShrinkBandsRow.holds Try.pinned (OpenSpec.ofChange fnExactShrinkBandsWrong)

/-- 'laws.FnExactSpreadOf': WHATEVER THE INPUT: true; the input reads as it did. -/
def fnExactSpreadOfSpec : ChangeSpec := { name := "fnExactSpreadOf", fn := fun _ => fun
  | [d] => { results := [.lit (.bool true)], args := [d] }
  | _ => none }
def fnExactSpreadOfRow : OpenClaim := { program := "ytghkkclonabpkaa", sum := "7a97bec51a50d144bb32fe22896761f073b9672169667e6fc2110d2213e54add", func := "loop.example/g01317/laws.FnExactSpreadOf", spec := "fnExactSpreadOf", unfollowed := true, recurses := true, apart := false }
def FnExactSpreadOfSaid : Prop := fnExactSpreadOfRow.holds Try.pinned (OpenSpec.ofChange fnExactSpreadOfSpec)

/-- ITS FALSE NEIGHBOUR: 'it returns false'. Refute it at one input. -/
def fnExactSpreadOfWrong : ChangeSpec := { name := "fnExactSpreadOf", fn := fun _ => fun
  | [d] => { results := [.lit (.bool false)], args := [d] }
  | _ => none }
def FnExactSpreadOfWrongFalsely : Prop := fnExactSpreadOfRow.holds Try.pinned (OpenSpec.ofChange fnExactSpreadOfWrong)

/-- 'laws.FnExactPeakRatio': WHATEVER THE INPUT: true; the input reads as it did. -/
def fnExactPeakRatioSpec : ChangeSpec := { name := "fnExactPeakRatio", fn := fun _ => fun
  | [d1, d2, d3] => { results := [.lit (.bool true)], args := [d1, d2, d3] }
  | _ => none }
def fnExactPeakRatioRow : OpenClaim := { program := "ytghkkclonabpkaa", sum := "7a97bec51a50d144bb32fe22896761f073b9672169667e6fc2110d2213e54add", func := "loop.example/g01317/laws.FnExactPeakRatio", spec := "fnExactPeakRatio", inPlace := ["math.sqrt", "math.Float64frombits", "math.Float64bits"], apart := false }
def FnExactPeakRatioSaid : Prop := fnExactPeakRatioRow.holds Try.pinned (OpenSpec.ofChange fnExactPeakRatioSpec)

/-- ITS FALSE NEIGHBOUR: 'it returns false'. Refute it at one input. -/
def fnExactPeakRatioWrong : ChangeSpec := { name := "fnExactPeakRatio", fn := fun _ => fun
  | [d1, d2, d3] => { results := [.lit (.bool false)], args := [d1, d2, d3] }
  | _ => none }
def FnExactPeakRatioWrongFalsely : Prop := fnExactPeakRatioRow.holds Try.pinned (OpenSpec.ofChange fnExactPeakRatioWrong)

/-- 'laws.FnExactNoiseOf': WHATEVER THE INPUT: true; the input reads as it did. -/
def fnExactNoiseOfSpec : ChangeSpec := { name := "fnExactNoiseOf", fn := fun _ => fun
  | [d] => { results := [.lit (.bool true)], args := [d] }
  | _ => none }
def fnExactNoiseOfRow : OpenClaim := { program := "ytghkkclonabpkaa", sum := "7a97bec51a50d144bb32fe22896761f073b9672169667e6fc2110d2213e54add", func := "loop.example/g01317/laws.FnExactNoiseOf", spec := "fnExactNoiseOf", unfollowed := true, recurses := true, apart := false }
def FnExactNoiseOfSaid : Prop := fnExactNoiseOfRow.holds Try.pinned (OpenSpec.ofChange fnExactNoiseOfSpec)

/-- ITS FALSE NEIGHBOUR: 'it returns false'. Refute it at one input. -/
def fnExactNoiseOfWrong : ChangeSpec := { name := "fnExactNoiseOf", fn := fun _ => fun
  | [d] => { results := [.lit (.bool false)], args := [d] }
  | _ => none }
def FnExactNoiseOfWrongFalsely : Prop := fnExactNoiseOfRow.holds Try.pinned (OpenSpec.ofChange fnExactNoiseOfWrong)

/- THE SECOND FORM. 'bulk': how many values and letters a reading holds, each counted each time it is reached (what is shared counts as often as it is met; a slice's spare places count too). A statement '..UptoSaid' is the law's where the arguments, and the package variables that the reading takes, are together of bulk at most 1048576: NARROWER than '..Said'. Prove '..Said' where nothing that the law and all that it calls make is longer than what came in: it says more and counts as full. Else prove '..UptoSaid'. A law counts once. -/
mutual
def uptoBulk {H : Type} : DataW H → Nat
  | .lit (.string bytes) => bytes.length + 1
  | .lit _ => 1
  | .nil => 1
  | .ptr d => uptoBulk d + 1
  | .slice elems spare => uptoBulkAll elems + uptoBulkAll spare + 1
  | .agg parts => uptoBulkAll parts + 1
  | .iface _ d => uptoBulk d + 1
  | .map entries => uptoBulkEntries entries + 1
  | .held _ => 1
def uptoBulkAll {H : Type} : List (DataW H) → Nat
  | [] => 0
  | d :: r => uptoBulk d + uptoBulkAll r
def uptoBulkEntries {H : Type} : List (Lit × DataW H) → Nat
  | [] => 0
  | x :: r => uptoBulkEntry x + uptoBulkEntries r
def uptoBulkEntry {H : Type} : Lit × DataW H → Nat
  | (.string bytes, d) => bytes.length + uptoBulk d + 1
  | (_, d) => uptoBulk d + 1
 end
def uptoSmall : (H : Type) → List (DataW H) → Bool := fun _ ds => decide (uptoBulkAll ds ≤ 1048576)
def OpenSpec.upto (s : _root_.Go.ChangeSpec) : _root_.Go.OpenSpec := { _root_.Go.OpenSpec.ofChange s with cond := some uptoSmall }

/-- 'laws.FnExactKernelMean', WHERE WHAT IT READS IS OF BULK AT MOST 1048576: true; the input reads as it did. -/
def fnExactKernelMeanUptoRow : OpenClaim := { program := "ytghkkclonabpkaa", sum := "7a97bec51a50d144bb32fe22896761f073b9672169667e6fc2110d2213e54add", func := "loop.example/g01317/laws.FnExactKernelMean", spec := "fnExactKernelMean", inPlace := ["math.Float64frombits"], apart := false, narrowed := true }
def FnExactKernelMeanUptoSaid : Prop := fnExactKernelMeanUptoRow.holds Try.pinned (OpenSpec.upto fnExactKernelMeanSpec)

/-- 'laws.FnExactWithoutSeason', WHERE WHAT IT READS IS OF BULK AT MOST 1048576: true; the input reads as it did. -/
def fnExactWithoutSeasonUptoRow : OpenClaim := { program := "ytghkkclonabpkaa", sum := "7a97bec51a50d144bb32fe22896761f073b9672169667e6fc2110d2213e54add", func := "loop.example/g01317/laws.FnExactWithoutSeason", spec := "fnExactWithoutSeason", apart := false, narrowed := true }
def FnExactWithoutSeasonUptoSaid : Prop := fnExactWithoutSeasonUptoRow.holds Try.pinned (OpenSpec.upto fnExactWithoutSeasonSpec)

/-- 'laws.FnExactSegmentMeans', WHERE WHAT IT READS IS OF BULK AT MOST 1048576: true; the input reads as it did. -/
def fnExactSegmentMeansUptoRow : OpenClaim := { program := "ytghkkclonabpkaa", sum := "7a97bec51a50d144bb32fe22896761f073b9672169667e6fc2110d2213e54add", func := "loop.example/g01317/laws.FnExactSegmentMeans", spec := "fnExactSegmentMeans", apart := false, narrowed := true }
def FnExactSegmentMeansUptoSaid : Prop := fnExactSegmentMeansUptoRow.holds Try.pinned (OpenSpec.upto fnExactSegmentMeansSpec)

/-- 'laws.FnExactBlockShrink', WHERE WHAT IT READS IS OF BULK AT MOST 1048576: true; the input reads as it did. -/
def fnExactBlockShrinkUptoRow : OpenClaim := { program := "ytghkkclonabpkaa", sum := "7a97bec51a50d144bb32fe22896761f073b9672169667e6fc2110d2213e54add", func := "loop.example/g01317/laws.FnExactBlockShrink", spec := "fnExactBlockShrink", unfollowed := true, recurses := true, apart := false, narrowed := true }
def FnExactBlockShrinkUptoSaid : Prop := fnExactBlockShrinkUptoRow.holds Try.pinned (OpenSpec.upto fnExactBlockShrinkSpec)

/-- 'laws.FnExactPlainLimit', WHERE WHAT IT READS IS OF BULK AT MOST 1048576: true; the input reads as it did. -/
def fnExactPlainLimitUptoRow : OpenClaim := { program := "ytghkkclonabpkaa", sum := "7a97bec51a50d144bb32fe22896761f073b9672169667e6fc2110d2213e54add", func := "loop.example/g01317/laws.FnExactPlainLimit", spec := "fnExactPlainLimit", inPlace := ["math.Float64frombits", "math.Float64bits", "math.sqrt"], apart := false, narrowed := true }
def FnExactPlainLimitUptoSaid : Prop := fnExactPlainLimitUptoRow.holds Try.pinned (OpenSpec.upto fnExactPlainLimitSpec)

/-- 'laws.FnExactClearnessOf', WHERE WHAT IT READS IS OF BULK AT MOST 1048576: true; the input reads as it did. -/
def fnExactClearnessOfUptoRow : OpenClaim := { program := "ytghkkclonabpkaa", sum := "7a97bec51a50d144bb32fe22896761f073b9672169667e6fc2110d2213e54add", func := "loop.example/g01317/laws.FnExactClearnessOf", spec := "fnExactClearnessOf", inPlace := ["math.Float64frombits", "math.Float64bits"], apart := false, narrowed := true }
def FnExactClearnessOfUptoSaid : Prop := fnExactClearnessOfUptoRow.holds Try.pinned (OpenSpec.upto fnExactClearnessOfSpec)

/-- 'laws.FnExactMedianOf', WHERE WHAT IT READS IS OF BULK AT MOST 1048576: true; the input reads as it did. -/
def fnExactMedianOfUptoRow : OpenClaim := { program := "ytghkkclonabpkaa", sum := "7a97bec51a50d144bb32fe22896761f073b9672169667e6fc2110d2213e54add", func := "loop.example/g01317/laws.FnExactMedianOf", spec := "fnExactMedianOf", unfollowed := true, recurses := true, apart := false, narrowed := true }
def FnExactMedianOfUptoSaid : Prop := fnExactMedianOfUptoRow.holds Try.pinned (OpenSpec.upto fnExactMedianOfSpec)

/-- 'laws.FnExactEnergiesIn', WHERE WHAT IT READS IS OF BULK AT MOST 1048576: true; the input reads as it did. -/
def fnExactEnergiesInUptoRow : OpenClaim := { program := "ytghkkclonabpkaa", sum := "7a97bec51a50d144bb32fe22896761f073b9672169667e6fc2110d2213e54add", func := "loop.example/g01317/laws.FnExactEnergiesIn", spec := "fnExactEnergiesIn", unfollowed := true, recurses := true, apart := false, narrowed := true }
def FnExactEnergiesInUptoSaid : Prop := fnExactEnergiesInUptoRow.holds Try.pinned (OpenSpec.upto fnExactEnergiesInSpec)

/-- 'laws.FnExactShrinkBands', WHERE WHAT IT READS IS OF BULK AT MOST 1048576: true; the input reads as it did. -/
def fnExactShrinkBandsUptoRow : OpenClaim := { program := "ytghkkclonabpkaa", sum := "7a97bec51a50d144bb32fe22896761f073b9672169667e6fc2110d2213e54add", func := "loop.example/g01317/laws.FnExactShrinkBands", spec := "fnExactShrinkBands", apart := false, narrowed := true }
def FnExactShrinkBandsUptoSaid : Prop := fnExactShrinkBandsUptoRow.holds Try.pinned (OpenSpec.upto fnExactShrinkBandsSpec)

/-- 'laws.FnExactSpreadOf', WHERE WHAT IT READS IS OF BULK AT MOST 1048576: true; the input reads as it did. -/
def fnExactSpreadOfUptoRow : OpenClaim := { program := "ytghkkclonabpkaa", sum := "7a97bec51a50d144bb32fe22896761f073b9672169667e6fc2110d2213e54add", func := "loop.example/g01317/laws.FnExactSpreadOf", spec := "fnExactSpreadOf", unfollowed := true, recurses := true, apart := false, narrowed := true }
def FnExactSpreadOfUptoSaid : Prop := fnExactSpreadOfUptoRow.holds Try.pinned (OpenSpec.upto fnExactSpreadOfSpec)

/-- 'laws.FnExactPeakRatio', WHERE WHAT IT READS IS OF BULK AT MOST 1048576: true; the input reads as it did. -/
def fnExactPeakRatioUptoRow : OpenClaim := { program := "ytghkkclonabpkaa", sum := "7a97bec51a50d144bb32fe22896761f073b9672169667e6fc2110d2213e54add", func := "loop.example/g01317/laws.FnExactPeakRatio", spec := "fnExactPeakRatio", inPlace := ["math.sqrt", "math.Float64frombits", "math.Float64bits"], apart := false, narrowed := true }
def FnExactPeakRatioUptoSaid : Prop := fnExactPeakRatioUptoRow.holds Try.pinned (OpenSpec.upto fnExactPeakRatioSpec)

/-- 'laws.FnExactNoiseOf', WHERE WHAT IT READS IS OF BULK AT MOST 1048576: true; the input reads as it did. -/
def fnExactNoiseOfUptoRow : OpenClaim := { program := "ytghkkclonabpkaa", sum := "7a97bec51a50d144bb32fe22896761f073b9672169667e6fc2110d2213e54add", func := "loop.example/g01317/laws.FnExactNoiseOf", spec := "fnExactNoiseOf", unfollowed := true, recurses := true, apart := false, narrowed := true }
def FnExactNoiseOfUptoSaid : Prop := fnExactNoiseOfUptoRow.holds Try.pinned (OpenSpec.upto fnExactNoiseOfSpec)

end Rows
end Go.Proofs.Ytghkkclonabpkaa
