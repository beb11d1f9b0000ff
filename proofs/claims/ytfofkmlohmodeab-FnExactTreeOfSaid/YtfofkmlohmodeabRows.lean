/-
  No cell of these rows narrows 'for every input' (looked for: loops, veiled, ifaces, maps, wideKeys, modest, calm, conditions, laid).
  DERIVED. THE GIVEN ROWS OF THIS SEAT. 12 by the template 'for every input the law returns true; each argument reads behind the call as it read before'; 0 by the template 'total and deterministic' (their statements: YtfofkmlohmodeabTotals.lean).
  GIVEN WITH THE SEED: the statements are not yours to turn. If you find one false, say at which input.
  Laid BY PROGRAM, IN A SANDBOX (cutbox-rows.mjs): the forced cells as the released guide's own fill.sh prints them over the translation c6e62f91c577b1f9… (all of the seat's roots in one cut). By AI agents, Wed Nov 11 2026. No macro, syntax, notation, axiom, sorry.
-/
import Derived.Test.YtfofkmlohmodeabChecked
import GoSem.Claim
import GoSem.ClaimJoined
import GoSem.ClaimMapViews
import Derived.JoinedTies
import Derived.KernelRfl
namespace Go.Proofs.Ytfofkmlohmodeab
/- THE CELL 'sum', in the pinned program and in every row, IS THE sha256 OF THE DUMP (.gsa) THAT YtfofkmlohmodeabProg.lean LOADS. Nothing in Lean hashes anything: it is a label: what it is worth is what the hold of that sum in a sandbox is worth. -/
noncomputable def Try.pinned : Pinned := { name := "ytfofkmlohmodeab", sum := "c6e62f91c577b1f975e23703c6d570e5edf3acc9c661e850a543c0f335c8ee5d", checked := Try.checked }
namespace Rows
def none {H : Type} : Left H := { results := [], args := [] }

/-- 'laws.FnExactTreeOf': WHATEVER THE INPUT: true; the input reads as it did. -/
def fnExactTreeOfSpec : ChangeSpec := { name := "fnExactTreeOf", fn := fun _ => fun
  | [d1, d2, d3] => { results := [.lit (.bool true)], args := [d1, d2, d3] }
  | _ => none }
def fnExactTreeOfRow : OpenClaim := { program := "ytfofkmlohmodeab", sum := "c6e62f91c577b1f975e23703c6d570e5edf3acc9c661e850a543c0f335c8ee5d", func := "loop.example/g01317/laws.FnExactTreeOf", spec := "fnExactTreeOf", apart := false }
def FnExactTreeOfSaid : Prop := fnExactTreeOfRow.holds Try.pinned (OpenSpec.ofChange fnExactTreeOfSpec)

/-- ITS FALSE NEIGHBOUR: 'it returns false'. Refute it at one input. -/
def fnExactTreeOfWrong : ChangeSpec := { name := "fnExactTreeOf", fn := fun _ => fun
  | [d1, d2, d3] => { results := [.lit (.bool false)], args := [d1, d2, d3] }
  | _ => none }
def FnExactTreeOfWrongFalsely : Prop := fnExactTreeOfRow.holds Try.pinned (OpenSpec.ofChange fnExactTreeOfWrong)

/-- 'laws.FnExactHullOf': WHATEVER THE INPUT: true; the input reads as it did. -/
def fnExactHullOfSpec : ChangeSpec := { name := "fnExactHullOf", fn := fun _ => fun
  | [d1, d2] => { results := [.lit (.bool true)], args := [d1, d2] }
  | _ => none }
def fnExactHullOfRow : OpenClaim := { program := "ytfofkmlohmodeab", sum := "c6e62f91c577b1f975e23703c6d570e5edf3acc9c661e850a543c0f335c8ee5d", func := "loop.example/g01317/laws.FnExactHullOf", spec := "fnExactHullOf", apart := false }
def FnExactHullOfSaid : Prop := fnExactHullOfRow.holds Try.pinned (OpenSpec.ofChange fnExactHullOfSpec)

/-- ITS FALSE NEIGHBOUR: 'it returns false'. Refute it at one input. -/
def fnExactHullOfWrong : ChangeSpec := { name := "fnExactHullOf", fn := fun _ => fun
  | [d1, d2] => { results := [.lit (.bool false)], args := [d1, d2] }
  | _ => none }
def FnExactHullOfWrongFalsely : Prop := fnExactHullOfRow.holds Try.pinned (OpenSpec.ofChange fnExactHullOfWrong)

/-- 'laws.FnExactLastOfHull': WHATEVER THE INPUT: true; the input reads as it did. -/
def fnExactLastOfHullSpec : ChangeSpec := { name := "fnExactLastOfHull", fn := fun _ => fun
  | [d1, d2] => { results := [.lit (.bool true)], args := [d1, d2] }
  | _ => none }
def fnExactLastOfHullRow : OpenClaim := { program := "ytfofkmlohmodeab", sum := "c6e62f91c577b1f975e23703c6d570e5edf3acc9c661e850a543c0f335c8ee5d", func := "loop.example/g01317/laws.FnExactLastOfHull", spec := "fnExactLastOfHull", apart := false }
def FnExactLastOfHullSaid : Prop := fnExactLastOfHullRow.holds Try.pinned (OpenSpec.ofChange fnExactLastOfHullSpec)

/-- ITS FALSE NEIGHBOUR: 'it returns false'. Refute it at one input. -/
def fnExactLastOfHullWrong : ChangeSpec := { name := "fnExactLastOfHull", fn := fun _ => fun
  | [d1, d2] => { results := [.lit (.bool false)], args := [d1, d2] }
  | _ => none }
def FnExactLastOfHullWrongFalsely : Prop := fnExactLastOfHullRow.holds Try.pinned (OpenSpec.ofChange fnExactLastOfHullWrong)

/-- 'laws.FnExactHardShrink': WHATEVER THE INPUT: true; the input reads as it did. -/
def fnExactHardShrinkSpec : ChangeSpec := { name := "fnExactHardShrink", fn := fun _ => fun
  | [d1, d2] => { results := [.lit (.bool true)], args := [d1, d2] }
  | _ => none }
def fnExactHardShrinkRow : OpenClaim := { program := "ytfofkmlohmodeab", sum := "c6e62f91c577b1f975e23703c6d570e5edf3acc9c661e850a543c0f335c8ee5d", func := "loop.example/g01317/laws.FnExactHardShrink", spec := "fnExactHardShrink", apart := false }
def FnExactHardShrinkSaid : Prop := fnExactHardShrinkRow.holds Try.pinned (OpenSpec.ofChange fnExactHardShrinkSpec)

/-- ITS FALSE NEIGHBOUR: 'it returns false'. Refute it at one input. -/
def fnExactHardShrinkWrong : ChangeSpec := { name := "fnExactHardShrink", fn := fun _ => fun
  | [d1, d2] => { results := [.lit (.bool false)], args := [d1, d2] }
  | _ => none }
def FnExactHardShrinkWrongFalsely : Prop := fnExactHardShrinkRow.holds Try.pinned (OpenSpec.ofChange fnExactHardShrinkWrong)

/-- 'laws.FnExactSoftShrink': WHATEVER THE INPUT: true; the input reads as it did. -/
def fnExactSoftShrinkSpec : ChangeSpec := { name := "fnExactSoftShrink", fn := fun _ => fun
  | [d1, d2] => { results := [.lit (.bool true)], args := [d1, d2] }
  | _ => none }
def fnExactSoftShrinkRow : OpenClaim := { program := "ytfofkmlohmodeab", sum := "c6e62f91c577b1f975e23703c6d570e5edf3acc9c661e850a543c0f335c8ee5d", func := "loop.example/g01317/laws.FnExactSoftShrink", spec := "fnExactSoftShrink", apart := false }
def FnExactSoftShrinkSaid : Prop := fnExactSoftShrinkRow.holds Try.pinned (OpenSpec.ofChange fnExactSoftShrinkSpec)

/-- ITS FALSE NEIGHBOUR: 'it returns false'. Refute it at one input. -/
def fnExactSoftShrinkWrong : ChangeSpec := { name := "fnExactSoftShrink", fn := fun _ => fun
  | [d1, d2] => { results := [.lit (.bool false)], args := [d1, d2] }
  | _ => none }
def FnExactSoftShrinkWrongFalsely : Prop := fnExactSoftShrinkRow.holds Try.pinned (OpenSpec.ofChange fnExactSoftShrinkWrong)

/-- 'laws.FnExactMissOfLists': WHATEVER THE INPUT: true; the input reads as it did. -/
def fnExactMissOfListsSpec : ChangeSpec := { name := "fnExactMissOfLists", fn := fun _ => fun
  | [d1, d2] => { results := [.lit (.bool true)], args := [d1, d2] }
  | _ => none }
def fnExactMissOfListsRow : OpenClaim := { program := "ytfofkmlohmodeab", sum := "c6e62f91c577b1f975e23703c6d570e5edf3acc9c661e850a543c0f335c8ee5d", func := "loop.example/g01317/laws.FnExactMissOfLists", spec := "fnExactMissOfLists", apart := false }
def FnExactMissOfListsSaid : Prop := fnExactMissOfListsRow.holds Try.pinned (OpenSpec.ofChange fnExactMissOfListsSpec)

/-- ITS FALSE NEIGHBOUR: 'it returns false'. Refute it at one input. -/
def fnExactMissOfListsWrong : ChangeSpec := { name := "fnExactMissOfLists", fn := fun _ => fun
  | [d1, d2] => { results := [.lit (.bool false)], args := [d1, d2] }
  | _ => none }
def FnExactMissOfListsWrongFalsely : Prop := fnExactMissOfListsRow.holds Try.pinned (OpenSpec.ofChange fnExactMissOfListsWrong)

/-- 'laws.FnExactTrendOf': WHATEVER THE INPUT: true; the input reads as it did. -/
def fnExactTrendOfSpec : ChangeSpec := { name := "fnExactTrendOf", fn := fun _ => fun
  | [d] => { results := [.lit (.bool true)], args := [d] }
  | _ => none }
def fnExactTrendOfRow : OpenClaim := { program := "ytfofkmlohmodeab", sum := "c6e62f91c577b1f975e23703c6d570e5edf3acc9c661e850a543c0f335c8ee5d", func := "loop.example/g01317/laws.FnExactTrendOf", spec := "fnExactTrendOf", apart := false }
def FnExactTrendOfSaid : Prop := fnExactTrendOfRow.holds Try.pinned (OpenSpec.ofChange fnExactTrendOfSpec)

/-- ITS FALSE NEIGHBOUR: 'it returns false'. Refute it at one input. -/
def fnExactTrendOfWrong : ChangeSpec := { name := "fnExactTrendOf", fn := fun _ => fun
  | [d] => { results := [.lit (.bool false)], args := [d] }
  | _ => none }
def FnExactTrendOfWrongFalsely : Prop := fnExactTrendOfRow.holds Try.pinned (OpenSpec.ofChange fnExactTrendOfWrong)

/-- 'laws.FnExactBestBreak': WHATEVER THE INPUT: true; the input reads as it did. -/
def fnExactBestBreakSpec : ChangeSpec := { name := "fnExactBestBreak", fn := fun _ => fun
  | [d] => { results := [.lit (.bool true)], args := [d] }
  | _ => none }
def fnExactBestBreakRow : OpenClaim := { program := "ytfofkmlohmodeab", sum := "c6e62f91c577b1f975e23703c6d570e5edf3acc9c661e850a543c0f335c8ee5d", func := "loop.example/g01317/laws.FnExactBestBreak", spec := "fnExactBestBreak", apart := false }
def FnExactBestBreakSaid : Prop := fnExactBestBreakRow.holds Try.pinned (OpenSpec.ofChange fnExactBestBreakSpec)

/-- ITS FALSE NEIGHBOUR: 'it returns false'. Refute it at one input. -/
def fnExactBestBreakWrong : ChangeSpec := { name := "fnExactBestBreak", fn := fun _ => fun
  | [d] => { results := [.lit (.bool false)], args := [d] }
  | _ => none }
def FnExactBestBreakWrongFalsely : Prop := fnExactBestBreakRow.holds Try.pinned (OpenSpec.ofChange fnExactBestBreakWrong)

/-- 'laws.FnExactRiskOf': WHATEVER THE INPUT: true; the input reads as it did. -/
def fnExactRiskOfSpec : ChangeSpec := { name := "fnExactRiskOf", fn := fun _ => fun
  | [d1, d2, d3] => { results := [.lit (.bool true)], args := [d1, d2, d3] }
  | _ => none }
def fnExactRiskOfRow : OpenClaim := { program := "ytfofkmlohmodeab", sum := "c6e62f91c577b1f975e23703c6d570e5edf3acc9c661e850a543c0f335c8ee5d", func := "loop.example/g01317/laws.FnExactRiskOf", spec := "fnExactRiskOf", apart := false }
def FnExactRiskOfSaid : Prop := fnExactRiskOfRow.holds Try.pinned (OpenSpec.ofChange fnExactRiskOfSpec)

/-- ITS FALSE NEIGHBOUR: 'it returns false'. Refute it at one input. -/
def fnExactRiskOfWrong : ChangeSpec := { name := "fnExactRiskOf", fn := fun _ => fun
  | [d1, d2, d3] => { results := [.lit (.bool false)], args := [d1, d2, d3] }
  | _ => none }
def FnExactRiskOfWrongFalsely : Prop := fnExactRiskOfRow.holds Try.pinned (OpenSpec.ofChange fnExactRiskOfWrong)

/-- 'laws.FnExactSeasonOf': WHATEVER THE INPUT: true; the input reads as it did. -/
def fnExactSeasonOfSpec : ChangeSpec := { name := "fnExactSeasonOf", fn := fun _ => fun
  | [d1, d2] => { results := [.lit (.bool true)], args := [d1, d2] }
  | _ => none }
def fnExactSeasonOfRow : OpenClaim := { program := "ytfofkmlohmodeab", sum := "c6e62f91c577b1f975e23703c6d570e5edf3acc9c661e850a543c0f335c8ee5d", func := "loop.example/g01317/laws.FnExactSeasonOf", spec := "fnExactSeasonOf", apart := false }
def FnExactSeasonOfSaid : Prop := fnExactSeasonOfRow.holds Try.pinned (OpenSpec.ofChange fnExactSeasonOfSpec)

/-- ITS FALSE NEIGHBOUR: 'it returns false'. Refute it at one input. -/
def fnExactSeasonOfWrong : ChangeSpec := { name := "fnExactSeasonOf", fn := fun _ => fun
  | [d1, d2] => { results := [.lit (.bool false)], args := [d1, d2] }
  | _ => none }
def FnExactSeasonOfWrongFalsely : Prop := fnExactSeasonOfRow.holds Try.pinned (OpenSpec.ofChange fnExactSeasonOfWrong)

/-- 'laws.FnExactShrinkList': WHATEVER THE INPUT: true; the input reads as it did. -/
def fnExactShrinkListSpec : ChangeSpec := { name := "fnExactShrinkList", fn := fun _ => fun
  | [d1, d2, d3] => { results := [.lit (.bool true)], args := [d1, d2, d3] }
  | _ => none }
def fnExactShrinkListRow : OpenClaim := { program := "ytfofkmlohmodeab", sum := "c6e62f91c577b1f975e23703c6d570e5edf3acc9c661e850a543c0f335c8ee5d", func := "loop.example/g01317/laws.FnExactShrinkList", spec := "fnExactShrinkList", apart := false }
def FnExactShrinkListSaid : Prop := fnExactShrinkListRow.holds Try.pinned (OpenSpec.ofChange fnExactShrinkListSpec)

/-- ITS FALSE NEIGHBOUR: 'it returns false'. Refute it at one input. -/
def fnExactShrinkListWrong : ChangeSpec := { name := "fnExactShrinkList", fn := fun _ => fun
  | [d1, d2, d3] => { results := [.lit (.bool false)], args := [d1, d2, d3] }
  | _ => none }
def FnExactShrinkListWrongFalsely : Prop := fnExactShrinkListRow.holds Try.pinned (OpenSpec.ofChange fnExactShrinkListWrong)

/-- 'laws.FnExactBestLimit': WHATEVER THE INPUT: true; the input reads as it did. -/
def fnExactBestLimitSpec : ChangeSpec := { name := "fnExactBestLimit", fn := fun _ => fun
  | [d1, d2] => { results := [.lit (.bool true)], args := [d1, d2] }
  | _ => none }
def fnExactBestLimitRow : OpenClaim := { program := "ytfofkmlohmodeab", sum := "c6e62f91c577b1f975e23703c6d570e5edf3acc9c661e850a543c0f335c8ee5d", func := "loop.example/g01317/laws.FnExactBestLimit", spec := "fnExactBestLimit", apart := false }
def FnExactBestLimitSaid : Prop := fnExactBestLimitRow.holds Try.pinned (OpenSpec.ofChange fnExactBestLimitSpec)

/-- ITS FALSE NEIGHBOUR: 'it returns false'. Refute it at one input. -/
def fnExactBestLimitWrong : ChangeSpec := { name := "fnExactBestLimit", fn := fun _ => fun
  | [d1, d2] => { results := [.lit (.bool false)], args := [d1, d2] }
  | _ => none }
def FnExactBestLimitWrongFalsely : Prop := fnExactBestLimitRow.holds Try.pinned (OpenSpec.ofChange fnExactBestLimitWrong)

/- THE SECOND FORM. 'bulk': how many values and letters a reading holds, each counted each time it is reached (what is shared counts as often as it is met; a slice's spare places count too). A statement '..UptoSaid' is the law's where the arguments, and the package variables that the reading takes, are together of bulk at most 1048576: NARROWER than '..Said'. Prove '..Said' where nothing that the law and all that it calls make is longer than what came in: it says more and counts as full. Else prove '..UptoSaid'. A law counts once. -/
mutual
def uptoBulk {H : Type} : DataW H → Nat
  | .lit (.string bytes) => bytes.length + 1
  | .lit _ => 1
  | .nil => 1
  | .ptr d => uptoBulk d + 1
  | .slice elems spare => uptoBulkAll elems + uptoBulkAll spare + 1
  | .agg parts => uptoBulkAll parts + 1
  | .iface _ d => uptoBulk d + 1
  | .map entries => uptoBulkEntries entries + 1
  | .held _ => 1
def uptoBulkAll {H : Type} : List (DataW H) → Nat
  | [] => 0
  | d :: r => uptoBulk d + uptoBulkAll r
def uptoBulkEntries {H : Type} : List (Lit × DataW H) → Nat
  | [] => 0
  | x :: r => uptoBulkEntry x + uptoBulkEntries r
def uptoBulkEntry {H : Type} : Lit × DataW H → Nat
  | (.string bytes, d) => bytes.length + uptoBulk d + 1
  | (_, d) => uptoBulk d + 1
 end
def uptoSmall : (H : Type) → List (DataW H) → Bool := fun _ ds => decide (uptoBulkAll ds ≤ 1048576)
def OpenSpec.upto (s : _root_.Go.ChangeSpec) : _root_.Go.OpenSpec := { _root_.Go.OpenSpec.ofChange s with cond := some uptoSmall }

/-- 'laws.FnExactTreeOf', WHERE WHAT IT READS IS OF BULK AT MOST 1048576: true; the input reads as it did. -/
def fnExactTreeOfUptoRow : OpenClaim := { program := "ytfofkmlohmodeab", sum := "c6e62f91c577b1f975e23703c6d570e5edf3acc9c661e850a543c0f335c8ee5d", func := "loop.example/g01317/laws.FnExactTreeOf", spec := "fnExactTreeOf", apart := false, narrowed := true }
def FnExactTreeOfUptoSaid : Prop := fnExactTreeOfUptoRow.holds Try.pinned (OpenSpec.upto fnExactTreeOfSpec)

/-- 'laws.FnExactHullOf', WHERE WHAT IT READS IS OF BULK AT MOST 1048576: true; the input reads as it did. -/
def fnExactHullOfUptoRow : OpenClaim := { program := "ytfofkmlohmodeab", sum := "c6e62f91c577b1f975e23703c6d570e5edf3acc9c661e850a543c0f335c8ee5d", func := "loop.example/g01317/laws.FnExactHullOf", spec := "fnExactHullOf", apart := false, narrowed := true }
def FnExactHullOfUptoSaid : Prop := fnExactHullOfUptoRow.holds Try.pinned (OpenSpec.upto fnExactHullOfSpec)

/-- 'laws.FnExactLastOfHull', WHERE WHAT IT READS IS OF BULK AT MOST 1048576: true; the input reads as it did. -/
def fnExactLastOfHullUptoRow : OpenClaim := { program := "ytfofkmlohmodeab", sum := "c6e62f91c577b1f975e23703c6d570e5edf3acc9c661e850a543c0f335c8ee5d", func := "loop.example/g01317/laws.FnExactLastOfHull", spec := "fnExactLastOfHull", apart := false, narrowed := true }
def FnExactLastOfHullUptoSaid : Prop := fnExactLastOfHullUptoRow.holds Try.pinned (OpenSpec.upto fnExactLastOfHullSpec)

/-- 'laws.FnExactHardShrink', WHERE WHAT IT READS IS OF BULK AT MOST 1048576: true; the input reads as it did. -/
def fnExactHardShrinkUptoRow : OpenClaim := { program := "ytfofkmlohmodeab", sum := "c6e62f91c577b1f975e23703c6d570e5edf3acc9c661e850a543c0f335c8ee5d", func := "loop.example/g01317/laws.FnExactHardShrink", spec := "fnExactHardShrink", apart := false, narrowed := true }
def FnExactHardShrinkUptoSaid : Prop := fnExactHardShrinkUptoRow.holds Try.pinned (OpenSpec.upto fnExactHardShrinkSpec)

/-- 'laws.FnExactSoftShrink', WHERE WHAT IT READS IS OF BULK AT MOST 1048576: true; the input reads as it did. -/
def fnExactSoftShrinkUptoRow : OpenClaim := { program := "ytfofkmlohmodeab", sum := "c6e62f91c577b1f975e23703c6d570e5edf3acc9c661e850a543c0f335c8ee5d", func := "loop.example/g01317/laws.FnExactSoftShrink", spec := "fnExactSoftShrink", apart := false, narrowed := true }
def FnExactSoftShrinkUptoSaid : Prop := fnExactSoftShrinkUptoRow.holds Try.pinned (OpenSpec.upto fnExactSoftShrinkSpec)

/-- 'laws.FnExactMissOfLists', WHERE WHAT IT READS IS OF BULK AT MOST 1048576: true; the input reads as it did. -/
def fnExactMissOfListsUptoRow : OpenClaim := { program := "ytfofkmlohmodeab", sum := "c6e62f91c577b1f975e23703c6d570e5edf3acc9c661e850a543c0f335c8ee5d", func := "loop.example/g01317/laws.FnExactMissOfLists", spec := "fnExactMissOfLists", apart := false, narrowed := true }
def FnExactMissOfListsUptoSaid : Prop := fnExactMissOfListsUptoRow.holds Try.pinned (OpenSpec.upto fnExactMissOfListsSpec)

/-- 'laws.FnExactTrendOf', WHERE WHAT IT READS IS OF BULK AT MOST 1048576: true; the input reads as it did. -/
def fnExactTrendOfUptoRow : OpenClaim := { program := "ytfofkmlohmodeab", sum := "c6e62f91c577b1f975e23703c6d570e5edf3acc9c661e850a543c0f335c8ee5d", func := "loop.example/g01317/laws.FnExactTrendOf", spec := "fnExactTrendOf", apart := false, narrowed := true }
def FnExactTrendOfUptoSaid : Prop := fnExactTrendOfUptoRow.holds Try.pinned (OpenSpec.upto fnExactTrendOfSpec)

/-- 'laws.FnExactBestBreak', WHERE WHAT IT READS IS OF BULK AT MOST 1048576: true; the input reads as it did. -/
def fnExactBestBreakUptoRow : OpenClaim := { program := "ytfofkmlohmodeab", sum := "c6e62f91c577b1f975e23703c6d570e5edf3acc9c661e850a543c0f335c8ee5d", func := "loop.example/g01317/laws.FnExactBestBreak", spec := "fnExactBestBreak", apart := false, narrowed := true }
def FnExactBestBreakUptoSaid : Prop := fnExactBestBreakUptoRow.holds Try.pinned (OpenSpec.upto fnExactBestBreakSpec)

/-- 'laws.FnExactRiskOf', WHERE WHAT IT READS IS OF BULK AT MOST 1048576: true; the input reads as it did. -/
def fnExactRiskOfUptoRow : OpenClaim := { program := "ytfofkmlohmodeab", sum := "c6e62f91c577b1f975e23703c6d570e5edf3acc9c661e850a543c0f335c8ee5d", func := "loop.example/g01317/laws.FnExactRiskOf", spec := "fnExactRiskOf", apart := false, narrowed := true }
def FnExactRiskOfUptoSaid : Prop := fnExactRiskOfUptoRow.holds Try.pinned (OpenSpec.upto fnExactRiskOfSpec)

/-- 'laws.FnExactSeasonOf', WHERE WHAT IT READS IS OF BULK AT MOST 1048576: true; the input reads as it did. -/
def fnExactSeasonOfUptoRow : OpenClaim := { program := "ytfofkmlohmodeab", sum := "c6e62f91c577b1f975e23703c6d570e5edf3acc9c661e850a543c0f335c8ee5d", func := "loop.example/g01317/laws.FnExactSeasonOf", spec := "fnExactSeasonOf", apart := false, narrowed := true }
def FnExactSeasonOfUptoSaid : Prop := fnExactSeasonOfUptoRow.holds Try.pinned (OpenSpec.upto fnExactSeasonOfSpec)

/-- 'laws.FnExactShrinkList', WHERE WHAT IT READS IS OF BULK AT MOST 1048576: true; the input reads as it did. -/
def fnExactShrinkListUptoRow : OpenClaim := { program := "ytfofkmlohmodeab", sum := "c6e62f91c577b1f975e23703c6d570e5edf3acc9c661e850a543c0f335c8ee5d", func := "loop.example/g01317/laws.FnExactShrinkList", spec := "fnExactShrinkList", apart := false, narrowed := true }
def FnExactShrinkListUptoSaid : Prop := fnExactShrinkListUptoRow.holds Try.pinned (OpenSpec.upto fnExactShrinkListSpec)

/-- 'laws.FnExactBestLimit', WHERE WHAT IT READS IS OF BULK AT MOST 1048576: true; the input reads as it did. -/
def fnExactBestLimitUptoRow : OpenClaim := { program := "ytfofkmlohmodeab", sum := "c6e62f91c577b1f975e23703c6d570e5edf3acc9c661e850a543c0f335c8ee5d", func := "loop.example/g01317/laws.FnExactBestLimit", spec := "fnExactBestLimit", apart := false, narrowed := true }
def FnExactBestLimitUptoSaid : Prop := fnExactBestLimitUptoRow.holds Try.pinned (OpenSpec.upto fnExactBestLimitSpec)

end Rows
end Go.Proofs.Ytfofkmlohmodeab
