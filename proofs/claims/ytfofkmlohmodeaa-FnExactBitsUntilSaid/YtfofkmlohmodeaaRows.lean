/-
  No cell of these rows narrows 'for every input' (looked for: loops, veiled, ifaces, maps, wideKeys, modest, calm, conditions, laid).
  DERIVED. THE GIVEN ROWS OF THIS SEAT. 12 by the template 'for every input the law returns true; each argument reads behind the call as it read before'; 0 by the template 'total and deterministic' (their statements: YtfofkmlohmodeaaTotals.lean).
  GIVEN WITH THE SEED: the statements are not yours to turn. If you find one false, say at which input.
  Laid BY PROGRAM, IN A SANDBOX (cutbox-rows.mjs): the forced cells as the released guide's own fill.sh prints them over the translation bbff838d4c699059… (all of the seat's roots in one cut). By AI agents, Wed Nov 11 2026. No macro, syntax, notation, axiom, sorry.
-/
import Derived.Test.YtfofkmlohmodeaaChecked
import GoSem.Claim
import GoSem.ClaimJoined
import GoSem.ClaimMapViews
import Derived.JoinedTies
import Derived.KernelRfl
namespace Go.Proofs.Ytfofkmlohmodeaa
/- THE CELL 'sum', in the pinned program and in every row, IS THE sha256 OF THE DUMP (.gsa) THAT YtfofkmlohmodeaaProg.lean LOADS. Nothing in Lean hashes anything: it is a label: what it is worth is what the hold of that sum in a sandbox is worth. -/
noncomputable def Try.pinned : Pinned := { name := "ytfofkmlohmodeaa", sum := "bbff838d4c6990593ce84664283fed24c230e1c359b9aa205f68e95d8838fb19", checked := Try.checked }
namespace Rows
def none {H : Type} : Left H := { results := [], args := [] }

/-- 'laws.FnExactFromZigZag': WHATEVER THE INPUT: true; the input reads as it did. -/
def fnExactFromZigZagSpec : ChangeSpec := { name := "fnExactFromZigZag", fn := fun _ => fun
  | [d] => { results := [.lit (.bool true)], args := [d] }
  | _ => none }
def fnExactFromZigZagRow : OpenClaim := { program := "ytfofkmlohmodeaa", sum := "bbff838d4c6990593ce84664283fed24c230e1c359b9aa205f68e95d8838fb19", func := "loop.example/g01317/laws.FnExactFromZigZag", spec := "fnExactFromZigZag", apart := false }
def FnExactFromZigZagSaid : Prop := fnExactFromZigZagRow.holds Try.pinned (OpenSpec.ofChange fnExactFromZigZagSpec)

/-- ITS FALSE NEIGHBOUR: 'it returns false'. Refute it at one input. -/
def fnExactFromZigZagWrong : ChangeSpec := { name := "fnExactFromZigZag", fn := fun _ => fun
  | [d] => { results := [.lit (.bool false)], args := [d] }
  | _ => none }
def FnExactFromZigZagWrongFalsely : Prop := fnExactFromZigZagRow.holds Try.pinned (OpenSpec.ofChange fnExactFromZigZagWrong)

/-- 'laws.FnExactZigZag': WHATEVER THE INPUT: true; the input reads as it did. -/
def fnExactZigZagSpec : ChangeSpec := { name := "fnExactZigZag", fn := fun _ => fun
  | [d] => { results := [.lit (.bool true)], args := [d] }
  | _ => none }
def fnExactZigZagRow : OpenClaim := { program := "ytfofkmlohmodeaa", sum := "bbff838d4c6990593ce84664283fed24c230e1c359b9aa205f68e95d8838fb19", func := "loop.example/g01317/laws.FnExactZigZag", spec := "fnExactZigZag", apart := false }
def FnExactZigZagSaid : Prop := fnExactZigZagRow.holds Try.pinned (OpenSpec.ofChange fnExactZigZagSpec)

/-- ITS FALSE NEIGHBOUR: 'it returns false'. Refute it at one input. -/
def fnExactZigZagWrong : ChangeSpec := { name := "fnExactZigZag", fn := fun _ => fun
  | [d] => { results := [.lit (.bool false)], args := [d] }
  | _ => none }
def FnExactZigZagWrongFalsely : Prop := fnExactZigZagRow.holds Try.pinned (OpenSpec.ofChange fnExactZigZagWrong)

/-- 'laws.FnExactBitText': WHATEVER THE INPUT: true; the input reads as it did. -/
def fnExactBitTextSpec : ChangeSpec := { name := "fnExactBitText", fn := fun _ => fun
  | [d] => { results := [.lit (.bool true)], args := [d] }
  | _ => none }
def fnExactBitTextRow : OpenClaim := { program := "ytfofkmlohmodeaa", sum := "bbff838d4c6990593ce84664283fed24c230e1c359b9aa205f68e95d8838fb19", func := "loop.example/g01317/laws.FnExactBitText", spec := "fnExactBitText", apart := false }
def FnExactBitTextSaid : Prop := fnExactBitTextRow.holds Try.pinned (OpenSpec.ofChange fnExactBitTextSpec)

/-- ITS FALSE NEIGHBOUR: 'it returns false'. Refute it at one input. -/
def fnExactBitTextWrong : ChangeSpec := { name := "fnExactBitText", fn := fun _ => fun
  | [d] => { results := [.lit (.bool false)], args := [d] }
  | _ => none }
def FnExactBitTextWrongFalsely : Prop := fnExactBitTextRow.holds Try.pinned (OpenSpec.ofChange fnExactBitTextWrong)

/-- 'laws.FnExactValidCoded': WHATEVER THE INPUT: true; the input reads as it did. -/
def fnExactValidCodedSpec : ChangeSpec := { name := "fnExactValidCoded", fn := fun _ => fun
  | [d] => { results := [.lit (.bool true)], args := [d] }
  | _ => none }
def fnExactValidCodedRow : OpenClaim := { program := "ytfofkmlohmodeaa", sum := "bbff838d4c6990593ce84664283fed24c230e1c359b9aa205f68e95d8838fb19", func := "loop.example/g01317/laws.FnExactValidCoded", spec := "fnExactValidCoded", apart := false }
def FnExactValidCodedSaid : Prop := fnExactValidCodedRow.holds Try.pinned (OpenSpec.ofChange fnExactValidCodedSpec)

/-- ITS FALSE NEIGHBOUR: 'it returns false'. Refute it at one input. -/
def fnExactValidCodedWrong : ChangeSpec := { name := "fnExactValidCoded", fn := fun _ => fun
  | [d] => { results := [.lit (.bool false)], args := [d] }
  | _ => none }
def FnExactValidCodedWrongFalsely : Prop := fnExactValidCodedRow.holds Try.pinned (OpenSpec.ofChange fnExactValidCodedWrong)

/-- 'laws.FnExactSameCoded': WHATEVER THE INPUT: true; the input reads as it did. -/
def fnExactSameCodedSpec : ChangeSpec := { name := "fnExactSameCoded", fn := fun _ => fun
  | [d1, d2] => { results := [.lit (.bool true)], args := [d1, d2] }
  | _ => none }
def fnExactSameCodedRow : OpenClaim := { program := "ytfofkmlohmodeaa", sum := "bbff838d4c6990593ce84664283fed24c230e1c359b9aa205f68e95d8838fb19", func := "loop.example/g01317/laws.FnExactSameCoded", spec := "fnExactSameCoded", apart := false }
def FnExactSameCodedSaid : Prop := fnExactSameCodedRow.holds Try.pinned (OpenSpec.ofChange fnExactSameCodedSpec)

/-- ITS FALSE NEIGHBOUR: 'it returns false'. Refute it at one input. -/
def fnExactSameCodedWrong : ChangeSpec := { name := "fnExactSameCoded", fn := fun _ => fun
  | [d1, d2] => { results := [.lit (.bool false)], args := [d1, d2] }
  | _ => none }
def FnExactSameCodedWrongFalsely : Prop := fnExactSameCodedRow.holds Try.pinned (OpenSpec.ofChange fnExactSameCodedWrong)

/-- 'laws.FnExactParentOf': WHATEVER THE INPUT: true; the input reads as it did. -/
def fnExactParentOfSpec : ChangeSpec := { name := "fnExactParentOf", fn := fun _ => fun
  | [d1, d2, d3] => { results := [.lit (.bool true)], args := [d1, d2, d3] }
  | _ => none }
def fnExactParentOfRow : OpenClaim := { program := "ytfofkmlohmodeaa", sum := "bbff838d4c6990593ce84664283fed24c230e1c359b9aa205f68e95d8838fb19", func := "loop.example/g01317/laws.FnExactParentOf", spec := "fnExactParentOf", apart := false }
def FnExactParentOfSaid : Prop := fnExactParentOfRow.holds Try.pinned (OpenSpec.ofChange fnExactParentOfSpec)

/-- ITS FALSE NEIGHBOUR: 'it returns false'. Refute it at one input. -/
def fnExactParentOfWrong : ChangeSpec := { name := "fnExactParentOf", fn := fun _ => fun
  | [d1, d2, d3] => { results := [.lit (.bool false)], args := [d1, d2, d3] }
  | _ => none }
def FnExactParentOfWrongFalsely : Prop := fnExactParentOfRow.holds Try.pinned (OpenSpec.ofChange fnExactParentOfWrong)

/-- 'laws.FnExactRiceLong': WHATEVER THE INPUT: true; the input reads as it did. -/
def fnExactRiceLongSpec : ChangeSpec := { name := "fnExactRiceLong", fn := fun _ => fun
  | [d1, d2] => { results := [.lit (.bool true)], args := [d1, d2] }
  | _ => none }
def fnExactRiceLongRow : OpenClaim := { program := "ytfofkmlohmodeaa", sum := "bbff838d4c6990593ce84664283fed24c230e1c359b9aa205f68e95d8838fb19", func := "loop.example/g01317/laws.FnExactRiceLong", spec := "fnExactRiceLong", apart := false }
def FnExactRiceLongSaid : Prop := fnExactRiceLongRow.holds Try.pinned (OpenSpec.ofChange fnExactRiceLongSpec)

/-- ITS FALSE NEIGHBOUR: 'it returns false'. Refute it at one input. -/
def fnExactRiceLongWrong : ChangeSpec := { name := "fnExactRiceLong", fn := fun _ => fun
  | [d1, d2] => { results := [.lit (.bool false)], args := [d1, d2] }
  | _ => none }
def FnExactRiceLongWrongFalsely : Prop := fnExactRiceLongRow.holds Try.pinned (OpenSpec.ofChange fnExactRiceLongWrong)

/-- 'laws.FnExactPlanesFor': WHATEVER THE INPUT: true; the input reads as it did. -/
def fnExactPlanesForSpec : ChangeSpec := { name := "fnExactPlanesFor", fn := fun _ => fun
  | [d] => { results := [.lit (.bool true)], args := [d] }
  | _ => none }
def fnExactPlanesForRow : OpenClaim := { program := "ytfofkmlohmodeaa", sum := "bbff838d4c6990593ce84664283fed24c230e1c359b9aa205f68e95d8838fb19", func := "loop.example/g01317/laws.FnExactPlanesFor", spec := "fnExactPlanesFor", apart := false }
def FnExactPlanesForSaid : Prop := fnExactPlanesForRow.holds Try.pinned (OpenSpec.ofChange fnExactPlanesForSpec)

/-- ITS FALSE NEIGHBOUR: 'it returns false'. Refute it at one input. -/
def fnExactPlanesForWrong : ChangeSpec := { name := "fnExactPlanesFor", fn := fun _ => fun
  | [d] => { results := [.lit (.bool false)], args := [d] }
  | _ => none }
def FnExactPlanesForWrongFalsely : Prop := fnExactPlanesForRow.holds Try.pinned (OpenSpec.ofChange fnExactPlanesForWrong)

/-- 'laws.FnExactBestRice': WHATEVER THE INPUT: true; the input reads as it did. -/
def fnExactBestRiceSpec : ChangeSpec := { name := "fnExactBestRice", fn := fun _ => fun
  | [d] => { results := [.lit (.bool true)], args := [d] }
  | _ => none }
def fnExactBestRiceRow : OpenClaim := { program := "ytfofkmlohmodeaa", sum := "bbff838d4c6990593ce84664283fed24c230e1c359b9aa205f68e95d8838fb19", func := "loop.example/g01317/laws.FnExactBestRice", spec := "fnExactBestRice", apart := false }
def FnExactBestRiceSaid : Prop := fnExactBestRiceRow.holds Try.pinned (OpenSpec.ofChange fnExactBestRiceSpec)

/-- ITS FALSE NEIGHBOUR: 'it returns false'. Refute it at one input. -/
def fnExactBestRiceWrong : ChangeSpec := { name := "fnExactBestRice", fn := fun _ => fun
  | [d] => { results := [.lit (.bool false)], args := [d] }
  | _ => none }
def FnExactBestRiceWrongFalsely : Prop := fnExactBestRiceRow.holds Try.pinned (OpenSpec.ofChange fnExactBestRiceWrong)

/-- 'laws.FnExactCutCoded': WHATEVER THE INPUT: true; the input reads as it did. -/
def fnExactCutCodedSpec : ChangeSpec := { name := "fnExactCutCoded", fn := fun _ => fun
  | [d1, d2] => { results := [.lit (.bool true)], args := [d1, d2] }
  | _ => none }
def fnExactCutCodedRow : OpenClaim := { program := "ytfofkmlohmodeaa", sum := "bbff838d4c6990593ce84664283fed24c230e1c359b9aa205f68e95d8838fb19", func := "loop.example/g01317/laws.FnExactCutCoded", spec := "fnExactCutCoded", apart := false }
def FnExactCutCodedSaid : Prop := fnExactCutCodedRow.holds Try.pinned (OpenSpec.ofChange fnExactCutCodedSpec)

/-- ITS FALSE NEIGHBOUR: 'it returns false'. Refute it at one input. -/
def fnExactCutCodedWrong : ChangeSpec := { name := "fnExactCutCoded", fn := fun _ => fun
  | [d1, d2] => { results := [.lit (.bool false)], args := [d1, d2] }
  | _ => none }
def FnExactCutCodedWrongFalsely : Prop := fnExactCutCodedRow.holds Try.pinned (OpenSpec.ofChange fnExactCutCodedWrong)

/-- 'laws.FnExactPlaneOf': WHATEVER THE INPUT: true; the input reads as it did. -/
def fnExactPlaneOfSpec : ChangeSpec := { name := "fnExactPlaneOf", fn := fun _ => fun
  | [d1, d2] => { results := [.lit (.bool true)], args := [d1, d2] }
  | _ => none }
def fnExactPlaneOfRow : OpenClaim := { program := "ytfofkmlohmodeaa", sum := "bbff838d4c6990593ce84664283fed24c230e1c359b9aa205f68e95d8838fb19", func := "loop.example/g01317/laws.FnExactPlaneOf", spec := "fnExactPlaneOf", apart := false }
def FnExactPlaneOfSaid : Prop := fnExactPlaneOfRow.holds Try.pinned (OpenSpec.ofChange fnExactPlaneOfSpec)

/-- ITS FALSE NEIGHBOUR: 'it returns false'. Refute it at one input. -/
def fnExactPlaneOfWrong : ChangeSpec := { name := "fnExactPlaneOf", fn := fun _ => fun
  | [d1, d2] => { results := [.lit (.bool false)], args := [d1, d2] }
  | _ => none }
def FnExactPlaneOfWrongFalsely : Prop := fnExactPlaneOfRow.holds Try.pinned (OpenSpec.ofChange fnExactPlaneOfWrong)

/-- 'laws.FnExactBitsUntil': WHATEVER THE INPUT: true; the input reads as it did. -/
def fnExactBitsUntilSpec : ChangeSpec := { name := "fnExactBitsUntil", fn := fun _ => fun
  | [d1, d2] => { results := [.lit (.bool true)], args := [d1, d2] }
  | _ => none }
def fnExactBitsUntilRow : OpenClaim := { program := "ytfofkmlohmodeaa", sum := "bbff838d4c6990593ce84664283fed24c230e1c359b9aa205f68e95d8838fb19", func := "loop.example/g01317/laws.FnExactBitsUntil", spec := "fnExactBitsUntil", apart := false }
def FnExactBitsUntilSaid : Prop := fnExactBitsUntilRow.holds Try.pinned (OpenSpec.ofChange fnExactBitsUntilSpec)

/-- ITS FALSE NEIGHBOUR: 'it returns false'. Refute it at one input. -/
def fnExactBitsUntilWrong : ChangeSpec := { name := "fnExactBitsUntil", fn := fun _ => fun
  | [d1, d2] => { results := [.lit (.bool false)], args := [d1, d2] }
  | _ => none }
def FnExactBitsUntilWrongFalsely : Prop := fnExactBitsUntilRow.holds Try.pinned (OpenSpec.ofChange fnExactBitsUntilWrong)

/- THE SECOND FORM. 'bulk': how many values and letters a reading holds, each counted each time it is reached (what is shared counts as often as it is met; a slice's spare places count too). A statement '..UptoSaid' is the law's where the arguments, and the package variables that the reading takes, are together of bulk at most 1048576: NARROWER than '..Said'. Prove '..Said' where nothing that the law and all that it calls make is longer than what came in: it says more and counts as full. Else prove '..UptoSaid'. A law counts once. -/
mutual
def uptoBulk {H : Type} : DataW H → Nat
  | .lit (.string bytes) => bytes.length + 1
  | .lit _ => 1
  | .nil => 1
  | .ptr d => uptoBulk d + 1
  | .slice elems spare => uptoBulkAll elems + uptoBulkAll spare + 1
  | .agg parts => uptoBulkAll parts + 1
  | .iface _ d => uptoBulk d + 1
  | .map entries => uptoBulkEntries entries + 1
  | .held _ => 1
def uptoBulkAll {H : Type} : List (DataW H) → Nat
  | [] => 0
  | d :: r => uptoBulk d + uptoBulkAll r
def uptoBulkEntries {H : Type} : List (Lit × DataW H) → Nat
  | [] => 0
  | x :: r => uptoBulkEntry x + uptoBulkEntries r
def uptoBulkEntry {H : Type} : Lit × DataW H → Nat
  | (.string bytes, d) => bytes.length + uptoBulk d + 1
  | (_, d) => uptoBulk d + 1
 end
def uptoSmall : (H : Type) → List (DataW H) → Bool := fun _ ds => decide (uptoBulkAll ds ≤ 1048576)
def OpenSpec.upto (s : _root_.Go.ChangeSpec) : _root_.Go.OpenSpec := { _root_.Go.OpenSpec.ofChange s with cond := some uptoSmall }

/-- 'laws.FnExactFromZigZag', WHERE WHAT IT READS IS OF BULK AT MOST 1048576: true; the input reads as it did. -/
def fnExactFromZigZagUptoRow : OpenClaim := { program := "ytfofkmlohmodeaa", sum := "bbff838d4c6990593ce84664283fed24c230e1c359b9aa205f68e95d8838fb19", func := "loop.example/g01317/laws.FnExactFromZigZag", spec := "fnExactFromZigZag", apart := false, narrowed := true }
def FnExactFromZigZagUptoSaid : Prop := fnExactFromZigZagUptoRow.holds Try.pinned (OpenSpec.upto fnExactFromZigZagSpec)

/-- 'laws.FnExactZigZag', WHERE WHAT IT READS IS OF BULK AT MOST 1048576: true; the input reads as it did. -/
def fnExactZigZagUptoRow : OpenClaim := { program := "ytfofkmlohmodeaa", sum := "bbff838d4c6990593ce84664283fed24c230e1c359b9aa205f68e95d8838fb19", func := "loop.example/g01317/laws.FnExactZigZag", spec := "fnExactZigZag", apart := false, narrowed := true }
def FnExactZigZagUptoSaid : Prop := fnExactZigZagUptoRow.holds Try.pinned (OpenSpec.upto fnExactZigZagSpec)

/-- 'laws.FnExactBitText', WHERE WHAT IT READS IS OF BULK AT MOST 1048576: true; the input reads as it did. -/
def fnExactBitTextUptoRow : OpenClaim := { program := "ytfofkmlohmodeaa", sum := "bbff838d4c6990593ce84664283fed24c230e1c359b9aa205f68e95d8838fb19", func := "loop.example/g01317/laws.FnExactBitText", spec := "fnExactBitText", apart := false, narrowed := true }
def FnExactBitTextUptoSaid : Prop := fnExactBitTextUptoRow.holds Try.pinned (OpenSpec.upto fnExactBitTextSpec)

/-- 'laws.FnExactValidCoded', WHERE WHAT IT READS IS OF BULK AT MOST 1048576: true; the input reads as it did. -/
def fnExactValidCodedUptoRow : OpenClaim := { program := "ytfofkmlohmodeaa", sum := "bbff838d4c6990593ce84664283fed24c230e1c359b9aa205f68e95d8838fb19", func := "loop.example/g01317/laws.FnExactValidCoded", spec := "fnExactValidCoded", apart := false, narrowed := true }
def FnExactValidCodedUptoSaid : Prop := fnExactValidCodedUptoRow.holds Try.pinned (OpenSpec.upto fnExactValidCodedSpec)

/-- 'laws.FnExactSameCoded', WHERE WHAT IT READS IS OF BULK AT MOST 1048576: true; the input reads as it did. -/
def fnExactSameCodedUptoRow : OpenClaim := { program := "ytfofkmlohmodeaa", sum := "bbff838d4c6990593ce84664283fed24c230e1c359b9aa205f68e95d8838fb19", func := "loop.example/g01317/laws.FnExactSameCoded", spec := "fnExactSameCoded", apart := false, narrowed := true }
def FnExactSameCodedUptoSaid : Prop := fnExactSameCodedUptoRow.holds Try.pinned (OpenSpec.upto fnExactSameCodedSpec)

/-- 'laws.FnExactParentOf', WHERE WHAT IT READS IS OF BULK AT MOST 1048576: true; the input reads as it did. -/
def fnExactParentOfUptoRow : OpenClaim := { program := "ytfofkmlohmodeaa", sum := "bbff838d4c6990593ce84664283fed24c230e1c359b9aa205f68e95d8838fb19", func := "loop.example/g01317/laws.FnExactParentOf", spec := "fnExactParentOf", apart := false, narrowed := true }
def FnExactParentOfUptoSaid : Prop := fnExactParentOfUptoRow.holds Try.pinned (OpenSpec.upto fnExactParentOfSpec)

/-- 'laws.FnExactRiceLong', WHERE WHAT IT READS IS OF BULK AT MOST 1048576: true; the input reads as it did. -/
def fnExactRiceLongUptoRow : OpenClaim := { program := "ytfofkmlohmodeaa", sum := "bbff838d4c6990593ce84664283fed24c230e1c359b9aa205f68e95d8838fb19", func := "loop.example/g01317/laws.FnExactRiceLong", spec := "fnExactRiceLong", apart := false, narrowed := true }
def FnExactRiceLongUptoSaid : Prop := fnExactRiceLongUptoRow.holds Try.pinned (OpenSpec.upto fnExactRiceLongSpec)

/-- 'laws.FnExactPlanesFor', WHERE WHAT IT READS IS OF BULK AT MOST 1048576: true; the input reads as it did. -/
def fnExactPlanesForUptoRow : OpenClaim := { program := "ytfofkmlohmodeaa", sum := "bbff838d4c6990593ce84664283fed24c230e1c359b9aa205f68e95d8838fb19", func := "loop.example/g01317/laws.FnExactPlanesFor", spec := "fnExactPlanesFor", apart := false, narrowed := true }
def FnExactPlanesForUptoSaid : Prop := fnExactPlanesForUptoRow.holds Try.pinned (OpenSpec.upto fnExactPlanesForSpec)

/-- 'laws.FnExactBestRice', WHERE WHAT IT READS IS OF BULK AT MOST 1048576: true; the input reads as it did. -/
def fnExactBestRiceUptoRow : OpenClaim := { program := "ytfofkmlohmodeaa", sum := "bbff838d4c6990593ce84664283fed24c230e1c359b9aa205f68e95d8838fb19", func := "loop.example/g01317/laws.FnExactBestRice", spec := "fnExactBestRice", apart := false, narrowed := true }
def FnExactBestRiceUptoSaid : Prop := fnExactBestRiceUptoRow.holds Try.pinned (OpenSpec.upto fnExactBestRiceSpec)

/-- 'laws.FnExactCutCoded', WHERE WHAT IT READS IS OF BULK AT MOST 1048576: true; the input reads as it did. -/
def fnExactCutCodedUptoRow : OpenClaim := { program := "ytfofkmlohmodeaa", sum := "bbff838d4c6990593ce84664283fed24c230e1c359b9aa205f68e95d8838fb19", func := "loop.example/g01317/laws.FnExactCutCoded", spec := "fnExactCutCoded", apart := false, narrowed := true }
def FnExactCutCodedUptoSaid : Prop := fnExactCutCodedUptoRow.holds Try.pinned (OpenSpec.upto fnExactCutCodedSpec)

/-- 'laws.FnExactPlaneOf', WHERE WHAT IT READS IS OF BULK AT MOST 1048576: true; the input reads as it did. -/
def fnExactPlaneOfUptoRow : OpenClaim := { program := "ytfofkmlohmodeaa", sum := "bbff838d4c6990593ce84664283fed24c230e1c359b9aa205f68e95d8838fb19", func := "loop.example/g01317/laws.FnExactPlaneOf", spec := "fnExactPlaneOf", apart := false, narrowed := true }
def FnExactPlaneOfUptoSaid : Prop := fnExactPlaneOfUptoRow.holds Try.pinned (OpenSpec.upto fnExactPlaneOfSpec)

/-- 'laws.FnExactBitsUntil', WHERE WHAT IT READS IS OF BULK AT MOST 1048576: true; the input reads as it did. -/
def fnExactBitsUntilUptoRow : OpenClaim := { program := "ytfofkmlohmodeaa", sum := "bbff838d4c6990593ce84664283fed24c230e1c359b9aa205f68e95d8838fb19", func := "loop.example/g01317/laws.FnExactBitsUntil", spec := "fnExactBitsUntil", apart := false, narrowed := true }
def FnExactBitsUntilUptoSaid : Prop := fnExactBitsUntilUptoRow.holds Try.pinned (OpenSpec.upto fnExactBitsUntilSpec)

end Rows
end Go.Proofs.Ytfofkmlohmodeaa
