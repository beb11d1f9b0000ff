/-
  No cell of these rows narrows 'for every input' (looked for: loops, veiled, ifaces, maps, wideKeys, modest, calm, conditions, laid).
  DERIVED. THE GIVEN ROWS OF THIS SEAT. 8 by the template 'for every input the law returns true; each argument reads behind the call as it read before'; 0 by the template 'total and deterministic' (their statements: YtghkkclonabpkabTotals.lean).
  GIVEN WITH THE SEED: the statements are not yours to turn. If you find one false, say at which input.
  Laid BY PROGRAM, IN A SANDBOX (cutbox-rows.mjs): the forced cells as the released guide's own fill.sh prints them over the translation 58ae4dd01d484800… (all of the seat's roots in one cut). By AI agents, Wed Nov 11 2026. No macro, syntax, notation, axiom, sorry.
-/
import Derived.Test.YtghkkclonabpkabChecked
import GoSem.Claim
import GoSem.ClaimJoined
import GoSem.ClaimMapViews
import Derived.JoinedTies
import Derived.KernelRfl
namespace Go.Proofs.Ytghkkclonabpkab
/- THE CELL 'sum', in the pinned program and in every row, IS THE sha256 OF THE DUMP (.gsa) THAT YtghkkclonabpkabProg.lean LOADS. Nothing in Lean hashes anything: it is a label: what it is worth is what the hold of that sum in a sandbox is worth. -/
noncomputable def Try.pinned : Pinned := { name := "ytghkkclonabpkab", sum := "58ae4dd01d484800ef457c9afe5f6d611d87e7f5d8bafca0a3974448be8075c7", checked := Try.checked }
namespace Rows
def none {H : Type} : Left H := { results := [], args := [] }

/-- 'laws.FnExactAtomList': WHATEVER THE INPUT: true; the input reads as it did. -/
def fnExactAtomListSpec : ChangeSpec := { name := "fnExactAtomList", fn := fun _ => fun
  | [d1, d2] => { results := [.lit (.bool true)], args := [d1, d2] }
  | _ => none }
def fnExactAtomListRow : OpenClaim := { program := "ytghkkclonabpkab", sum := "58ae4dd01d484800ef457c9afe5f6d611d87e7f5d8bafca0a3974448be8075c7", func := "loop.example/g01317/laws.FnExactAtomList", spec := "fnExactAtomList", inPlace := ["math.archCeil", "math.archFloor", "math.Float64bits", "math.Float64frombits", "math.archTrunc", "math.Float32frombits", "math.sqrt"], apart := false }
def FnExactAtomListSaid : Prop := fnExactAtomListRow.holds Try.pinned (OpenSpec.ofChange fnExactAtomListSpec)

/-- ITS FALSE NEIGHBOUR: 'it returns false'. Refute it at one input. -/
def fnExactAtomListWrong : ChangeSpec := { name := "fnExactAtomList", fn := fun _ => fun
  | [d1, d2] => { results := [.lit (.bool false)], args := [d1, d2] }
  | _ => none }
def FnExactAtomListWrongFalsely : Prop := fnExactAtomListRow.holds Try.pinned (OpenSpec.ofChange fnExactAtomListWrong)

/-- 'laws.FnExactLiftRowsShared': WHATEVER THE INPUT: true; the input reads as it did. -/
def fnExactLiftRowsSharedSpec : ChangeSpec := { name := "fnExactLiftRowsShared", fn := fun _ => fun
  | [d1, d2, d3] => { results := [.lit (.bool true)], args := [d1, d2, d3] }
  | _ => none }
def fnExactLiftRowsSharedRow : OpenClaim := { program := "ytghkkclonabpkab", sum := "58ae4dd01d484800ef457c9afe5f6d611d87e7f5d8bafca0a3974448be8075c7", func := "loop.example/g01317/laws.FnExactLiftRowsShared", spec := "fnExactLiftRowsShared", inPlace := ["(*sync.WaitGroup).Go", "(*sync.WaitGroup).Add", "internal/race.ReleaseMerge", "internal/race.Disable", "internal/race.Enable", "internal/synctest.IsInBubble", "internal/synctest.Associate[sync.WaitGroup]", "sync.fatal", "sync/atomic.OrUint64", "sync/atomic.AddUint64", "internal/race.Read", "sync/atomic.LoadUint64", "sync/atomic.StoreUint64", "internal/synctest.Disassociate[sync.WaitGroup]", "sync.runtime_Semrelease", "(*sync.WaitGroup).Go$1", "(*sync.WaitGroup).Go$1$1", "(*sync.WaitGroup).Done", "(*sync.WaitGroup).Wait", "internal/race.Acquire", "internal/synctest.IsAssociated[sync.WaitGroup]", "sync/atomic.CompareAndSwapUint64", "internal/race.Write", "sync.runtime_SemacquireWaitGroup"], unfollowed := true, recurses := true, leaving := true, apart := false }
def FnExactLiftRowsSharedSaid : Prop := fnExactLiftRowsSharedRow.holds Try.pinned (OpenSpec.ofChange fnExactLiftRowsSharedSpec)

/-- ITS FALSE NEIGHBOUR: 'it returns false'. Refute it at one input. -/
def fnExactLiftRowsSharedWrong : ChangeSpec := { name := "fnExactLiftRowsShared", fn := fun _ => fun
  | [d1, d2, d3] => { results := [.lit (.bool false)], args := [d1, d2, d3] }
  | _ => none }
def FnExactLiftRowsSharedWrongFalsely : Prop := fnExactLiftRowsSharedRow.holds Try.pinned (OpenSpec.ofChange fnExactLiftRowsSharedWrong)

/-- 'laws.FnExactLiftRows': WHATEVER THE INPUT: true; the input reads as it did. -/
def fnExactLiftRowsSpec : ChangeSpec := { name := "fnExactLiftRows", fn := fun _ => fun
  | [d1, d2] => { results := [.lit (.bool true)], args := [d1, d2] }
  | _ => none }
def fnExactLiftRowsRow : OpenClaim := { program := "ytghkkclonabpkab", sum := "58ae4dd01d484800ef457c9afe5f6d611d87e7f5d8bafca0a3974448be8075c7", func := "loop.example/g01317/laws.FnExactLiftRows", spec := "fnExactLiftRows", inPlace := ["(*sync.WaitGroup).Go", "(*sync.WaitGroup).Add", "internal/race.ReleaseMerge", "internal/race.Disable", "internal/race.Enable", "internal/synctest.IsInBubble", "internal/synctest.Associate[sync.WaitGroup]", "sync.fatal", "sync/atomic.OrUint64", "sync/atomic.AddUint64", "internal/race.Read", "sync/atomic.LoadUint64", "sync/atomic.StoreUint64", "internal/synctest.Disassociate[sync.WaitGroup]", "sync.runtime_Semrelease", "(*sync.WaitGroup).Go$1", "(*sync.WaitGroup).Go$1$1", "(*sync.WaitGroup).Done", "(*sync.WaitGroup).Wait", "internal/race.Acquire", "internal/synctest.IsAssociated[sync.WaitGroup]", "sync/atomic.CompareAndSwapUint64", "internal/race.Write", "sync.runtime_SemacquireWaitGroup"], unfollowed := true, recurses := true, leaving := true, apart := false }
def FnExactLiftRowsSaid : Prop := fnExactLiftRowsRow.holds Try.pinned (OpenSpec.ofChange fnExactLiftRowsSpec)

/-- ITS FALSE NEIGHBOUR: 'it returns false'. Refute it at one input. -/
def fnExactLiftRowsWrong : ChangeSpec := { name := "fnExactLiftRows", fn := fun _ => fun
  | [d1, d2] => { results := [.lit (.bool false)], args := [d1, d2] }
  | _ => none }
def FnExactLiftRowsWrongFalsely : Prop := fnExactLiftRowsRow.holds Try.pinned (OpenSpec.ofChange fnExactLiftRowsWrong)

/-- 'laws.FnExactDropRows': WHATEVER THE INPUT: true; the input reads as it did. -/
def fnExactDropRowsSpec : ChangeSpec := { name := "fnExactDropRows", fn := fun _ => fun
  | [d1, d2] => { results := [.lit (.bool true)], args := [d1, d2] }
  | _ => none }
def fnExactDropRowsRow : OpenClaim := { program := "ytghkkclonabpkab", sum := "58ae4dd01d484800ef457c9afe5f6d611d87e7f5d8bafca0a3974448be8075c7", func := "loop.example/g01317/laws.FnExactDropRows", spec := "fnExactDropRows", inPlace := ["(*sync.WaitGroup).Go", "(*sync.WaitGroup).Add", "internal/race.ReleaseMerge", "internal/race.Disable", "internal/race.Enable", "internal/synctest.IsInBubble", "internal/synctest.Associate[sync.WaitGroup]", "sync.fatal", "sync/atomic.OrUint64", "sync/atomic.AddUint64", "internal/race.Read", "sync/atomic.LoadUint64", "sync/atomic.StoreUint64", "internal/synctest.Disassociate[sync.WaitGroup]", "sync.runtime_Semrelease", "(*sync.WaitGroup).Go$1", "(*sync.WaitGroup).Go$1$1", "(*sync.WaitGroup).Done", "(*sync.WaitGroup).Wait", "internal/race.Acquire", "internal/synctest.IsAssociated[sync.WaitGroup]", "sync/atomic.CompareAndSwapUint64", "internal/race.Write", "sync.runtime_SemacquireWaitGroup"], unfollowed := true, recurses := true, leaving := true, apart := false }
def FnExactDropRowsSaid : Prop := fnExactDropRowsRow.holds Try.pinned (OpenSpec.ofChange fnExactDropRowsSpec)

/-- ITS FALSE NEIGHBOUR: 'it returns false'. Refute it at one input. -/
def fnExactDropRowsWrong : ChangeSpec := { name := "fnExactDropRows", fn := fun _ => fun
  | [d1, d2] => { results := [.lit (.bool false)], args := [d1, d2] }
  | _ => none }
def FnExactDropRowsWrongFalsely : Prop := fnExactDropRowsRow.holds Try.pinned (OpenSpec.ofChange fnExactDropRowsWrong)

/-- 'laws.FnExactBreaksOf': WHATEVER THE INPUT: true; the input reads as it did. -/
def fnExactBreaksOfSpec : ChangeSpec := { name := "fnExactBreaksOf", fn := fun _ => fun
  | [d1, d2, d3] => { results := [.lit (.bool true)], args := [d1, d2, d3] }
  | _ => none }
def fnExactBreaksOfRow : OpenClaim := { program := "ytghkkclonabpkab", sum := "58ae4dd01d484800ef457c9afe5f6d611d87e7f5d8bafca0a3974448be8075c7", func := "loop.example/g01317/laws.FnExactBreaksOf", spec := "fnExactBreaksOf", recurses := true, apart := false }
def FnExactBreaksOfSaid : Prop := fnExactBreaksOfRow.holds Try.pinned (OpenSpec.ofChange fnExactBreaksOfSpec)

/-- ITS FALSE NEIGHBOUR: 'it returns false'. Refute it at one input. -/
def fnExactBreaksOfWrong : ChangeSpec := { name := "fnExactBreaksOf", fn := fun _ => fun
  | [d1, d2, d3] => { results := [.lit (.bool false)], args := [d1, d2, d3] }
  | _ => none }
def FnExactBreaksOfWrongFalsely : Prop := fnExactBreaksOfRow.holds Try.pinned (OpenSpec.ofChange fnExactBreaksOfWrong)

/-- 'laws.FnExactFromAtoms': WHATEVER THE INPUT: true; the input reads as it did. -/
def fnExactFromAtomsSpec : ChangeSpec := { name := "fnExactFromAtoms", fn := fun _ => fun
  | [d1, d2] => { results := [.lit (.bool true)], args := [d1, d2] }
  | _ => none }
def fnExactFromAtomsRow : OpenClaim := { program := "ytghkkclonabpkab", sum := "58ae4dd01d484800ef457c9afe5f6d611d87e7f5d8bafca0a3974448be8075c7", func := "loop.example/g01317/laws.FnExactFromAtoms", spec := "fnExactFromAtoms", inPlace := ["math.archCeil", "math.archFloor", "math.Float64bits", "math.Float64frombits", "math.archTrunc", "math.Float32frombits", "math.sqrt"], apart := false }
def FnExactFromAtomsSaid : Prop := fnExactFromAtomsRow.holds Try.pinned (OpenSpec.ofChange fnExactFromAtomsSpec)

/-- ITS FALSE NEIGHBOUR: 'it returns false'. Refute it at one input. -/
def fnExactFromAtomsWrong : ChangeSpec := { name := "fnExactFromAtoms", fn := fun _ => fun
  | [d1, d2] => { results := [.lit (.bool false)], args := [d1, d2] }
  | _ => none }
def FnExactFromAtomsWrongFalsely : Prop := fnExactFromAtomsRow.holds Try.pinned (OpenSpec.ofChange fnExactFromAtomsWrong)

/-- 'laws.FnExactPursueOnce': WHATEVER THE INPUT: true; the input reads as it did. -/
def fnExactPursueOnceSpec : ChangeSpec := { name := "fnExactPursueOnce", fn := fun _ => fun
  | [d1, d2] => { results := [.lit (.bool true)], args := [d1, d2] }
  | _ => none }
def fnExactPursueOnceRow : OpenClaim := { program := "ytghkkclonabpkab", sum := "58ae4dd01d484800ef457c9afe5f6d611d87e7f5d8bafca0a3974448be8075c7", func := "loop.example/g01317/laws.FnExactPursueOnce", spec := "fnExactPursueOnce", inPlace := ["math.archCeil", "math.archFloor", "math.Float64bits", "math.Float64frombits", "math.archTrunc", "math.Float32frombits", "math.sqrt"], apart := false }
def FnExactPursueOnceSaid : Prop := fnExactPursueOnceRow.holds Try.pinned (OpenSpec.ofChange fnExactPursueOnceSpec)

/-- ITS FALSE NEIGHBOUR: 'it returns false'. Refute it at one input. -/
def fnExactPursueOnceWrong : ChangeSpec := { name := "fnExactPursueOnce", fn := fun _ => fun
  | [d1, d2] => { results := [.lit (.bool false)], args := [d1, d2] }
  | _ => none }
def FnExactPursueOnceWrongFalsely : Prop := fnExactPursueOnceRow.holds Try.pinned (OpenSpec.ofChange fnExactPursueOnceWrong)

/-- 'laws.FnExactPursue': WHATEVER THE INPUT: true; the input reads as it did. -/
def fnExactPursueSpec : ChangeSpec := { name := "fnExactPursue", fn := fun _ => fun
  | [d1, d2, d3] => { results := [.lit (.bool true)], args := [d1, d2, d3] }
  | _ => none }
def fnExactPursueRow : OpenClaim := { program := "ytghkkclonabpkab", sum := "58ae4dd01d484800ef457c9afe5f6d611d87e7f5d8bafca0a3974448be8075c7", func := "loop.example/g01317/laws.FnExactPursue", spec := "fnExactPursue", inPlace := ["math.archCeil", "math.archFloor", "math.Float64bits", "math.Float64frombits", "math.archTrunc", "math.Float32frombits", "math.sqrt"], apart := false }
def FnExactPursueSaid : Prop := fnExactPursueRow.holds Try.pinned (OpenSpec.ofChange fnExactPursueSpec)

/-- ITS FALSE NEIGHBOUR: 'it returns false'. Refute it at one input. -/
def fnExactPursueWrong : ChangeSpec := { name := "fnExactPursue", fn := fun _ => fun
  | [d1, d2, d3] => { results := [.lit (.bool false)], args := [d1, d2, d3] }
  | _ => none }
def FnExactPursueWrongFalsely : Prop := fnExactPursueRow.holds Try.pinned (OpenSpec.ofChange fnExactPursueWrong)

/- THE SECOND FORM. 'bulk': how many values and letters a reading holds, each counted each time it is reached (what is shared counts as often as it is met; a slice's spare places count too). A statement '..UptoSaid' is the law's where the arguments, and the package variables that the reading takes, are together of bulk at most 1048576: NARROWER than '..Said'. Prove '..Said' where nothing that the law and all that it calls make is longer than what came in: it says more and counts as full. Else prove '..UptoSaid'. A law counts once. -/
mutual
def uptoBulk {H : Type} : DataW H → Nat
  | .lit (.string bytes) => bytes.length + 1
  | .lit _ => 1
  | .nil => 1
  | .ptr d => uptoBulk d + 1
  | .slice elems spare => uptoBulkAll elems + uptoBulkAll spare + 1
  | .agg parts => uptoBulkAll parts + 1
  | .iface _ d => uptoBulk d + 1
  | .map entries => uptoBulkEntries entries + 1
  | .held _ => 1
def uptoBulkAll {H : Type} : List (DataW H) → Nat
  | [] => 0
  | d :: r => uptoBulk d + uptoBulkAll r
def uptoBulkEntries {H : Type} : List (Lit × DataW H) → Nat
  | [] => 0
  | x :: r => uptoBulkEntry x + uptoBulkEntries r
def uptoBulkEntry {H : Type} : Lit × DataW H → Nat
  | (.string bytes, d) => bytes.length + uptoBulk d + 1
  | (_, d) => uptoBulk d + 1
 end
def uptoSmall : (H : Type) → List (DataW H) → Bool := fun _ ds => decide (uptoBulkAll ds ≤ 1048576)
def OpenSpec.upto (s : _root_.Go.ChangeSpec) : _root_.Go.OpenSpec := { _root_.Go.OpenSpec.ofChange s with cond := some uptoSmall }

/-- 'laws.FnExactAtomList', WHERE WHAT IT READS IS OF BULK AT MOST 1048576: true; the input reads as it did. -/
def fnExactAtomListUptoRow : OpenClaim := { program := "ytghkkclonabpkab", sum := "58ae4dd01d484800ef457c9afe5f6d611d87e7f5d8bafca0a3974448be8075c7", func := "loop.example/g01317/laws.FnExactAtomList", spec := "fnExactAtomList", inPlace := ["math.archCeil", "math.archFloor", "math.Float64bits", "math.Float64frombits", "math.archTrunc", "math.Float32frombits", "math.sqrt"], apart := false, narrowed := true }
def FnExactAtomListUptoSaid : Prop := fnExactAtomListUptoRow.holds Try.pinned (OpenSpec.upto fnExactAtomListSpec)

/-- 'laws.FnExactLiftRowsShared', WHERE WHAT IT READS IS OF BULK AT MOST 1048576: true; the input reads as it did. -/
def fnExactLiftRowsSharedUptoRow : OpenClaim := { program := "ytghkkclonabpkab", sum := "58ae4dd01d484800ef457c9afe5f6d611d87e7f5d8bafca0a3974448be8075c7", func := "loop.example/g01317/laws.FnExactLiftRowsShared", spec := "fnExactLiftRowsShared", inPlace := ["(*sync.WaitGroup).Go", "(*sync.WaitGroup).Add", "internal/race.ReleaseMerge", "internal/race.Disable", "internal/race.Enable", "internal/synctest.IsInBubble", "internal/synctest.Associate[sync.WaitGroup]", "sync.fatal", "sync/atomic.OrUint64", "sync/atomic.AddUint64", "internal/race.Read", "sync/atomic.LoadUint64", "sync/atomic.StoreUint64", "internal/synctest.Disassociate[sync.WaitGroup]", "sync.runtime_Semrelease", "(*sync.WaitGroup).Go$1", "(*sync.WaitGroup).Go$1$1", "(*sync.WaitGroup).Done", "(*sync.WaitGroup).Wait", "internal/race.Acquire", "internal/synctest.IsAssociated[sync.WaitGroup]", "sync/atomic.CompareAndSwapUint64", "internal/race.Write", "sync.runtime_SemacquireWaitGroup"], unfollowed := true, recurses := true, leaving := true, apart := false, narrowed := true }
def FnExactLiftRowsSharedUptoSaid : Prop := fnExactLiftRowsSharedUptoRow.holds Try.pinned (OpenSpec.upto fnExactLiftRowsSharedSpec)

/-- 'laws.FnExactLiftRows', WHERE WHAT IT READS IS OF BULK AT MOST 1048576: true; the input reads as it did. -/
def fnExactLiftRowsUptoRow : OpenClaim := { program := "ytghkkclonabpkab", sum := "58ae4dd01d484800ef457c9afe5f6d611d87e7f5d8bafca0a3974448be8075c7", func := "loop.example/g01317/laws.FnExactLiftRows", spec := "fnExactLiftRows", inPlace := ["(*sync.WaitGroup).Go", "(*sync.WaitGroup).Add", "internal/race.ReleaseMerge", "internal/race.Disable", "internal/race.Enable", "internal/synctest.IsInBubble", "internal/synctest.Associate[sync.WaitGroup]", "sync.fatal", "sync/atomic.OrUint64", "sync/atomic.AddUint64", "internal/race.Read", "sync/atomic.LoadUint64", "sync/atomic.StoreUint64", "internal/synctest.Disassociate[sync.WaitGroup]", "sync.runtime_Semrelease", "(*sync.WaitGroup).Go$1", "(*sync.WaitGroup).Go$1$1", "(*sync.WaitGroup).Done", "(*sync.WaitGroup).Wait", "internal/race.Acquire", "internal/synctest.IsAssociated[sync.WaitGroup]", "sync/atomic.CompareAndSwapUint64", "internal/race.Write", "sync.runtime_SemacquireWaitGroup"], unfollowed := true, recurses := true, leaving := true, apart := false, narrowed := true }
def FnExactLiftRowsUptoSaid : Prop := fnExactLiftRowsUptoRow.holds Try.pinned (OpenSpec.upto fnExactLiftRowsSpec)

/-- 'laws.FnExactDropRows', WHERE WHAT IT READS IS OF BULK AT MOST 1048576: true; the input reads as it did. -/
def fnExactDropRowsUptoRow : OpenClaim := { program := "ytghkkclonabpkab", sum := "58ae4dd01d484800ef457c9afe5f6d611d87e7f5d8bafca0a3974448be8075c7", func := "loop.example/g01317/laws.FnExactDropRows", spec := "fnExactDropRows", inPlace := ["(*sync.WaitGroup).Go", "(*sync.WaitGroup).Add", "internal/race.ReleaseMerge", "internal/race.Disable", "internal/race.Enable", "internal/synctest.IsInBubble", "internal/synctest.Associate[sync.WaitGroup]", "sync.fatal", "sync/atomic.OrUint64", "sync/atomic.AddUint64", "internal/race.Read", "sync/atomic.LoadUint64", "sync/atomic.StoreUint64", "internal/synctest.Disassociate[sync.WaitGroup]", "sync.runtime_Semrelease", "(*sync.WaitGroup).Go$1", "(*sync.WaitGroup).Go$1$1", "(*sync.WaitGroup).Done", "(*sync.WaitGroup).Wait", "internal/race.Acquire", "internal/synctest.IsAssociated[sync.WaitGroup]", "sync/atomic.CompareAndSwapUint64", "internal/race.Write", "sync.runtime_SemacquireWaitGroup"], unfollowed := true, recurses := true, leaving := true, apart := false, narrowed := true }
def FnExactDropRowsUptoSaid : Prop := fnExactDropRowsUptoRow.holds Try.pinned (OpenSpec.upto fnExactDropRowsSpec)

/-- 'laws.FnExactBreaksOf', WHERE WHAT IT READS IS OF BULK AT MOST 1048576: true; the input reads as it did. -/
def fnExactBreaksOfUptoRow : OpenClaim := { program := "ytghkkclonabpkab", sum := "58ae4dd01d484800ef457c9afe5f6d611d87e7f5d8bafca0a3974448be8075c7", func := "loop.example/g01317/laws.FnExactBreaksOf", spec := "fnExactBreaksOf", recurses := true, apart := false, narrowed := true }
def FnExactBreaksOfUptoSaid : Prop := fnExactBreaksOfUptoRow.holds Try.pinned (OpenSpec.upto fnExactBreaksOfSpec)

/-- 'laws.FnExactFromAtoms', WHERE WHAT IT READS IS OF BULK AT MOST 1048576: true; the input reads as it did. -/
def fnExactFromAtomsUptoRow : OpenClaim := { program := "ytghkkclonabpkab", sum := "58ae4dd01d484800ef457c9afe5f6d611d87e7f5d8bafca0a3974448be8075c7", func := "loop.example/g01317/laws.FnExactFromAtoms", spec := "fnExactFromAtoms", inPlace := ["math.archCeil", "math.archFloor", "math.Float64bits", "math.Float64frombits", "math.archTrunc", "math.Float32frombits", "math.sqrt"], apart := false, narrowed := true }
def FnExactFromAtomsUptoSaid : Prop := fnExactFromAtomsUptoRow.holds Try.pinned (OpenSpec.upto fnExactFromAtomsSpec)

/-- 'laws.FnExactPursueOnce', WHERE WHAT IT READS IS OF BULK AT MOST 1048576: true; the input reads as it did. -/
def fnExactPursueOnceUptoRow : OpenClaim := { program := "ytghkkclonabpkab", sum := "58ae4dd01d484800ef457c9afe5f6d611d87e7f5d8bafca0a3974448be8075c7", func := "loop.example/g01317/laws.FnExactPursueOnce", spec := "fnExactPursueOnce", inPlace := ["math.archCeil", "math.archFloor", "math.Float64bits", "math.Float64frombits", "math.archTrunc", "math.Float32frombits", "math.sqrt"], apart := false, narrowed := true }
def FnExactPursueOnceUptoSaid : Prop := fnExactPursueOnceUptoRow.holds Try.pinned (OpenSpec.upto fnExactPursueOnceSpec)

/-- 'laws.FnExactPursue', WHERE WHAT IT READS IS OF BULK AT MOST 1048576: true; the input reads as it did. -/
def fnExactPursueUptoRow : OpenClaim := { program := "ytghkkclonabpkab", sum := "58ae4dd01d484800ef457c9afe5f6d611d87e7f5d8bafca0a3974448be8075c7", func := "loop.example/g01317/laws.FnExactPursue", spec := "fnExactPursue", inPlace := ["math.archCeil", "math.archFloor", "math.Float64bits", "math.Float64frombits", "math.archTrunc", "math.Float32frombits", "math.sqrt"], apart := false, narrowed := true }
def FnExactPursueUptoSaid : Prop := fnExactPursueUptoRow.holds Try.pinned (OpenSpec.upto fnExactPursueSpec)

end Rows
end Go.Proofs.Ytghkkclonabpkab
