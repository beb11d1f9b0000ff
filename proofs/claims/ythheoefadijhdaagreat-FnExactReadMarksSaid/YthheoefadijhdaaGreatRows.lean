/-
  No cell of these rows narrows 'for every input' (looked for: loops, veiled, ifaces, maps, wideKeys, modest, calm, conditions, laid).
  DERIVED. THE GIVEN ROWS OF THIS SEAT. 6 by the template 'for every input the law returns true; each argument reads behind the call as it read before'; 0 by the template 'total and deterministic' (their statements: YthheoefadijhdaaGreatTotals.lean).
  GIVEN WITH THE SEED: the statements are not yours to turn. If you find one false, say at which input.
  Laid BY PROGRAM, IN A SANDBOX (cutbox-rows.mjs): the forced cells as the released guide's own fill.sh prints them over the translation e66588495fd273f6… (all of the seat's roots in one cut). By AI agents, Wed Nov 11 2026. No macro, syntax, notation, axiom, sorry.
-/
import Derived.Test.YthheoefadijhdaaGreatChecked
import GoSem.Claim
import GoSem.ClaimJoined
import GoSem.ClaimMapViews
import Derived.JoinedTies
import Derived.KernelRfl
namespace Go.Proofs.YthheoefadijhdaaGreat
/- THE CELL 'sum', in the pinned program and in every row, IS THE sha256 OF THE DUMP (.gsa) THAT YthheoefadijhdaaGreatProg.lean LOADS. Nothing in Lean hashes anything: it is a label: what it is worth is what the hold of that sum in a sandbox is worth. -/
noncomputable def Tryz.pinned : Pinned := { name := "ythheoefadijhdaagreat", sum := "e66588495fd273f6f86d820d6a850f52bcb6ef21a8de4ffc14632775f588695e", checked := Tryz.checked }
namespace Rows
def none {H : Type} : Left H := { results := [], args := [] }

/-- 'laws.FnExactDropPicture': WHATEVER THE INPUT: true; the input reads as it did. -/
def fnExactDropPictureSpec : ChangeSpec := { name := "fnExactDropPicture", fn := fun _ => fun
  | [d1, d2, d3] => { results := [.lit (.bool true)], args := [d1, d2, d3] }
  | _ => none }
def fnExactDropPictureRow : OpenClaim := { program := "ythheoefadijhdaagreat", sum := "e66588495fd273f6f86d820d6a850f52bcb6ef21a8de4ffc14632775f588695e", func := "loop.example/g01317/laws.FnExactDropPicture", spec := "fnExactDropPicture", inPlace := ["(*sync.WaitGroup).Go", "(*sync.WaitGroup).Add", "internal/race.ReleaseMerge", "internal/race.Disable", "internal/race.Enable", "internal/synctest.IsInBubble", "internal/synctest.Associate[sync.WaitGroup]", "sync.fatal", "sync/atomic.OrUint64", "sync/atomic.AddUint64", "internal/race.Read", "sync/atomic.LoadUint64", "sync/atomic.StoreUint64", "internal/synctest.Disassociate[sync.WaitGroup]", "sync.runtime_Semrelease", "(*sync.WaitGroup).Go$1", "(*sync.WaitGroup).Go$1$1", "(*sync.WaitGroup).Done", "(*sync.WaitGroup).Wait", "internal/race.Acquire", "internal/synctest.IsAssociated[sync.WaitGroup]", "sync/atomic.CompareAndSwapUint64", "internal/race.Write", "sync.runtime_SemacquireWaitGroup"], unfollowed := true, recurses := true, leaving := true, apart := false }
def FnExactDropPictureSaid : Prop := fnExactDropPictureRow.holds Tryz.pinned (OpenSpec.ofChange fnExactDropPictureSpec)

/-- ITS FALSE NEIGHBOUR: 'it returns false'. Refute it at one input. -/
def fnExactDropPictureWrong : ChangeSpec := { name := "fnExactDropPicture", fn := fun _ => fun
  | [d1, d2, d3] => { results := [.lit (.bool false)], args := [d1, d2, d3] }
  | _ => none }
def FnExactDropPictureWrongFalsely : Prop := fnExactDropPictureRow.holds Tryz.pinned (OpenSpec.ofChange fnExactDropPictureWrong)

/-- 'laws.FnExactLiftPicture': WHATEVER THE INPUT: true; the input reads as it did. -/
def fnExactLiftPictureSpec : ChangeSpec := { name := "fnExactLiftPicture", fn := fun _ => fun
  | [d1, d2, d3] => { results := [.lit (.bool true)], args := [d1, d2, d3] }
  | _ => none }
def fnExactLiftPictureRow : OpenClaim := { program := "ythheoefadijhdaagreat", sum := "e66588495fd273f6f86d820d6a850f52bcb6ef21a8de4ffc14632775f588695e", func := "loop.example/g01317/laws.FnExactLiftPicture", spec := "fnExactLiftPicture", inPlace := ["(*sync.WaitGroup).Go", "(*sync.WaitGroup).Add", "internal/race.ReleaseMerge", "internal/race.Disable", "internal/race.Enable", "internal/synctest.IsInBubble", "internal/synctest.Associate[sync.WaitGroup]", "sync.fatal", "sync/atomic.OrUint64", "sync/atomic.AddUint64", "internal/race.Read", "sync/atomic.LoadUint64", "sync/atomic.StoreUint64", "internal/synctest.Disassociate[sync.WaitGroup]", "sync.runtime_Semrelease", "(*sync.WaitGroup).Go$1", "(*sync.WaitGroup).Go$1$1", "(*sync.WaitGroup).Done", "(*sync.WaitGroup).Wait", "internal/race.Acquire", "internal/synctest.IsAssociated[sync.WaitGroup]", "sync/atomic.CompareAndSwapUint64", "internal/race.Write", "sync.runtime_SemacquireWaitGroup"], unfollowed := true, recurses := true, leaving := true, apart := false }
def FnExactLiftPictureSaid : Prop := fnExactLiftPictureRow.holds Tryz.pinned (OpenSpec.ofChange fnExactLiftPictureSpec)

/-- ITS FALSE NEIGHBOUR: 'it returns false'. Refute it at one input. -/
def fnExactLiftPictureWrong : ChangeSpec := { name := "fnExactLiftPicture", fn := fun _ => fun
  | [d1, d2, d3] => { results := [.lit (.bool false)], args := [d1, d2, d3] }
  | _ => none }
def FnExactLiftPictureWrongFalsely : Prop := fnExactLiftPictureRow.holds Tryz.pinned (OpenSpec.ofChange fnExactLiftPictureWrong)

/-- 'laws.FnBandsDown': WHATEVER THE INPUT: true; the input reads as it did. -/
def fnBandsDownSpec : ChangeSpec := { name := "fnBandsDown", fn := fun _ => fun
  | [d1, d2] => { results := [.lit (.bool true)], args := [d1, d2] }
  | _ => none }
def fnBandsDownRow : OpenClaim := { program := "ythheoefadijhdaagreat", sum := "e66588495fd273f6f86d820d6a850f52bcb6ef21a8de4ffc14632775f588695e", func := "loop.example/g01317/laws.FnBandsDown", spec := "fnBandsDown", inPlace := ["(*sync.WaitGroup).Go", "(*sync.WaitGroup).Add", "internal/race.ReleaseMerge", "internal/race.Disable", "internal/race.Enable", "internal/synctest.IsInBubble", "internal/synctest.Associate[sync.WaitGroup]", "sync.fatal", "sync/atomic.OrUint64", "sync/atomic.AddUint64", "internal/race.Read", "sync/atomic.LoadUint64", "sync/atomic.StoreUint64", "internal/synctest.Disassociate[sync.WaitGroup]", "sync.runtime_Semrelease", "(*sync.WaitGroup).Go$1", "(*sync.WaitGroup).Go$1$1", "(*sync.WaitGroup).Done", "(*sync.WaitGroup).Wait", "internal/race.Acquire", "internal/synctest.IsAssociated[sync.WaitGroup]", "sync/atomic.CompareAndSwapUint64", "internal/race.Write", "sync.runtime_SemacquireWaitGroup", "math.sqrt", "math.Float64bits"], unfollowed := true, recurses := true, leaving := true, apart := false }
def FnBandsDownSaid : Prop := fnBandsDownRow.holds Tryz.pinned (OpenSpec.ofChange fnBandsDownSpec)

/-- ITS FALSE NEIGHBOUR: 'it returns false'. Refute it at one input. -/
def fnBandsDownWrong : ChangeSpec := { name := "fnBandsDown", fn := fun _ => fun
  | [d1, d2] => { results := [.lit (.bool false)], args := [d1, d2] }
  | _ => none }
def FnBandsDownWrongFalsely : Prop := fnBandsDownRow.holds Tryz.pinned (OpenSpec.ofChange fnBandsDownWrong)

/-- 'laws.FnExactThumbOf': WHATEVER THE INPUT: true; the input reads as it did. -/
def fnExactThumbOfSpec : ChangeSpec := { name := "fnExactThumbOf", fn := fun _ => fun
  | [d1, d2, d3] => { results := [.lit (.bool true)], args := [d1, d2, d3] }
  | _ => none }
def fnExactThumbOfRow : OpenClaim := { program := "ythheoefadijhdaagreat", sum := "e66588495fd273f6f86d820d6a850f52bcb6ef21a8de4ffc14632775f588695e", func := "loop.example/g01317/laws.FnExactThumbOf", spec := "fnExactThumbOf", inPlace := ["(*sync.WaitGroup).Go", "(*sync.WaitGroup).Add", "internal/race.ReleaseMerge", "internal/race.Disable", "internal/race.Enable", "internal/synctest.IsInBubble", "internal/synctest.Associate[sync.WaitGroup]", "sync.fatal", "sync/atomic.OrUint64", "sync/atomic.AddUint64", "internal/race.Read", "sync/atomic.LoadUint64", "sync/atomic.StoreUint64", "internal/synctest.Disassociate[sync.WaitGroup]", "sync.runtime_Semrelease", "(*sync.WaitGroup).Go$1", "(*sync.WaitGroup).Go$1$1", "(*sync.WaitGroup).Done", "(*sync.WaitGroup).Wait", "internal/race.Acquire", "internal/synctest.IsAssociated[sync.WaitGroup]", "sync/atomic.CompareAndSwapUint64", "internal/race.Write", "sync.runtime_SemacquireWaitGroup"], unfollowed := true, recurses := true, leaving := true, apart := false }
def FnExactThumbOfSaid : Prop := fnExactThumbOfRow.holds Tryz.pinned (OpenSpec.ofChange fnExactThumbOfSpec)

/-- ITS FALSE NEIGHBOUR: 'it returns false'. Refute it at one input. -/
def fnExactThumbOfWrong : ChangeSpec := { name := "fnExactThumbOf", fn := fun _ => fun
  | [d1, d2, d3] => { results := [.lit (.bool false)], args := [d1, d2, d3] }
  | _ => none }
def FnExactThumbOfWrongFalsely : Prop := fnExactThumbOfRow.holds Tryz.pinned (OpenSpec.ofChange fnExactThumbOfWrong)

/-- 'laws.FnExactReadMarks': WHATEVER THE INPUT: true; the input reads as it did. -/
def fnExactReadMarksSpec : ChangeSpec := { name := "fnExactReadMarks", fn := fun _ => fun
  | [d1, d2, d3, d4] => { results := [.lit (.bool true)], args := [d1, d2, d3, d4] }
  | _ => none }
def fnExactReadMarksRow : OpenClaim := { program := "ythheoefadijhdaagreat", sum := "e66588495fd273f6f86d820d6a850f52bcb6ef21a8de4ffc14632775f588695e", func := "loop.example/g01317/laws.FnExactReadMarks", spec := "fnExactReadMarks", inPlace := ["math.archFloor", "math.Float64bits", "math.Float64frombits", "math.archTrunc", "(*sync.WaitGroup).Go", "(*sync.WaitGroup).Add", "internal/race.ReleaseMerge", "internal/race.Disable", "internal/race.Enable", "internal/synctest.IsInBubble", "internal/synctest.Associate[sync.WaitGroup]", "sync.fatal", "sync/atomic.OrUint64", "sync/atomic.AddUint64", "internal/race.Read", "sync/atomic.LoadUint64", "sync/atomic.StoreUint64", "internal/synctest.Disassociate[sync.WaitGroup]", "sync.runtime_Semrelease", "(*sync.WaitGroup).Go$1", "(*sync.WaitGroup).Go$1$1", "(*sync.WaitGroup).Done", "(*sync.WaitGroup).Wait", "internal/race.Acquire", "internal/synctest.IsAssociated[sync.WaitGroup]", "sync/atomic.CompareAndSwapUint64", "internal/race.Write", "sync.runtime_SemacquireWaitGroup"], unfollowed := true, recurses := true, leaving := true, apart := false }
def FnExactReadMarksSaid : Prop := fnExactReadMarksRow.holds Tryz.pinned (OpenSpec.ofChange fnExactReadMarksSpec)

/-- ITS FALSE NEIGHBOUR: 'it returns false'. Refute it at one input. -/
def fnExactReadMarksWrong : ChangeSpec := { name := "fnExactReadMarks", fn := fun _ => fun
  | [d1, d2, d3, d4] => { results := [.lit (.bool false)], args := [d1, d2, d3, d4] }
  | _ => none }
def FnExactReadMarksWrongFalsely : Prop := fnExactReadMarksRow.holds Tryz.pinned (OpenSpec.ofChange fnExactReadMarksWrong)

/-- 'laws.FnExactFusePictures': WHATEVER THE INPUT: true; the input reads as it did. -/
def fnExactFusePicturesSpec : ChangeSpec := { name := "fnExactFusePictures", fn := fun _ => fun
  | [d1, d2, d3, d4] => { results := [.lit (.bool true)], args := [d1, d2, d3, d4] }
  | _ => none }
def fnExactFusePicturesRow : OpenClaim := { program := "ythheoefadijhdaagreat", sum := "e66588495fd273f6f86d820d6a850f52bcb6ef21a8de4ffc14632775f588695e", func := "loop.example/g01317/laws.FnExactFusePictures", spec := "fnExactFusePictures", inPlace := ["(*sync.WaitGroup).Go", "(*sync.WaitGroup).Add", "internal/race.ReleaseMerge", "internal/race.Disable", "internal/race.Enable", "internal/synctest.IsInBubble", "internal/synctest.Associate[sync.WaitGroup]", "sync.fatal", "sync/atomic.OrUint64", "sync/atomic.AddUint64", "internal/race.Read", "sync/atomic.LoadUint64", "sync/atomic.StoreUint64", "internal/synctest.Disassociate[sync.WaitGroup]", "sync.runtime_Semrelease", "(*sync.WaitGroup).Go$1", "(*sync.WaitGroup).Go$1$1", "(*sync.WaitGroup).Done", "(*sync.WaitGroup).Wait", "internal/race.Acquire", "internal/synctest.IsAssociated[sync.WaitGroup]", "sync/atomic.CompareAndSwapUint64", "internal/race.Write", "sync.runtime_SemacquireWaitGroup"], unfollowed := true, recurses := true, leaving := true, apart := false }
def FnExactFusePicturesSaid : Prop := fnExactFusePicturesRow.holds Tryz.pinned (OpenSpec.ofChange fnExactFusePicturesSpec)

/-- ITS FALSE NEIGHBOUR: 'it returns false'. Refute it at one input. -/
def fnExactFusePicturesWrong : ChangeSpec := { name := "fnExactFusePictures", fn := fun _ => fun
  | [d1, d2, d3, d4] => { results := [.lit (.bool false)], args := [d1, d2, d3, d4] }
  | _ => none }
def FnExactFusePicturesWrongFalsely : Prop := fnExactFusePicturesRow.holds Tryz.pinned (OpenSpec.ofChange fnExactFusePicturesWrong)

/- THE SECOND FORM. 'bulk': how many values and letters a reading holds, each counted each time it is reached (what is shared counts as often as it is met; a slice's spare places count too). A statement '..UptoSaid' is the law's where the arguments, and the package variables that the reading takes, are together of bulk at most 1048576: NARROWER than '..Said'. Prove '..Said' where nothing that the law and all that it calls make is longer than what came in: it says more and counts as full. Else prove '..UptoSaid'. A law counts once. -/
mutual
def uptoBulk {H : Type} : DataW H → Nat
  | .lit (.string bytes) => bytes.length + 1
  | .lit _ => 1
  | .nil => 1
  | .ptr d => uptoBulk d + 1
  | .slice elems spare => uptoBulkAll elems + uptoBulkAll spare + 1
  | .agg parts => uptoBulkAll parts + 1
  | .iface _ d => uptoBulk d + 1
  | .map entries => uptoBulkEntries entries + 1
  | .held _ => 1
def uptoBulkAll {H : Type} : List (DataW H) → Nat
  | [] => 0
  | d :: r => uptoBulk d + uptoBulkAll r
def uptoBulkEntries {H : Type} : List (Lit × DataW H) → Nat
  | [] => 0
  | x :: r => uptoBulkEntry x + uptoBulkEntries r
def uptoBulkEntry {H : Type} : Lit × DataW H → Nat
  | (.string bytes, d) => bytes.length + uptoBulk d + 1
  | (_, d) => uptoBulk d + 1
 end
def uptoSmall : (H : Type) → List (DataW H) → Bool := fun _ ds => decide (uptoBulkAll ds ≤ 1048576)
def OpenSpec.upto (s : _root_.Go.ChangeSpec) : _root_.Go.OpenSpec := { _root_.Go.OpenSpec.ofChange s with cond := some uptoSmall }

/-- 'laws.FnExactDropPicture', WHERE WHAT IT READS IS OF BULK AT MOST 1048576: true; the input reads as it did. -/
def fnExactDropPictureUptoRow : OpenClaim := { program := "ythheoefadijhdaagreat", sum := "e66588495fd273f6f86d820d6a850f52bcb6ef21a8de4ffc14632775f588695e", func := "loop.example/g01317/laws.FnExactDropPicture", spec := "fnExactDropPicture", inPlace := ["(*sync.WaitGroup).Go", "(*sync.WaitGroup).Add", "internal/race.ReleaseMerge", "internal/race.Disable", "internal/race.Enable", "internal/synctest.IsInBubble", "internal/synctest.Associate[sync.WaitGroup]", "sync.fatal", "sync/atomic.OrUint64", "sync/atomic.AddUint64", "internal/race.Read", "sync/atomic.LoadUint64", "sync/atomic.StoreUint64", "internal/synctest.Disassociate[sync.WaitGroup]", "sync.runtime_Semrelease", "(*sync.WaitGroup).Go$1", "(*sync.WaitGroup).Go$1$1", "(*sync.WaitGroup).Done", "(*sync.WaitGroup).Wait", "internal/race.Acquire", "internal/synctest.IsAssociated[sync.WaitGroup]", "sync/atomic.CompareAndSwapUint64", "internal/race.Write", "sync.runtime_SemacquireWaitGroup"], unfollowed := true, recurses := true, leaving := true, apart := false, narrowed := true }
def FnExactDropPictureUptoSaid : Prop := fnExactDropPictureUptoRow.holds Tryz.pinned (OpenSpec.upto fnExactDropPictureSpec)

/-- 'laws.FnExactLiftPicture', WHERE WHAT IT READS IS OF BULK AT MOST 1048576: true; the input reads as it did. -/
def fnExactLiftPictureUptoRow : OpenClaim := { program := "ythheoefadijhdaagreat", sum := "e66588495fd273f6f86d820d6a850f52bcb6ef21a8de4ffc14632775f588695e", func := "loop.example/g01317/laws.FnExactLiftPicture", spec := "fnExactLiftPicture", inPlace := ["(*sync.WaitGroup).Go", "(*sync.WaitGroup).Add", "internal/race.ReleaseMerge", "internal/race.Disable", "internal/race.Enable", "internal/synctest.IsInBubble", "internal/synctest.Associate[sync.WaitGroup]", "sync.fatal", "sync/atomic.OrUint64", "sync/atomic.AddUint64", "internal/race.Read", "sync/atomic.LoadUint64", "sync/atomic.StoreUint64", "internal/synctest.Disassociate[sync.WaitGroup]", "sync.runtime_Semrelease", "(*sync.WaitGroup).Go$1", "(*sync.WaitGroup).Go$1$1", "(*sync.WaitGroup).Done", "(*sync.WaitGroup).Wait", "internal/race.Acquire", "internal/synctest.IsAssociated[sync.WaitGroup]", "sync/atomic.CompareAndSwapUint64", "internal/race.Write", "sync.runtime_SemacquireWaitGroup"], unfollowed := true, recurses := true, leaving := true, apart := false, narrowed := true }
def FnExactLiftPictureUptoSaid : Prop := fnExactLiftPictureUptoRow.holds Tryz.pinned (OpenSpec.upto fnExactLiftPictureSpec)

/-- 'laws.FnBandsDown', WHERE WHAT IT READS IS OF BULK AT MOST 1048576: true; the input reads as it did. -/
def fnBandsDownUptoRow : OpenClaim := { program := "ythheoefadijhdaagreat", sum := "e66588495fd273f6f86d820d6a850f52bcb6ef21a8de4ffc14632775f588695e", func := "loop.example/g01317/laws.FnBandsDown", spec := "fnBandsDown", inPlace := ["(*sync.WaitGroup).Go", "(*sync.WaitGroup).Add", "internal/race.ReleaseMerge", "internal/race.Disable", "internal/race.Enable", "internal/synctest.IsInBubble", "internal/synctest.Associate[sync.WaitGroup]", "sync.fatal", "sync/atomic.OrUint64", "sync/atomic.AddUint64", "internal/race.Read", "sync/atomic.LoadUint64", "sync/atomic.StoreUint64", "internal/synctest.Disassociate[sync.WaitGroup]", "sync.runtime_Semrelease", "(*sync.WaitGroup).Go$1", "(*sync.WaitGroup).Go$1$1", "(*sync.WaitGroup).Done", "(*sync.WaitGroup).Wait", "internal/race.Acquire", "internal/synctest.IsAssociated[sync.WaitGroup]", "sync/atomic.CompareAndSwapUint64", "internal/race.Write", "sync.runtime_SemacquireWaitGroup", "math.sqrt", "math.Float64bits"], unfollowed := true, recurses := true, leaving := true, apart := false, narrowed := true }
def FnBandsDownUptoSaid : Prop := fnBandsDownUptoRow.holds Tryz.pinned (OpenSpec.upto fnBandsDownSpec)

/-- 'laws.FnExactThumbOf', WHERE WHAT IT READS IS OF BULK AT MOST 1048576: true; the input reads as it did. -/
def fnExactThumbOfUptoRow : OpenClaim := { program := "ythheoefadijhdaagreat", sum := "e66588495fd273f6f86d820d6a850f52bcb6ef21a8de4ffc14632775f588695e", func := "loop.example/g01317/laws.FnExactThumbOf", spec := "fnExactThumbOf", inPlace := ["(*sync.WaitGroup).Go", "(*sync.WaitGroup).Add", "internal/race.ReleaseMerge", "internal/race.Disable", "internal/race.Enable", "internal/synctest.IsInBubble", "internal/synctest.Associate[sync.WaitGroup]", "sync.fatal", "sync/atomic.OrUint64", "sync/atomic.AddUint64", "internal/race.Read", "sync/atomic.LoadUint64", "sync/atomic.StoreUint64", "internal/synctest.Disassociate[sync.WaitGroup]", "sync.runtime_Semrelease", "(*sync.WaitGroup).Go$1", "(*sync.WaitGroup).Go$1$1", "(*sync.WaitGroup).Done", "(*sync.WaitGroup).Wait", "internal/race.Acquire", "internal/synctest.IsAssociated[sync.WaitGroup]", "sync/atomic.CompareAndSwapUint64", "internal/race.Write", "sync.runtime_SemacquireWaitGroup"], unfollowed := true, recurses := true, leaving := true, apart := false, narrowed := true }
def FnExactThumbOfUptoSaid : Prop := fnExactThumbOfUptoRow.holds Tryz.pinned (OpenSpec.upto fnExactThumbOfSpec)

/-- 'laws.FnExactReadMarks', WHERE WHAT IT READS IS OF BULK AT MOST 1048576: true; the input reads as it did. -/
def fnExactReadMarksUptoRow : OpenClaim := { program := "ythheoefadijhdaagreat", sum := "e66588495fd273f6f86d820d6a850f52bcb6ef21a8de4ffc14632775f588695e", func := "loop.example/g01317/laws.FnExactReadMarks", spec := "fnExactReadMarks", inPlace := ["math.archFloor", "math.Float64bits", "math.Float64frombits", "math.archTrunc", "(*sync.WaitGroup).Go", "(*sync.WaitGroup).Add", "internal/race.ReleaseMerge", "internal/race.Disable", "internal/race.Enable", "internal/synctest.IsInBubble", "internal/synctest.Associate[sync.WaitGroup]", "sync.fatal", "sync/atomic.OrUint64", "sync/atomic.AddUint64", "internal/race.Read", "sync/atomic.LoadUint64", "sync/atomic.StoreUint64", "internal/synctest.Disassociate[sync.WaitGroup]", "sync.runtime_Semrelease", "(*sync.WaitGroup).Go$1", "(*sync.WaitGroup).Go$1$1", "(*sync.WaitGroup).Done", "(*sync.WaitGroup).Wait", "internal/race.Acquire", "internal/synctest.IsAssociated[sync.WaitGroup]", "sync/atomic.CompareAndSwapUint64", "internal/race.Write", "sync.runtime_SemacquireWaitGroup"], unfollowed := true, recurses := true, leaving := true, apart := false, narrowed := true }
def FnExactReadMarksUptoSaid : Prop := fnExactReadMarksUptoRow.holds Tryz.pinned (OpenSpec.upto fnExactReadMarksSpec)

/-- 'laws.FnExactFusePictures', WHERE WHAT IT READS IS OF BULK AT MOST 1048576: true; the input reads as it did. -/
def fnExactFusePicturesUptoRow : OpenClaim := { program := "ythheoefadijhdaagreat", sum := "e66588495fd273f6f86d820d6a850f52bcb6ef21a8de4ffc14632775f588695e", func := "loop.example/g01317/laws.FnExactFusePictures", spec := "fnExactFusePictures", inPlace := ["(*sync.WaitGroup).Go", "(*sync.WaitGroup).Add", "internal/race.ReleaseMerge", "internal/race.Disable", "internal/race.Enable", "internal/synctest.IsInBubble", "internal/synctest.Associate[sync.WaitGroup]", "sync.fatal", "sync/atomic.OrUint64", "sync/atomic.AddUint64", "internal/race.Read", "sync/atomic.LoadUint64", "sync/atomic.StoreUint64", "internal/synctest.Disassociate[sync.WaitGroup]", "sync.runtime_Semrelease", "(*sync.WaitGroup).Go$1", "(*sync.WaitGroup).Go$1$1", "(*sync.WaitGroup).Done", "(*sync.WaitGroup).Wait", "internal/race.Acquire", "internal/synctest.IsAssociated[sync.WaitGroup]", "sync/atomic.CompareAndSwapUint64", "internal/race.Write", "sync.runtime_SemacquireWaitGroup"], unfollowed := true, recurses := true, leaving := true, apart := false, narrowed := true }
def FnExactFusePicturesUptoSaid : Prop := fnExactFusePicturesUptoRow.holds Tryz.pinned (OpenSpec.upto fnExactFusePicturesSpec)

end Rows
end Go.Proofs.YthheoefadijhdaaGreat
