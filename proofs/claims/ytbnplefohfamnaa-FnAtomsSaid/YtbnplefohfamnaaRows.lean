/-
  No cell of these rows narrows 'for every input' (looked for: loops, veiled, ifaces, maps, wideKeys, modest, calm, conditions, laid).
  DERIVED. THE GIVEN ROWS OF THIS SEAT. 11 by the template 'for every input the law returns true; each argument reads behind the call as it read before'; 0 by the template 'total and deterministic' (their statements: YtbnplefohfamnaaTotals.lean).
  GIVEN WITH THE SEED: the statements are not yours to turn. If you find one false, say at which input.
  Laid BY PROGRAM, IN A SANDBOX (cutbox-rows.mjs): the forced cells as the released guide's own fill.sh prints them over the translation c0428515e86c883e… (all of the seat's roots in one cut). By AI agents, Wed Nov 11 2026. No macro, syntax, notation, axiom, sorry.
-/
import Derived.Test.YtbnplefohfamnaaChecked
import GoSem.Claim
import GoSem.ClaimJoined
import GoSem.ClaimMapViews
import Derived.JoinedTies
import Derived.KernelRfl
namespace Go.Proofs.Ytbnplefohfamnaa
/- THE CELL 'sum', in the pinned program and in every row, IS THE sha256 OF THE DUMP (.gsa) THAT YtbnplefohfamnaaProg.lean LOADS. Nothing in Lean hashes anything: it is a label: what it is worth is what the hold of that sum in a sandbox is worth. -/
noncomputable def Try.pinned : Pinned := { name := "ytbnplefohfamnaa", sum := "c0428515e86c883e30f50d4b16aa28fccbcdbed7508b26525eff1a9ca3887dd6", checked := Try.checked }
namespace Rows
def none {H : Type} : Left H := { results := [], args := [] }

/-- 'laws.FnExactCutCoded': WHATEVER THE INPUT: true; the input reads as it did. -/
def fnExactCutCodedSpec : ChangeSpec := { name := "fnExactCutCoded", fn := fun _ => fun
  | [d1, d2] => { results := [.lit (.bool true)], args := [d1, d2] }
  | _ => none }
def fnExactCutCodedRow : OpenClaim := { program := "ytbnplefohfamnaa", sum := "c0428515e86c883e30f50d4b16aa28fccbcdbed7508b26525eff1a9ca3887dd6", func := "loop.example/g01317/laws.FnExactCutCoded", spec := "fnExactCutCoded", apart := false }
def FnExactCutCodedSaid : Prop := fnExactCutCodedRow.holds Try.pinned (OpenSpec.ofChange fnExactCutCodedSpec)

/-- ITS FALSE NEIGHBOUR: 'it returns false'. Refute it at one input. -/
def fnExactCutCodedWrong : ChangeSpec := { name := "fnExactCutCoded", fn := fun _ => fun
  | [d1, d2] => { results := [.lit (.bool false)], args := [d1, d2] }
  | _ => none }
def FnExactCutCodedWrongFalsely : Prop := fnExactCutCodedRow.holds Try.pinned (OpenSpec.ofChange fnExactCutCodedWrong)

/-- 'laws.FnExactBlockShrink': WHATEVER THE INPUT: true; the input reads as it did. -/
def fnExactBlockShrinkSpec : ChangeSpec := { name := "fnExactBlockShrink", fn := fun _ => fun
  | [d1, d2, d3] => { results := [.lit (.bool true)], args := [d1, d2, d3] }
  | _ => none }
def fnExactBlockShrinkRow : OpenClaim := { program := "ytbnplefohfamnaa", sum := "c0428515e86c883e30f50d4b16aa28fccbcdbed7508b26525eff1a9ca3887dd6", func := "loop.example/g01317/laws.FnExactBlockShrink", spec := "fnExactBlockShrink", unfollowed := true, recurses := true, apart := false }
def FnExactBlockShrinkSaid : Prop := fnExactBlockShrinkRow.holds Try.pinned (OpenSpec.ofChange fnExactBlockShrinkSpec)

/-- ITS FALSE NEIGHBOUR: 'it returns false'. Refute it at one input. -/
def fnExactBlockShrinkWrong : ChangeSpec := { name := "fnExactBlockShrink", fn := fun _ => fun
  | [d1, d2, d3] => { results := [.lit (.bool false)], args := [d1, d2, d3] }
  | _ => none }
def FnExactBlockShrinkWrongFalsely : Prop := fnExactBlockShrinkRow.holds Try.pinned (OpenSpec.ofChange fnExactBlockShrinkWrong)

/-- 'laws.FnExactNoiseOf': WHATEVER THE INPUT: true; the input reads as it did. -/
def fnExactNoiseOfSpec : ChangeSpec := { name := "fnExactNoiseOf", fn := fun _ => fun
  | [d] => { results := [.lit (.bool true)], args := [d] }
  | _ => none }
def fnExactNoiseOfRow : OpenClaim := { program := "ytbnplefohfamnaa", sum := "c0428515e86c883e30f50d4b16aa28fccbcdbed7508b26525eff1a9ca3887dd6", func := "loop.example/g01317/laws.FnExactNoiseOf", spec := "fnExactNoiseOf", unfollowed := true, recurses := true, apart := false }
def FnExactNoiseOfSaid : Prop := fnExactNoiseOfRow.holds Try.pinned (OpenSpec.ofChange fnExactNoiseOfSpec)

/-- ITS FALSE NEIGHBOUR: 'it returns false'. Refute it at one input. -/
def fnExactNoiseOfWrong : ChangeSpec := { name := "fnExactNoiseOf", fn := fun _ => fun
  | [d] => { results := [.lit (.bool false)], args := [d] }
  | _ => none }
def FnExactNoiseOfWrongFalsely : Prop := fnExactNoiseOfRow.holds Try.pinned (OpenSpec.ofChange fnExactNoiseOfWrong)

/-- 'laws.FnExactShrinkBands': WHATEVER THE INPUT: true; the input reads as it did. -/
def fnExactShrinkBandsSpec : ChangeSpec := { name := "fnExactShrinkBands", fn := fun _ => fun
  | [d1, d2, d3] => { results := [.lit (.bool true)], args := [d1, d2, d3] }
  | _ => none }
def fnExactShrinkBandsRow : OpenClaim := { program := "ytbnplefohfamnaa", sum := "c0428515e86c883e30f50d4b16aa28fccbcdbed7508b26525eff1a9ca3887dd6", func := "loop.example/g01317/laws.FnExactShrinkBands", spec := "fnExactShrinkBands", apart := false }
def FnExactShrinkBandsSaid : Prop := fnExactShrinkBandsRow.holds Try.pinned (OpenSpec.ofChange fnExactShrinkBandsSpec)

/-- ITS FALSE NEIGHBOUR: 'it returns false'. Refute it at one input. -/
def fnExactShrinkBandsWrong : ChangeSpec := { name := "fnExactShrinkBands", fn := fun _ => fun
  | [d1, d2, d3] => { results := [.lit (.bool false)], args := [d1, d2, d3] }
  | _ => none }
def FnExactShrinkBandsWrongFalsely : Prop := fnExactShrinkBandsRow.holds Try.pinned (OpenSpec.ofChange fnExactShrinkBandsWrong)

/-- 'laws.FnExactDenoise': WHATEVER THE INPUT: true; the input reads as it did. -/
def fnExactDenoiseSpec : ChangeSpec := { name := "fnExactDenoise", fn := fun _ => fun
  | [d1, d2, d3, d4] => { results := [.lit (.bool true)], args := [d1, d2, d3, d4] }
  | _ => none }
def fnExactDenoiseRow : OpenClaim := { program := "ytbnplefohfamnaa", sum := "c0428515e86c883e30f50d4b16aa28fccbcdbed7508b26525eff1a9ca3887dd6", func := "loop.example/g01317/laws.FnExactDenoise", spec := "fnExactDenoise", inPlace := ["math.Float64frombits", "math.Float64bits", "math.sqrt"], unfollowed := true, recurses := true, apart := false }
def FnExactDenoiseSaid : Prop := fnExactDenoiseRow.holds Try.pinned (OpenSpec.ofChange fnExactDenoiseSpec)

/-- ITS FALSE NEIGHBOUR: 'it returns false'. Refute it at one input. -/
def fnExactDenoiseWrong : ChangeSpec := { name := "fnExactDenoise", fn := fun _ => fun
  | [d1, d2, d3, d4] => { results := [.lit (.bool false)], args := [d1, d2, d3, d4] }
  | _ => none }
def FnExactDenoiseWrongFalsely : Prop := fnExactDenoiseRow.holds Try.pinned (OpenSpec.ofChange fnExactDenoiseWrong)

/-- 'laws.FnSeasons': WHATEVER THE INPUT: true; the input reads as it did. -/
def fnSeasonsSpec : ChangeSpec := { name := "fnSeasons", fn := fun _ => fun
  | [d1, d2] => { results := [.lit (.bool true)], args := [d1, d2] }
  | _ => none }
def fnSeasonsRow : OpenClaim := { program := "ytbnplefohfamnaa", sum := "c0428515e86c883e30f50d4b16aa28fccbcdbed7508b26525eff1a9ca3887dd6", func := "loop.example/g01317/laws.FnSeasons", spec := "fnSeasons", inPlace := ["math.Float64frombits"], apart := false }
def FnSeasonsSaid : Prop := fnSeasonsRow.holds Try.pinned (OpenSpec.ofChange fnSeasonsSpec)

/-- ITS FALSE NEIGHBOUR: 'it returns false'. Refute it at one input. -/
def fnSeasonsWrong : ChangeSpec := { name := "fnSeasons", fn := fun _ => fun
  | [d1, d2] => { results := [.lit (.bool false)], args := [d1, d2] }
  | _ => none }
def FnSeasonsWrongFalsely : Prop := fnSeasonsRow.holds Try.pinned (OpenSpec.ofChange fnSeasonsWrong)

/-- 'laws.FnPictures': WHATEVER THE INPUT: true; the input reads as it did. -/
def fnPicturesSpec : ChangeSpec := { name := "fnPictures", fn := fun _ => fun
  | [d1, d2] => { results := [.lit (.bool true)], args := [d1, d2] }
  | _ => none }
def fnPicturesRow : OpenClaim := { program := "ytbnplefohfamnaa", sum := "c0428515e86c883e30f50d4b16aa28fccbcdbed7508b26525eff1a9ca3887dd6", func := "loop.example/g01317/laws.FnPictures", spec := "fnPictures", inPlace := ["math.sqrt", "math.Float64bits", "math.Float64frombits"], unfollowed := true, recurses := true, apart := false }
def FnPicturesSaid : Prop := fnPicturesRow.holds Try.pinned (OpenSpec.ofChange fnPicturesSpec)

/-- ITS FALSE NEIGHBOUR: 'it returns false'. Refute it at one input. -/
def fnPicturesWrong : ChangeSpec := { name := "fnPictures", fn := fun _ => fun
  | [d1, d2] => { results := [.lit (.bool false)], args := [d1, d2] }
  | _ => none }
def FnPicturesWrongFalsely : Prop := fnPicturesRow.holds Try.pinned (OpenSpec.ofChange fnPicturesWrong)

/-- 'laws.FnLimits': WHATEVER THE INPUT: true; the input reads as it did. -/
def fnLimitsSpec : ChangeSpec := { name := "fnLimits", fn := fun _ => fun
  | [d1, d2] => { results := [.lit (.bool true)], args := [d1, d2] }
  | _ => none }
def fnLimitsRow : OpenClaim := { program := "ytbnplefohfamnaa", sum := "c0428515e86c883e30f50d4b16aa28fccbcdbed7508b26525eff1a9ca3887dd6", func := "loop.example/g01317/laws.FnLimits", spec := "fnLimits", inPlace := ["math.Float32bits", "math.Float64frombits", "math.sqrt"], unfollowed := true, recurses := true, apart := false }
def FnLimitsSaid : Prop := fnLimitsRow.holds Try.pinned (OpenSpec.ofChange fnLimitsSpec)

/-- ITS FALSE NEIGHBOUR: 'it returns false'. Refute it at one input. -/
def fnLimitsWrong : ChangeSpec := { name := "fnLimits", fn := fun _ => fun
  | [d1, d2] => { results := [.lit (.bool false)], args := [d1, d2] }
  | _ => none }
def FnLimitsWrongFalsely : Prop := fnLimitsRow.holds Try.pinned (OpenSpec.ofChange fnLimitsWrong)

/-- 'laws.FnBreaks': WHATEVER THE INPUT: true; the input reads as it did. -/
def fnBreaksSpec : ChangeSpec := { name := "fnBreaks", fn := fun _ => fun
  | [d1, d2] => { results := [.lit (.bool true)], args := [d1, d2] }
  | _ => none }
def fnBreaksRow : OpenClaim := { program := "ytbnplefohfamnaa", sum := "c0428515e86c883e30f50d4b16aa28fccbcdbed7508b26525eff1a9ca3887dd6", func := "loop.example/g01317/laws.FnBreaks", spec := "fnBreaks", recurses := true, apart := false }
def FnBreaksSaid : Prop := fnBreaksRow.holds Try.pinned (OpenSpec.ofChange fnBreaksSpec)

/-- ITS FALSE NEIGHBOUR: 'it returns false'. Refute it at one input. -/
def fnBreaksWrong : ChangeSpec := { name := "fnBreaks", fn := fun _ => fun
  | [d1, d2] => { results := [.lit (.bool false)], args := [d1, d2] }
  | _ => none }
def FnBreaksWrongFalsely : Prop := fnBreaksRow.holds Try.pinned (OpenSpec.ofChange fnBreaksWrong)

/-- 'laws.FnShrunk': WHATEVER THE INPUT: true; the input reads as it did. -/
def fnShrunkSpec : ChangeSpec := { name := "fnShrunk", fn := fun _ => fun
  | [d1, d2] => { results := [.lit (.bool true)], args := [d1, d2] }
  | _ => none }
def fnShrunkRow : OpenClaim := { program := "ytbnplefohfamnaa", sum := "c0428515e86c883e30f50d4b16aa28fccbcdbed7508b26525eff1a9ca3887dd6", func := "loop.example/g01317/laws.FnShrunk", spec := "fnShrunk", inPlace := ["math.Float32bits", "math.Float64frombits", "math.sqrt", "math.Float64bits"], unfollowed := true, recurses := true, apart := false }
def FnShrunkSaid : Prop := fnShrunkRow.holds Try.pinned (OpenSpec.ofChange fnShrunkSpec)

/-- ITS FALSE NEIGHBOUR: 'it returns false'. Refute it at one input. -/
def fnShrunkWrong : ChangeSpec := { name := "fnShrunk", fn := fun _ => fun
  | [d1, d2] => { results := [.lit (.bool false)], args := [d1, d2] }
  | _ => none }
def FnShrunkWrongFalsely : Prop := fnShrunkRow.holds Try.pinned (OpenSpec.ofChange fnShrunkWrong)

/-- 'laws.FnAtoms': WHATEVER THE INPUT: true; the input reads as it did. -/
def fnAtomsSpec : ChangeSpec := { name := "fnAtoms", fn := fun _ => fun
  | [d1, d2] => { results := [.lit (.bool true)], args := [d1, d2] }
  | _ => none }
def fnAtomsRow : OpenClaim := { program := "ytbnplefohfamnaa", sum := "c0428515e86c883e30f50d4b16aa28fccbcdbed7508b26525eff1a9ca3887dd6", func := "loop.example/g01317/laws.FnAtoms", spec := "fnAtoms", inPlace := ["math.archCeil", "math.archFloor", "math.Float64bits", "math.Float64frombits", "math.archTrunc", "math.sqrt", "math.Float32bits"], apart := false }
def FnAtomsSaid : Prop := fnAtomsRow.holds Try.pinned (OpenSpec.ofChange fnAtomsSpec)

/-- ITS FALSE NEIGHBOUR: 'it returns false'. Refute it at one input. -/
def fnAtomsWrong : ChangeSpec := { name := "fnAtoms", fn := fun _ => fun
  | [d1, d2] => { results := [.lit (.bool false)], args := [d1, d2] }
  | _ => none }
def FnAtomsWrongFalsely : Prop := fnAtomsRow.holds Try.pinned (OpenSpec.ofChange fnAtomsWrong)

/- THE SECOND FORM. 'bulk': how many values and letters a reading holds, each counted each time it is reached (what is shared counts as often as it is met; a slice's spare places count too). A statement '..UptoSaid' is the law's where the arguments, and the package variables that the reading takes, are together of bulk at most 1048576: NARROWER than '..Said'. Prove '..Said' where nothing that the law and all that it calls make is longer than what came in: it says more and counts as full. Else prove '..UptoSaid'. A law counts once. -/
mutual
def uptoBulk {H : Type} : DataW H → Nat
  | .lit (.string bytes) => bytes.length + 1
  | .lit _ => 1
  | .nil => 1
  | .ptr d => uptoBulk d + 1
  | .slice elems spare => uptoBulkAll elems + uptoBulkAll spare + 1
  | .agg parts => uptoBulkAll parts + 1
  | .iface _ d => uptoBulk d + 1
  | .map entries => uptoBulkEntries entries + 1
  | .held _ => 1
def uptoBulkAll {H : Type} : List (DataW H) → Nat
  | [] => 0
  | d :: r => uptoBulk d + uptoBulkAll r
def uptoBulkEntries {H : Type} : List (Lit × DataW H) → Nat
  | [] => 0
  | x :: r => uptoBulkEntry x + uptoBulkEntries r
def uptoBulkEntry {H : Type} : Lit × DataW H → Nat
  | (.string bytes, d) => bytes.length + uptoBulk d + 1
  | (_, d) => uptoBulk d + 1
 end
def uptoSmall : (H : Type) → List (DataW H) → Bool := fun _ ds => decide (uptoBulkAll ds ≤ 1048576)
def OpenSpec.upto (s : _root_.Go.ChangeSpec) : _root_.Go.OpenSpec := { _root_.Go.OpenSpec.ofChange s with cond := some uptoSmall }

/-- 'laws.FnExactCutCoded', WHERE WHAT IT READS IS OF BULK AT MOST 1048576: true; the input reads as it did. -/
def fnExactCutCodedUptoRow : OpenClaim := { program := "ytbnplefohfamnaa", sum := "c0428515e86c883e30f50d4b16aa28fccbcdbed7508b26525eff1a9ca3887dd6", func := "loop.example/g01317/laws.FnExactCutCoded", spec := "fnExactCutCoded", apart := false, narrowed := true }
def FnExactCutCodedUptoSaid : Prop := fnExactCutCodedUptoRow.holds Try.pinned (OpenSpec.upto fnExactCutCodedSpec)

/-- 'laws.FnExactBlockShrink', WHERE WHAT IT READS IS OF BULK AT MOST 1048576: true; the input reads as it did. -/
def fnExactBlockShrinkUptoRow : OpenClaim := { program := "ytbnplefohfamnaa", sum := "c0428515e86c883e30f50d4b16aa28fccbcdbed7508b26525eff1a9ca3887dd6", func := "loop.example/g01317/laws.FnExactBlockShrink", spec := "fnExactBlockShrink", unfollowed := true, recurses := true, apart := false, narrowed := true }
def FnExactBlockShrinkUptoSaid : Prop := fnExactBlockShrinkUptoRow.holds Try.pinned (OpenSpec.upto fnExactBlockShrinkSpec)

/-- 'laws.FnExactNoiseOf', WHERE WHAT IT READS IS OF BULK AT MOST 1048576: true; the input reads as it did. -/
def fnExactNoiseOfUptoRow : OpenClaim := { program := "ytbnplefohfamnaa", sum := "c0428515e86c883e30f50d4b16aa28fccbcdbed7508b26525eff1a9ca3887dd6", func := "loop.example/g01317/laws.FnExactNoiseOf", spec := "fnExactNoiseOf", unfollowed := true, recurses := true, apart := false, narrowed := true }
def FnExactNoiseOfUptoSaid : Prop := fnExactNoiseOfUptoRow.holds Try.pinned (OpenSpec.upto fnExactNoiseOfSpec)

/-- 'laws.FnExactShrinkBands', WHERE WHAT IT READS IS OF BULK AT MOST 1048576: true; the input reads as it did. -/
def fnExactShrinkBandsUptoRow : OpenClaim := { program := "ytbnplefohfamnaa", sum := "c0428515e86c883e30f50d4b16aa28fccbcdbed7508b26525eff1a9ca3887dd6", func := "loop.example/g01317/laws.FnExactShrinkBands", spec := "fnExactShrinkBands", apart := false, narrowed := true }
def FnExactShrinkBandsUptoSaid : Prop := fnExactShrinkBandsUptoRow.holds Try.pinned (OpenSpec.upto fnExactShrinkBandsSpec)

/-- 'laws.FnExactDenoise', WHERE WHAT IT READS IS OF BULK AT MOST 1048576: true; the input reads as it did. -/
def fnExactDenoiseUptoRow : OpenClaim := { program := "ytbnplefohfamnaa", sum := "c0428515e86c883e30f50d4b16aa28fccbcdbed7508b26525eff1a9ca3887dd6", func := "loop.example/g01317/laws.FnExactDenoise", spec := "fnExactDenoise", inPlace := ["math.Float64frombits", "math.Float64bits", "math.sqrt"], unfollowed := true, recurses := true, apart := false, narrowed := true }
def FnExactDenoiseUptoSaid : Prop := fnExactDenoiseUptoRow.holds Try.pinned (OpenSpec.upto fnExactDenoiseSpec)

/-- 'laws.FnSeasons', WHERE WHAT IT READS IS OF BULK AT MOST 1048576: true; the input reads as it did. -/
def fnSeasonsUptoRow : OpenClaim := { program := "ytbnplefohfamnaa", sum := "c0428515e86c883e30f50d4b16aa28fccbcdbed7508b26525eff1a9ca3887dd6", func := "loop.example/g01317/laws.FnSeasons", spec := "fnSeasons", inPlace := ["math.Float64frombits"], apart := false, narrowed := true }
def FnSeasonsUptoSaid : Prop := fnSeasonsUptoRow.holds Try.pinned (OpenSpec.upto fnSeasonsSpec)

/-- 'laws.FnPictures', WHERE WHAT IT READS IS OF BULK AT MOST 1048576: true; the input reads as it did. -/
def fnPicturesUptoRow : OpenClaim := { program := "ytbnplefohfamnaa", sum := "c0428515e86c883e30f50d4b16aa28fccbcdbed7508b26525eff1a9ca3887dd6", func := "loop.example/g01317/laws.FnPictures", spec := "fnPictures", inPlace := ["math.sqrt", "math.Float64bits", "math.Float64frombits"], unfollowed := true, recurses := true, apart := false, narrowed := true }
def FnPicturesUptoSaid : Prop := fnPicturesUptoRow.holds Try.pinned (OpenSpec.upto fnPicturesSpec)

/-- 'laws.FnLimits', WHERE WHAT IT READS IS OF BULK AT MOST 1048576: true; the input reads as it did. -/
def fnLimitsUptoRow : OpenClaim := { program := "ytbnplefohfamnaa", sum := "c0428515e86c883e30f50d4b16aa28fccbcdbed7508b26525eff1a9ca3887dd6", func := "loop.example/g01317/laws.FnLimits", spec := "fnLimits", inPlace := ["math.Float32bits", "math.Float64frombits", "math.sqrt"], unfollowed := true, recurses := true, apart := false, narrowed := true }
def FnLimitsUptoSaid : Prop := fnLimitsUptoRow.holds Try.pinned (OpenSpec.upto fnLimitsSpec)

/-- 'laws.FnBreaks', WHERE WHAT IT READS IS OF BULK AT MOST 1048576: true; the input reads as it did. -/
def fnBreaksUptoRow : OpenClaim := { program := "ytbnplefohfamnaa", sum := "c0428515e86c883e30f50d4b16aa28fccbcdbed7508b26525eff1a9ca3887dd6", func := "loop.example/g01317/laws.FnBreaks", spec := "fnBreaks", recurses := true, apart := false, narrowed := true }
def FnBreaksUptoSaid : Prop := fnBreaksUptoRow.holds Try.pinned (OpenSpec.upto fnBreaksSpec)

/-- 'laws.FnShrunk', WHERE WHAT IT READS IS OF BULK AT MOST 1048576: true; the input reads as it did. -/
def fnShrunkUptoRow : OpenClaim := { program := "ytbnplefohfamnaa", sum := "c0428515e86c883e30f50d4b16aa28fccbcdbed7508b26525eff1a9ca3887dd6", func := "loop.example/g01317/laws.FnShrunk", spec := "fnShrunk", inPlace := ["math.Float32bits", "math.Float64frombits", "math.sqrt", "math.Float64bits"], unfollowed := true, recurses := true, apart := false, narrowed := true }
def FnShrunkUptoSaid : Prop := fnShrunkUptoRow.holds Try.pinned (OpenSpec.upto fnShrunkSpec)

/-- 'laws.FnAtoms', WHERE WHAT IT READS IS OF BULK AT MOST 1048576: true; the input reads as it did. -/
def fnAtomsUptoRow : OpenClaim := { program := "ytbnplefohfamnaa", sum := "c0428515e86c883e30f50d4b16aa28fccbcdbed7508b26525eff1a9ca3887dd6", func := "loop.example/g01317/laws.FnAtoms", spec := "fnAtoms", inPlace := ["math.archCeil", "math.archFloor", "math.Float64bits", "math.Float64frombits", "math.archTrunc", "math.sqrt", "math.Float32bits"], apart := false, narrowed := true }
def FnAtomsUptoSaid : Prop := fnAtomsUptoRow.holds Try.pinned (OpenSpec.upto fnAtomsSpec)

end Rows
end Go.Proofs.Ytbnplefohfamnaa
