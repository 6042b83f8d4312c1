/-
  No cell of these rows narrows 'for every input' (looked for: loops, veiled, ifaces, maps, wideKeys, modest, calm, conditions, laid).
  DERIVED. THE GIVEN ROWS OF THIS SEAT. 8 by the template 'for every input the law returns true; each argument reads behind the call as it read before'; 0 by the template 'total and deterministic' (their statements: YtbbklijmnknmhaaTotals.lean).
  GIVEN WITH THE SEED: the statements are not yours to turn. If you find one false, say at which input.
  Laid BY PROGRAM, IN A SANDBOX (cutbox-rows.mjs): the forced cells as the released guide's own fill.sh prints them over the translation 0e8477c54f838499… (all of the seat's roots in one cut). By AI agents, Wed Nov 11 2026. No macro, syntax, notation, axiom, sorry.
-/
import Derived.Test.YtbbklijmnknmhaaChecked
import GoSem.Claim
import GoSem.ClaimJoined
import GoSem.ClaimMapViews
import Derived.JoinedTies
import Derived.KernelRfl
namespace Go.Proofs.Ytbbklijmnknmhaa
/- THE CELL 'sum', in the pinned program and in every row, IS THE sha256 OF THE DUMP (.gsa) THAT YtbbklijmnknmhaaProg.lean LOADS. Nothing in Lean hashes anything: it is a label: what it is worth is what the hold of that sum in a sandbox is worth. -/
noncomputable def Try.pinned : Pinned := { name := "ytbbklijmnknmhaa", sum := "0e8477c54f8384993105c523251e1e4f46675ec53e93d9b7b462a8b486324b8e", checked := Try.checked }
namespace Rows
def none {H : Type} : Left H := { results := [], args := [] }

/-- 'bookendlaw05.ModelMaps': WHATEVER THE INPUT: true; the input reads as it did. -/
def modelMapsSpec : ChangeSpec := { name := "modelMaps", fn := fun _ => fun
  | [d1, d2] => { results := [.lit (.bool true)], args := [d1, d2] }
  | _ => none }
def modelMapsRow : OpenClaim := { program := "ytbbklijmnknmhaa", sum := "0e8477c54f8384993105c523251e1e4f46675ec53e93d9b7b462a8b486324b8e", func := "bookend/bookendlaw05.ModelMaps", spec := "modelMaps", inPlace := ["slices.overlaps[bookend/api.Pair]"], unfollowed := true, recurses := true, apart := false }
def ModelMapsSaid : Prop := modelMapsRow.holds Try.pinned (OpenSpec.ofChange modelMapsSpec)

/-- ITS FALSE NEIGHBOUR: 'it returns false'. Refute it at one input. -/
def modelMapsWrong : ChangeSpec := { name := "modelMaps", fn := fun _ => fun
  | [d1, d2] => { results := [.lit (.bool false)], args := [d1, d2] }
  | _ => none }
def ModelMapsWrongFalsely : Prop := modelMapsRow.holds Try.pinned (OpenSpec.ofChange modelMapsWrong)

/-- 'bookendlaw05.ModelChanges': WHATEVER THE INPUT: true; the input reads as it did. -/
def modelChangesSpec : ChangeSpec := { name := "modelChanges", fn := fun _ => fun
  | [d1, d2, d3] => { results := [.lit (.bool true)], args := [d1, d2, d3] }
  | _ => none }
def modelChangesRow : OpenClaim := { program := "ytbbklijmnknmhaa", sum := "0e8477c54f8384993105c523251e1e4f46675ec53e93d9b7b462a8b486324b8e", func := "bookend/bookendlaw05.ModelChanges", spec := "modelChanges", inPlace := ["slices.overlaps[bookend/api.Pair]"], unfollowed := true, recurses := true, apart := false }
def ModelChangesSaid : Prop := modelChangesRow.holds Try.pinned (OpenSpec.ofChange modelChangesSpec)

/-- ITS FALSE NEIGHBOUR: 'it returns false'. Refute it at one input. -/
def modelChangesWrong : ChangeSpec := { name := "modelChanges", fn := fun _ => fun
  | [d1, d2, d3] => { results := [.lit (.bool false)], args := [d1, d2, d3] }
  | _ => none }
def ModelChangesWrongFalsely : Prop := modelChangesRow.holds Try.pinned (OpenSpec.ofChange modelChangesWrong)

/-- 'bookendlaw05.ModelDiffs': WHATEVER THE INPUT: true; the input reads as it did. -/
def modelDiffsSpec : ChangeSpec := { name := "modelDiffs", fn := fun _ => fun
  | [d1, d2, d3] => { results := [.lit (.bool true)], args := [d1, d2, d3] }
  | _ => none }
def modelDiffsRow : OpenClaim := { program := "ytbbklijmnknmhaa", sum := "0e8477c54f8384993105c523251e1e4f46675ec53e93d9b7b462a8b486324b8e", func := "bookend/bookendlaw05.ModelDiffs", spec := "modelDiffs", inPlace := ["slices.overlaps[bookend/api.Pair]"], unfollowed := true, recurses := true, apart := false }
def ModelDiffsSaid : Prop := modelDiffsRow.holds Try.pinned (OpenSpec.ofChange modelDiffsSpec)

/-- ITS FALSE NEIGHBOUR: 'it returns false'. Refute it at one input. -/
def modelDiffsWrong : ChangeSpec := { name := "modelDiffs", fn := fun _ => fun
  | [d1, d2, d3] => { results := [.lit (.bool false)], args := [d1, d2, d3] }
  | _ => none }
def ModelDiffsWrongFalsely : Prop := modelDiffsRow.holds Try.pinned (OpenSpec.ofChange modelDiffsWrong)

/-- 'bookendlaw05.ModelFinds': WHATEVER THE INPUT: true; the input reads as it did. -/
def modelFindsSpec : ChangeSpec := { name := "modelFinds", fn := fun _ => fun
  | [d1, d2, d3] => { results := [.lit (.bool true)], args := [d1, d2, d3] }
  | _ => none }
def modelFindsRow : OpenClaim := { program := "ytbbklijmnknmhaa", sum := "0e8477c54f8384993105c523251e1e4f46675ec53e93d9b7b462a8b486324b8e", func := "bookend/bookendlaw05.ModelFinds", spec := "modelFinds", inPlace := ["slices.overlaps[bookend/api.Pair]"], unfollowed := true, recurses := true, apart := false }
def ModelFindsSaid : Prop := modelFindsRow.holds Try.pinned (OpenSpec.ofChange modelFindsSpec)

/-- ITS FALSE NEIGHBOUR: 'it returns false'. Refute it at one input. -/
def modelFindsWrong : ChangeSpec := { name := "modelFinds", fn := fun _ => fun
  | [d1, d2, d3] => { results := [.lit (.bool false)], args := [d1, d2, d3] }
  | _ => none }
def ModelFindsWrongFalsely : Prop := modelFindsRow.holds Try.pinned (OpenSpec.ofChange modelFindsWrong)

/-- 'bookendlaw05.ModelPlays': WHATEVER THE INPUT: true; the input reads as it did. -/
def modelPlaysSpec : ChangeSpec := { name := "modelPlays", fn := fun _ => fun
  | [d] => { results := [.lit (.bool true)], args := [d] }
  | _ => none }
def modelPlaysRow : OpenClaim := { program := "ytbbklijmnknmhaa", sum := "0e8477c54f8384993105c523251e1e4f46675ec53e93d9b7b462a8b486324b8e", func := "bookend/bookendlaw05.ModelPlays", spec := "modelPlays", inPlace := ["slices.overlaps[bookend/api.Pair]"], unfollowed := true, recurses := true, apart := false }
def ModelPlaysSaid : Prop := modelPlaysRow.holds Try.pinned (OpenSpec.ofChange modelPlaysSpec)

/-- ITS FALSE NEIGHBOUR: 'it returns false'. Refute it at one input. -/
def modelPlaysWrong : ChangeSpec := { name := "modelPlays", fn := fun _ => fun
  | [d] => { results := [.lit (.bool false)], args := [d] }
  | _ => none }
def ModelPlaysWrongFalsely : Prop := modelPlaysRow.holds Try.pinned (OpenSpec.ofChange modelPlaysWrong)

/-- 'bookendlaw05.ModelPins': WHATEVER THE INPUT: true; the input reads as it did. -/
def modelPinsSpec : ChangeSpec := { name := "modelPins", fn := fun _ => fun
  | [d1, d2] => { results := [.lit (.bool true)], args := [d1, d2] }
  | _ => none }
def modelPinsRow : OpenClaim := { program := "ytbbklijmnknmhaa", sum := "0e8477c54f8384993105c523251e1e4f46675ec53e93d9b7b462a8b486324b8e", func := "bookend/bookendlaw05.ModelPins", spec := "modelPins", inPlace := ["slices.overlaps[bookend/api.Pair]"], unfollowed := true, recurses := true, apart := false }
def ModelPinsSaid : Prop := modelPinsRow.holds Try.pinned (OpenSpec.ofChange modelPinsSpec)

/-- ITS FALSE NEIGHBOUR: 'it returns false'. Refute it at one input. -/
def modelPinsWrong : ChangeSpec := { name := "modelPins", fn := fun _ => fun
  | [d1, d2] => { results := [.lit (.bool false)], args := [d1, d2] }
  | _ => none }
def ModelPinsWrongFalsely : Prop := modelPinsRow.holds Try.pinned (OpenSpec.ofChange modelPinsWrong)

/-- 'bookendlaw05.ModelWalks': WHATEVER THE INPUT: true; the input reads as it did. -/
def modelWalksSpec : ChangeSpec := { name := "modelWalks", fn := fun _ => fun
  | [d1, d2, d3] => { results := [.lit (.bool true)], args := [d1, d2, d3] }
  | _ => none }
def modelWalksRow : OpenClaim := { program := "ytbbklijmnknmhaa", sum := "0e8477c54f8384993105c523251e1e4f46675ec53e93d9b7b462a8b486324b8e", func := "bookend/bookendlaw05.ModelWalks", spec := "modelWalks", inPlace := ["slices.overlaps[bookend/api.Pair]"], unfollowed := true, recurses := true, apart := false }
def ModelWalksSaid : Prop := modelWalksRow.holds Try.pinned (OpenSpec.ofChange modelWalksSpec)

/-- ITS FALSE NEIGHBOUR: 'it returns false'. Refute it at one input. -/
def modelWalksWrong : ChangeSpec := { name := "modelWalks", fn := fun _ => fun
  | [d1, d2, d3] => { results := [.lit (.bool false)], args := [d1, d2, d3] }
  | _ => none }
def ModelWalksWrongFalsely : Prop := modelWalksRow.holds Try.pinned (OpenSpec.ofChange modelWalksWrong)

/-- 'bookendlaw05.ModelNone': WHATEVER THE INPUT: true; the input reads as it did. -/
def modelNoneSpec : ChangeSpec := { name := "modelNone", fn := fun _ => fun
  | [d1, d2, d3] => { results := [.lit (.bool true)], args := [d1, d2, d3] }
  | _ => none }
def modelNoneRow : OpenClaim := { program := "ytbbklijmnknmhaa", sum := "0e8477c54f8384993105c523251e1e4f46675ec53e93d9b7b462a8b486324b8e", func := "bookend/bookendlaw05.ModelNone", spec := "modelNone", inPlace := ["slices.overlaps[bookend/api.Pair]"], unfollowed := true, recurses := true, apart := false }
def ModelNoneSaid : Prop := modelNoneRow.holds Try.pinned (OpenSpec.ofChange modelNoneSpec)

/-- ITS FALSE NEIGHBOUR: 'it returns false'. Refute it at one input. -/
def modelNoneWrong : ChangeSpec := { name := "modelNone", fn := fun _ => fun
  | [d1, d2, d3] => { results := [.lit (.bool false)], args := [d1, d2, d3] }
  | _ => none }
def ModelNoneWrongFalsely : Prop := modelNoneRow.holds Try.pinned (OpenSpec.ofChange modelNoneWrong)

/- THE SECOND FORM. 'bulk': how many values and letters a reading holds, each counted each time it is reached (what is shared counts as often as it is met; a slice's spare places count too). A statement '..UptoSaid' is the law's where the arguments, and the package variables that the reading takes, are together of bulk at most 1048576: NARROWER than '..Said'. Prove '..Said' where nothing that the law and all that it calls make is longer than what came in: it says more and counts as full. Else prove '..UptoSaid'. A law counts once. -/
mutual
def uptoBulk {H : Type} : DataW H → Nat
  | .lit (.string bytes) => bytes.length + 1
  | .lit _ => 1
  | .nil => 1
  | .ptr d => uptoBulk d + 1
  | .slice elems spare => uptoBulkAll elems + uptoBulkAll spare + 1
  | .agg parts => uptoBulkAll parts + 1
  | .iface _ d => uptoBulk d + 1
  | .map entries => uptoBulkEntries entries + 1
  | .held _ => 1
def uptoBulkAll {H : Type} : List (DataW H) → Nat
  | [] => 0
  | d :: r => uptoBulk d + uptoBulkAll r
def uptoBulkEntries {H : Type} : List (Lit × DataW H) → Nat
  | [] => 0
  | x :: r => uptoBulkEntry x + uptoBulkEntries r
def uptoBulkEntry {H : Type} : Lit × DataW H → Nat
  | (.string bytes, d) => bytes.length + uptoBulk d + 1
  | (_, d) => uptoBulk d + 1
 end
def uptoSmall : (H : Type) → List (DataW H) → Bool := fun _ ds => decide (uptoBulkAll ds ≤ 1048576)
def OpenSpec.upto (s : _root_.Go.ChangeSpec) : _root_.Go.OpenSpec := { _root_.Go.OpenSpec.ofChange s with cond := some uptoSmall }

/-- 'bookendlaw05.ModelMaps', WHERE WHAT IT READS IS OF BULK AT MOST 1048576: true; the input reads as it did. -/
def modelMapsUptoRow : OpenClaim := { program := "ytbbklijmnknmhaa", sum := "0e8477c54f8384993105c523251e1e4f46675ec53e93d9b7b462a8b486324b8e", func := "bookend/bookendlaw05.ModelMaps", spec := "modelMaps", inPlace := ["slices.overlaps[bookend/api.Pair]"], unfollowed := true, recurses := true, apart := false, narrowed := true }
def ModelMapsUptoSaid : Prop := modelMapsUptoRow.holds Try.pinned (OpenSpec.upto modelMapsSpec)

/-- 'bookendlaw05.ModelChanges', WHERE WHAT IT READS IS OF BULK AT MOST 1048576: true; the input reads as it did. -/
def modelChangesUptoRow : OpenClaim := { program := "ytbbklijmnknmhaa", sum := "0e8477c54f8384993105c523251e1e4f46675ec53e93d9b7b462a8b486324b8e", func := "bookend/bookendlaw05.ModelChanges", spec := "modelChanges", inPlace := ["slices.overlaps[bookend/api.Pair]"], unfollowed := true, recurses := true, apart := false, narrowed := true }
def ModelChangesUptoSaid : Prop := modelChangesUptoRow.holds Try.pinned (OpenSpec.upto modelChangesSpec)

/-- 'bookendlaw05.ModelDiffs', WHERE WHAT IT READS IS OF BULK AT MOST 1048576: true; the input reads as it did. -/
def modelDiffsUptoRow : OpenClaim := { program := "ytbbklijmnknmhaa", sum := "0e8477c54f8384993105c523251e1e4f46675ec53e93d9b7b462a8b486324b8e", func := "bookend/bookendlaw05.ModelDiffs", spec := "modelDiffs", inPlace := ["slices.overlaps[bookend/api.Pair]"], unfollowed := true, recurses := true, apart := false, narrowed := true }
def ModelDiffsUptoSaid : Prop := modelDiffsUptoRow.holds Try.pinned (OpenSpec.upto modelDiffsSpec)

/-- 'bookendlaw05.ModelFinds', WHERE WHAT IT READS IS OF BULK AT MOST 1048576: true; the input reads as it did. -/
def modelFindsUptoRow : OpenClaim := { program := "ytbbklijmnknmhaa", sum := "0e8477c54f8384993105c523251e1e4f46675ec53e93d9b7b462a8b486324b8e", func := "bookend/bookendlaw05.ModelFinds", spec := "modelFinds", inPlace := ["slices.overlaps[bookend/api.Pair]"], unfollowed := true, recurses := true, apart := false, narrowed := true }
def ModelFindsUptoSaid : Prop := modelFindsUptoRow.holds Try.pinned (OpenSpec.upto modelFindsSpec)

/-- 'bookendlaw05.ModelPlays', WHERE WHAT IT READS IS OF BULK AT MOST 1048576: true; the input reads as it did. -/
def modelPlaysUptoRow : OpenClaim := { program := "ytbbklijmnknmhaa", sum := "0e8477c54f8384993105c523251e1e4f46675ec53e93d9b7b462a8b486324b8e", func := "bookend/bookendlaw05.ModelPlays", spec := "modelPlays", inPlace := ["slices.overlaps[bookend/api.Pair]"], unfollowed := true, recurses := true, apart := false, narrowed := true }
def ModelPlaysUptoSaid : Prop := modelPlaysUptoRow.holds Try.pinned (OpenSpec.upto modelPlaysSpec)

/-- 'bookendlaw05.ModelPins', WHERE WHAT IT READS IS OF BULK AT MOST 1048576: true; the input reads as it did. -/
def modelPinsUptoRow : OpenClaim := { program := "ytbbklijmnknmhaa", sum := "0e8477c54f8384993105c523251e1e4f46675ec53e93d9b7b462a8b486324b8e", func := "bookend/bookendlaw05.ModelPins", spec := "modelPins", inPlace := ["slices.overlaps[bookend/api.Pair]"], unfollowed := true, recurses := true, apart := false, narrowed := true }
def ModelPinsUptoSaid : Prop := modelPinsUptoRow.holds Try.pinned (OpenSpec.upto modelPinsSpec)

/-- 'bookendlaw05.ModelWalks', WHERE WHAT IT READS IS OF BULK AT MOST 1048576: true; the input reads as it did. -/
def modelWalksUptoRow : OpenClaim := { program := "ytbbklijmnknmhaa", sum := "0e8477c54f8384993105c523251e1e4f46675ec53e93d9b7b462a8b486324b8e", func := "bookend/bookendlaw05.ModelWalks", spec := "modelWalks", inPlace := ["slices.overlaps[bookend/api.Pair]"], unfollowed := true, recurses := true, apart := false, narrowed := true }
def ModelWalksUptoSaid : Prop := modelWalksUptoRow.holds Try.pinned (OpenSpec.upto modelWalksSpec)

/-- 'bookendlaw05.ModelNone', WHERE WHAT IT READS IS OF BULK AT MOST 1048576: true; the input reads as it did. -/
def modelNoneUptoRow : OpenClaim := { program := "ytbbklijmnknmhaa", sum := "0e8477c54f8384993105c523251e1e4f46675ec53e93d9b7b462a8b486324b8e", func := "bookend/bookendlaw05.ModelNone", spec := "modelNone", inPlace := ["slices.overlaps[bookend/api.Pair]"], unfollowed := true, recurses := true, apart := false, narrowed := true }
def ModelNoneUptoSaid : Prop := modelNoneUptoRow.holds Try.pinned (OpenSpec.upto modelNoneSpec)

end Rows
end Go.Proofs.Ytbbklijmnknmhaa
