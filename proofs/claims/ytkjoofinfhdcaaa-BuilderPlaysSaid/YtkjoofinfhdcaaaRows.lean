/-
  No cell of these rows narrows 'for every input' (looked for: loops, veiled, ifaces, maps, wideKeys, modest, calm, conditions, laid).
  DERIVED. THE GIVEN ROWS OF THIS SEAT. 7 by the template 'for every input the law returns true; each argument reads behind the call as it read before'; 0 by the template 'total and deterministic' (their statements: YtkjoofinfhdcaaaTotals.lean).
  GIVEN WITH THE SEED: the statements are not yours to turn. If you find one false, say at which input.
  Laid BY PROGRAM, IN A SANDBOX (cutbox-rows.mjs): the forced cells as the released guide's own fill.sh prints them over the translation dd69c63c67bfd34f… (all of the seat's roots in one cut). By AI agents, Wed Nov 11 2026. No macro, syntax, notation, axiom, sorry.
-/
import Derived.Test.YtkjoofinfhdcaaaChecked
import GoSem.Claim
import GoSem.ClaimJoined
import GoSem.ClaimMapViews
import Derived.JoinedTies
import Derived.KernelRfl
namespace Go.Proofs.Ytkjoofinfhdcaaa
/- THE CELL 'sum', in the pinned program and in every row, IS THE sha256 OF THE DUMP (.gsa) THAT YtkjoofinfhdcaaaProg.lean LOADS. Nothing in Lean hashes anything: it is a label: what it is worth is what the hold of that sum in a sandbox is worth. -/
noncomputable def Try.pinned : Pinned := { name := "ytkjoofinfhdcaaa", sum := "dd69c63c67bfd34f4e3830b20e33bee2237b4c376b73dba239c625e569b13df9", checked := Try.checked }
namespace Rows
def none {H : Type} : Left H := { results := [], args := [] }

/-- 'bookendlaw06.BuilderOf': WHATEVER THE INPUT: true; the input reads as it did. -/
def builderOfSpec : ChangeSpec := { name := "builderOf", fn := fun _ => fun
  | [d1, d2] => { results := [.lit (.bool true)], args := [d1, d2] }
  | _ => none }
def builderOfRow : OpenClaim := { program := "ytkjoofinfhdcaaa", sum := "dd69c63c67bfd34f4e3830b20e33bee2237b4c376b73dba239c625e569b13df9", func := "bookend/bookendlaw06.BuilderOf", spec := "builderOf", apart := false }
def BuilderOfSaid : Prop := builderOfRow.holds Try.pinned (OpenSpec.ofChange builderOfSpec)

/-- ITS FALSE NEIGHBOUR: 'it returns false'. Refute it at one input. -/
def builderOfWrong : ChangeSpec := { name := "builderOf", fn := fun _ => fun
  | [d1, d2] => { results := [.lit (.bool false)], args := [d1, d2] }
  | _ => none }
def BuilderOfWrongFalsely : Prop := builderOfRow.holds Try.pinned (OpenSpec.ofChange builderOfWrong)

/-- 'bookendlaw06.BuilderKnown': WHATEVER THE INPUT: true; the input reads as it did. -/
def builderKnownSpec : ChangeSpec := { name := "builderKnown", fn := fun _ => fun
  | [] => { results := [.lit (.bool true)], args := [] }
  | _ => none }
def builderKnownRow : OpenClaim := { program := "ytkjoofinfhdcaaa", sum := "dd69c63c67bfd34f4e3830b20e33bee2237b4c376b73dba239c625e569b13df9", func := "bookend/bookendlaw06.BuilderKnown", spec := "builderKnown", apart := false }
def BuilderKnownSaid : Prop := builderKnownRow.holds Try.pinned (OpenSpec.ofChange builderKnownSpec)

/-- ITS FALSE NEIGHBOUR: 'it returns false'. Refute it at one input. -/
def builderKnownWrong : ChangeSpec := { name := "builderKnown", fn := fun _ => fun
  | [] => { results := [.lit (.bool false)], args := [] }
  | _ => none }
def BuilderKnownWrongFalsely : Prop := builderKnownRow.holds Try.pinned (OpenSpec.ofChange builderKnownWrong)

/-- 'bookendlaw06.BuilderBuilds': WHATEVER THE INPUT: true; the input reads as it did. -/
def builderBuildsSpec : ChangeSpec := { name := "builderBuilds", fn := fun _ => fun
  | [d1, d2, d3] => { results := [.lit (.bool true)], args := [d1, d2, d3] }
  | _ => none }
def builderBuildsRow : OpenClaim := { program := "ytkjoofinfhdcaaa", sum := "dd69c63c67bfd34f4e3830b20e33bee2237b4c376b73dba239c625e569b13df9", func := "bookend/bookendlaw06.BuilderBuilds", spec := "builderBuilds", apart := false }
def BuilderBuildsSaid : Prop := builderBuildsRow.holds Try.pinned (OpenSpec.ofChange builderBuildsSpec)

/-- ITS FALSE NEIGHBOUR: 'it returns false'. Refute it at one input. -/
def builderBuildsWrong : ChangeSpec := { name := "builderBuilds", fn := fun _ => fun
  | [d1, d2, d3] => { results := [.lit (.bool false)], args := [d1, d2, d3] }
  | _ => none }
def BuilderBuildsWrongFalsely : Prop := builderBuildsRow.holds Try.pinned (OpenSpec.ofChange builderBuildsWrong)

/-- 'bookendlaw06.BuilderRoom': WHATEVER THE INPUT: true; the input reads as it did. -/
def builderRoomSpec : ChangeSpec := { name := "builderRoom", fn := fun _ => fun
  | [d1, d2, d3] => { results := [.lit (.bool true)], args := [d1, d2, d3] }
  | _ => none }
def builderRoomRow : OpenClaim := { program := "ytkjoofinfhdcaaa", sum := "dd69c63c67bfd34f4e3830b20e33bee2237b4c376b73dba239c625e569b13df9", func := "bookend/bookendlaw06.BuilderRoom", spec := "builderRoom", apart := false }
def BuilderRoomSaid : Prop := builderRoomRow.holds Try.pinned (OpenSpec.ofChange builderRoomSpec)

/-- ITS FALSE NEIGHBOUR: 'it returns false'. Refute it at one input. -/
def builderRoomWrong : ChangeSpec := { name := "builderRoom", fn := fun _ => fun
  | [d1, d2, d3] => { results := [.lit (.bool false)], args := [d1, d2, d3] }
  | _ => none }
def BuilderRoomWrongFalsely : Prop := builderRoomRow.holds Try.pinned (OpenSpec.ofChange builderRoomWrong)

/-- 'bookendlaw06.BuilderPlays': WHATEVER THE INPUT: true; the input reads as it did. -/
def builderPlaysSpec : ChangeSpec := { name := "builderPlays", fn := fun _ => fun
  | [d1, d2] => { results := [.lit (.bool true)], args := [d1, d2] }
  | _ => none }
def builderPlaysRow : OpenClaim := { program := "ytkjoofinfhdcaaa", sum := "dd69c63c67bfd34f4e3830b20e33bee2237b4c376b73dba239c625e569b13df9", func := "bookend/bookendlaw06.BuilderPlays", spec := "builderPlays", apart := false }
def BuilderPlaysSaid : Prop := builderPlaysRow.holds Try.pinned (OpenSpec.ofChange builderPlaysSpec)

/-- ITS FALSE NEIGHBOUR: 'it returns false'. Refute it at one input. -/
def builderPlaysWrong : ChangeSpec := { name := "builderPlays", fn := fun _ => fun
  | [d1, d2] => { results := [.lit (.bool false)], args := [d1, d2] }
  | _ => none }
def BuilderPlaysWrongFalsely : Prop := builderPlaysRow.holds Try.pinned (OpenSpec.ofChange builderPlaysWrong)

/-- 'bookendlaw06.BuilderNone': WHATEVER THE INPUT: true; the input reads as it did. -/
def builderNoneSpec : ChangeSpec := { name := "builderNone", fn := fun _ => fun
  | [d] => { results := [.lit (.bool true)], args := [d] }
  | _ => none }
def builderNoneRow : OpenClaim := { program := "ytkjoofinfhdcaaa", sum := "dd69c63c67bfd34f4e3830b20e33bee2237b4c376b73dba239c625e569b13df9", func := "bookend/bookendlaw06.BuilderNone", spec := "builderNone", apart := false }
def BuilderNoneSaid : Prop := builderNoneRow.holds Try.pinned (OpenSpec.ofChange builderNoneSpec)

/-- ITS FALSE NEIGHBOUR: 'it returns false'. Refute it at one input. -/
def builderNoneWrong : ChangeSpec := { name := "builderNone", fn := fun _ => fun
  | [d] => { results := [.lit (.bool false)], args := [d] }
  | _ => none }
def BuilderNoneWrongFalsely : Prop := builderNoneRow.holds Try.pinned (OpenSpec.ofChange builderNoneWrong)

/-- 'bookendlaw06.BuilderForks': WHATEVER THE INPUT: true; the input reads as it did. -/
def builderForksSpec : ChangeSpec := { name := "builderForks", fn := fun _ => fun
  | [d1, d2] => { results := [.lit (.bool true)], args := [d1, d2] }
  | _ => none }
def builderForksRow : OpenClaim := { program := "ytkjoofinfhdcaaa", sum := "dd69c63c67bfd34f4e3830b20e33bee2237b4c376b73dba239c625e569b13df9", func := "bookend/bookendlaw06.BuilderForks", spec := "builderForks", apart := false }
def BuilderForksSaid : Prop := builderForksRow.holds Try.pinned (OpenSpec.ofChange builderForksSpec)

/-- ITS FALSE NEIGHBOUR: 'it returns false'. Refute it at one input. -/
def builderForksWrong : ChangeSpec := { name := "builderForks", fn := fun _ => fun
  | [d1, d2] => { results := [.lit (.bool false)], args := [d1, d2] }
  | _ => none }
def BuilderForksWrongFalsely : Prop := builderForksRow.holds Try.pinned (OpenSpec.ofChange builderForksWrong)

/- THE SECOND FORM. 'bulk': how many values and letters a reading holds, each counted each time it is reached (what is shared counts as often as it is met; a slice's spare places count too). A statement '..UptoSaid' is the law's where the arguments, and the package variables that the reading takes, are together of bulk at most 1048576: NARROWER than '..Said'. Prove '..Said' where nothing that the law and all that it calls make is longer than what came in: it says more and counts as full. Else prove '..UptoSaid'. A law counts once. -/
mutual
def uptoBulk {H : Type} : DataW H → Nat
  | .lit (.string bytes) => bytes.length + 1
  | .lit _ => 1
  | .nil => 1
  | .ptr d => uptoBulk d + 1
  | .slice elems spare => uptoBulkAll elems + uptoBulkAll spare + 1
  | .agg parts => uptoBulkAll parts + 1
  | .iface _ d => uptoBulk d + 1
  | .map entries => uptoBulkEntries entries + 1
  | .held _ => 1
def uptoBulkAll {H : Type} : List (DataW H) → Nat
  | [] => 0
  | d :: r => uptoBulk d + uptoBulkAll r
def uptoBulkEntries {H : Type} : List (Lit × DataW H) → Nat
  | [] => 0
  | x :: r => uptoBulkEntry x + uptoBulkEntries r
def uptoBulkEntry {H : Type} : Lit × DataW H → Nat
  | (.string bytes, d) => bytes.length + uptoBulk d + 1
  | (_, d) => uptoBulk d + 1
 end
def uptoSmall : (H : Type) → List (DataW H) → Bool := fun _ ds => decide (uptoBulkAll ds ≤ 1048576)
def OpenSpec.upto (s : _root_.Go.ChangeSpec) : _root_.Go.OpenSpec := { _root_.Go.OpenSpec.ofChange s with cond := some uptoSmall }

/-- 'bookendlaw06.BuilderOf', WHERE WHAT IT READS IS OF BULK AT MOST 1048576: true; the input reads as it did. -/
def builderOfUptoRow : OpenClaim := { program := "ytkjoofinfhdcaaa", sum := "dd69c63c67bfd34f4e3830b20e33bee2237b4c376b73dba239c625e569b13df9", func := "bookend/bookendlaw06.BuilderOf", spec := "builderOf", apart := false, narrowed := true }
def BuilderOfUptoSaid : Prop := builderOfUptoRow.holds Try.pinned (OpenSpec.upto builderOfSpec)

/-- 'bookendlaw06.BuilderKnown', WHERE WHAT IT READS IS OF BULK AT MOST 1048576: true; the input reads as it did. -/
def builderKnownUptoRow : OpenClaim := { program := "ytkjoofinfhdcaaa", sum := "dd69c63c67bfd34f4e3830b20e33bee2237b4c376b73dba239c625e569b13df9", func := "bookend/bookendlaw06.BuilderKnown", spec := "builderKnown", apart := false, narrowed := true }
def BuilderKnownUptoSaid : Prop := builderKnownUptoRow.holds Try.pinned (OpenSpec.upto builderKnownSpec)

/-- 'bookendlaw06.BuilderBuilds', WHERE WHAT IT READS IS OF BULK AT MOST 1048576: true; the input reads as it did. -/
def builderBuildsUptoRow : OpenClaim := { program := "ytkjoofinfhdcaaa", sum := "dd69c63c67bfd34f4e3830b20e33bee2237b4c376b73dba239c625e569b13df9", func := "bookend/bookendlaw06.BuilderBuilds", spec := "builderBuilds", apart := false, narrowed := true }
def BuilderBuildsUptoSaid : Prop := builderBuildsUptoRow.holds Try.pinned (OpenSpec.upto builderBuildsSpec)

/-- 'bookendlaw06.BuilderRoom', WHERE WHAT IT READS IS OF BULK AT MOST 1048576: true; the input reads as it did. -/
def builderRoomUptoRow : OpenClaim := { program := "ytkjoofinfhdcaaa", sum := "dd69c63c67bfd34f4e3830b20e33bee2237b4c376b73dba239c625e569b13df9", func := "bookend/bookendlaw06.BuilderRoom", spec := "builderRoom", apart := false, narrowed := true }
def BuilderRoomUptoSaid : Prop := builderRoomUptoRow.holds Try.pinned (OpenSpec.upto builderRoomSpec)

/-- 'bookendlaw06.BuilderPlays', WHERE WHAT IT READS IS OF BULK AT MOST 1048576: true; the input reads as it did. -/
def builderPlaysUptoRow : OpenClaim := { program := "ytkjoofinfhdcaaa", sum := "dd69c63c67bfd34f4e3830b20e33bee2237b4c376b73dba239c625e569b13df9", func := "bookend/bookendlaw06.BuilderPlays", spec := "builderPlays", apart := false, narrowed := true }
def BuilderPlaysUptoSaid : Prop := builderPlaysUptoRow.holds Try.pinned (OpenSpec.upto builderPlaysSpec)

/-- 'bookendlaw06.BuilderNone', WHERE WHAT IT READS IS OF BULK AT MOST 1048576: true; the input reads as it did. -/
def builderNoneUptoRow : OpenClaim := { program := "ytkjoofinfhdcaaa", sum := "dd69c63c67bfd34f4e3830b20e33bee2237b4c376b73dba239c625e569b13df9", func := "bookend/bookendlaw06.BuilderNone", spec := "builderNone", apart := false, narrowed := true }
def BuilderNoneUptoSaid : Prop := builderNoneUptoRow.holds Try.pinned (OpenSpec.upto builderNoneSpec)

/-- 'bookendlaw06.BuilderForks', WHERE WHAT IT READS IS OF BULK AT MOST 1048576: true; the input reads as it did. -/
def builderForksUptoRow : OpenClaim := { program := "ytkjoofinfhdcaaa", sum := "dd69c63c67bfd34f4e3830b20e33bee2237b4c376b73dba239c625e569b13df9", func := "bookend/bookendlaw06.BuilderForks", spec := "builderForks", apart := false, narrowed := true }
def BuilderForksUptoSaid : Prop := builderForksUptoRow.holds Try.pinned (OpenSpec.upto builderForksSpec)

end Rows
end Go.Proofs.Ytkjoofinfhdcaaa
