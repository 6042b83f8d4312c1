/-
  No cell of these rows narrows 'for every input' (looked for: loops, veiled, ifaces, maps, wideKeys, modest, calm, conditions, laid).
  DERIVED. THE GIVEN ROWS OF THIS SEAT. 6 by the template 'for every input the law returns true; each argument reads behind the call as it read before'; 0 by the template 'total and deterministic' (their statements: YtjinjnakedhmdaaTotals.lean).
  GIVEN WITH THE SEED: the statements are not yours to turn. If you find one false, say at which input.
  Laid BY PROGRAM, IN A SANDBOX (cutbox-rows.mjs): the forced cells as the released guide's own fill.sh prints them over the translation 180f1c4403510491… (all of the seat's roots in one cut). By AI agents, Wed Nov 11 2026. No macro, syntax, notation, axiom, sorry.
-/
import Derived.Test.YtjinjnakedhmdaaChecked
import GoSem.Claim
import GoSem.ClaimJoined
import GoSem.ClaimMapViews
import Derived.JoinedTies
import Derived.KernelRfl
namespace Go.Proofs.Ytjinjnakedhmdaa
/- THE CELL 'sum', in the pinned program and in every row, IS THE sha256 OF THE DUMP (.gsa) THAT YtjinjnakedhmdaaProg.lean LOADS. Nothing in Lean hashes anything: it is a label: what it is worth is what the hold of that sum in a sandbox is worth. -/
noncomputable def Try.pinned : Pinned := { name := "ytjinjnakedhmdaa", sum := "180f1c4403510491ddb74f14ff48cc53b91f08a115e14eb2c106d7e3ed2c2141", checked := Try.checked }
namespace Rows
def none {H : Type} : Left H := { results := [], args := [] }

/-- 'bookendlaw15.LevelsSizes': WHATEVER THE INPUT: true; the input reads as it did. -/
def levelsSizesSpec : ChangeSpec := { name := "levelsSizes", fn := fun _ => fun
  | [d1, d2, d3] => { results := [.lit (.bool true)], args := [d1, d2, d3] }
  | _ => none }
def levelsSizesRow : OpenClaim := { program := "ytjinjnakedhmdaa", sum := "180f1c4403510491ddb74f14ff48cc53b91f08a115e14eb2c106d7e3ed2c2141", func := "bookend/bookendlaw15.LevelsSizes", spec := "levelsSizes", unfollowed := true, recurses := true, apart := false }
def LevelsSizesSaid : Prop := levelsSizesRow.holds Try.pinned (OpenSpec.ofChange levelsSizesSpec)

/-- ITS FALSE NEIGHBOUR: 'it returns false'. Refute it at one input. -/
def levelsSizesWrong : ChangeSpec := { name := "levelsSizes", fn := fun _ => fun
  | [d1, d2, d3] => { results := [.lit (.bool false)], args := [d1, d2, d3] }
  | _ => none }
def LevelsSizesWrongFalsely : Prop := levelsSizesRow.holds Try.pinned (OpenSpec.ofChange levelsSizesWrong)

/-- 'bookendlaw15.LevelsOrder': WHATEVER THE INPUT: true; the input reads as it did. -/
def levelsOrderSpec : ChangeSpec := { name := "levelsOrder", fn := fun _ => fun
  | [d1, d2, d3] => { results := [.lit (.bool true)], args := [d1, d2, d3] }
  | _ => none }
def levelsOrderRow : OpenClaim := { program := "ytjinjnakedhmdaa", sum := "180f1c4403510491ddb74f14ff48cc53b91f08a115e14eb2c106d7e3ed2c2141", func := "bookend/bookendlaw15.LevelsOrder", spec := "levelsOrder", unfollowed := true, recurses := true, apart := false }
def LevelsOrderSaid : Prop := levelsOrderRow.holds Try.pinned (OpenSpec.ofChange levelsOrderSpec)

/-- ITS FALSE NEIGHBOUR: 'it returns false'. Refute it at one input. -/
def levelsOrderWrong : ChangeSpec := { name := "levelsOrder", fn := fun _ => fun
  | [d1, d2, d3] => { results := [.lit (.bool false)], args := [d1, d2, d3] }
  | _ => none }
def LevelsOrderWrongFalsely : Prop := levelsOrderRow.holds Try.pinned (OpenSpec.ofChange levelsOrderWrong)

/-- 'bookendlaw15.LevelsCounts': WHATEVER THE INPUT: true; the input reads as it did. -/
def levelsCountsSpec : ChangeSpec := { name := "levelsCounts", fn := fun _ => fun
  | [d1, d2, d3] => { results := [.lit (.bool true)], args := [d1, d2, d3] }
  | _ => none }
def levelsCountsRow : OpenClaim := { program := "ytjinjnakedhmdaa", sum := "180f1c4403510491ddb74f14ff48cc53b91f08a115e14eb2c106d7e3ed2c2141", func := "bookend/bookendlaw15.LevelsCounts", spec := "levelsCounts", unfollowed := true, recurses := true, apart := false }
def LevelsCountsSaid : Prop := levelsCountsRow.holds Try.pinned (OpenSpec.ofChange levelsCountsSpec)

/-- ITS FALSE NEIGHBOUR: 'it returns false'. Refute it at one input. -/
def levelsCountsWrong : ChangeSpec := { name := "levelsCounts", fn := fun _ => fun
  | [d1, d2, d3] => { results := [.lit (.bool false)], args := [d1, d2, d3] }
  | _ => none }
def LevelsCountsWrongFalsely : Prop := levelsCountsRow.holds Try.pinned (OpenSpec.ofChange levelsCountsWrong)

/-- 'bookendlaw15.LevelsKnown': WHATEVER THE INPUT: true; the input reads as it did. -/
def levelsKnownSpec : ChangeSpec := { name := "levelsKnown", fn := fun _ => fun
  | [] => { results := [.lit (.bool true)], args := [] }
  | _ => none }
def levelsKnownRow : OpenClaim := { program := "ytjinjnakedhmdaa", sum := "180f1c4403510491ddb74f14ff48cc53b91f08a115e14eb2c106d7e3ed2c2141", func := "bookend/bookendlaw15.LevelsKnown", spec := "levelsKnown", unfollowed := true, recurses := true, apart := false }
def LevelsKnownSaid : Prop := levelsKnownRow.holds Try.pinned (OpenSpec.ofChange levelsKnownSpec)

/-- ITS FALSE NEIGHBOUR: 'it returns false'. Refute it at one input. -/
def levelsKnownWrong : ChangeSpec := { name := "levelsKnown", fn := fun _ => fun
  | [] => { results := [.lit (.bool false)], args := [] }
  | _ => none }
def LevelsKnownWrongFalsely : Prop := levelsKnownRow.holds Try.pinned (OpenSpec.ofChange levelsKnownWrong)

/-- 'bookendlaw15.LevelsChecks': WHATEVER THE INPUT: true; the input reads as it did. -/
def levelsChecksSpec : ChangeSpec := { name := "levelsChecks", fn := fun _ => fun
  | [d1, d2] => { results := [.lit (.bool true)], args := [d1, d2] }
  | _ => none }
def levelsChecksRow : OpenClaim := { program := "ytjinjnakedhmdaa", sum := "180f1c4403510491ddb74f14ff48cc53b91f08a115e14eb2c106d7e3ed2c2141", func := "bookend/bookendlaw15.LevelsChecks", spec := "levelsChecks", unfollowed := true, recurses := true, apart := false }
def LevelsChecksSaid : Prop := levelsChecksRow.holds Try.pinned (OpenSpec.ofChange levelsChecksSpec)

/-- ITS FALSE NEIGHBOUR: 'it returns false'. Refute it at one input. -/
def levelsChecksWrong : ChangeSpec := { name := "levelsChecks", fn := fun _ => fun
  | [d1, d2] => { results := [.lit (.bool false)], args := [d1, d2] }
  | _ => none }
def LevelsChecksWrongFalsely : Prop := levelsChecksRow.holds Try.pinned (OpenSpec.ofChange levelsChecksWrong)

/-- 'bookendlaw15.LevelsMoves': WHATEVER THE INPUT: true; the input reads as it did. -/
def levelsMovesSpec : ChangeSpec := { name := "levelsMoves", fn := fun _ => fun
  | [d1, d2, d3] => { results := [.lit (.bool true)], args := [d1, d2, d3] }
  | _ => none }
def levelsMovesRow : OpenClaim := { program := "ytjinjnakedhmdaa", sum := "180f1c4403510491ddb74f14ff48cc53b91f08a115e14eb2c106d7e3ed2c2141", func := "bookend/bookendlaw15.LevelsMoves", spec := "levelsMoves", unfollowed := true, recurses := true, apart := false }
def LevelsMovesSaid : Prop := levelsMovesRow.holds Try.pinned (OpenSpec.ofChange levelsMovesSpec)

/-- ITS FALSE NEIGHBOUR: 'it returns false'. Refute it at one input. -/
def levelsMovesWrong : ChangeSpec := { name := "levelsMoves", fn := fun _ => fun
  | [d1, d2, d3] => { results := [.lit (.bool false)], args := [d1, d2, d3] }
  | _ => none }
def LevelsMovesWrongFalsely : Prop := levelsMovesRow.holds Try.pinned (OpenSpec.ofChange levelsMovesWrong)

/- THE SECOND FORM. 'bulk': how many values and letters a reading holds, each counted each time it is reached (what is shared counts as often as it is met; a slice's spare places count too). A statement '..UptoSaid' is the law's where the arguments, and the package variables that the reading takes, are together of bulk at most 1048576: NARROWER than '..Said'. Prove '..Said' where nothing that the law and all that it calls make is longer than what came in: it says more and counts as full. Else prove '..UptoSaid'. A law counts once. -/
mutual
def uptoBulk {H : Type} : DataW H → Nat
  | .lit (.string bytes) => bytes.length + 1
  | .lit _ => 1
  | .nil => 1
  | .ptr d => uptoBulk d + 1
  | .slice elems spare => uptoBulkAll elems + uptoBulkAll spare + 1
  | .agg parts => uptoBulkAll parts + 1
  | .iface _ d => uptoBulk d + 1
  | .map entries => uptoBulkEntries entries + 1
  | .held _ => 1
def uptoBulkAll {H : Type} : List (DataW H) → Nat
  | [] => 0
  | d :: r => uptoBulk d + uptoBulkAll r
def uptoBulkEntries {H : Type} : List (Lit × DataW H) → Nat
  | [] => 0
  | x :: r => uptoBulkEntry x + uptoBulkEntries r
def uptoBulkEntry {H : Type} : Lit × DataW H → Nat
  | (.string bytes, d) => bytes.length + uptoBulk d + 1
  | (_, d) => uptoBulk d + 1
 end
def uptoSmall : (H : Type) → List (DataW H) → Bool := fun _ ds => decide (uptoBulkAll ds ≤ 1048576)
def OpenSpec.upto (s : _root_.Go.ChangeSpec) : _root_.Go.OpenSpec := { _root_.Go.OpenSpec.ofChange s with cond := some uptoSmall }

/-- 'bookendlaw15.LevelsSizes', WHERE WHAT IT READS IS OF BULK AT MOST 1048576: true; the input reads as it did. -/
def levelsSizesUptoRow : OpenClaim := { program := "ytjinjnakedhmdaa", sum := "180f1c4403510491ddb74f14ff48cc53b91f08a115e14eb2c106d7e3ed2c2141", func := "bookend/bookendlaw15.LevelsSizes", spec := "levelsSizes", unfollowed := true, recurses := true, apart := false, narrowed := true }
def LevelsSizesUptoSaid : Prop := levelsSizesUptoRow.holds Try.pinned (OpenSpec.upto levelsSizesSpec)

/-- 'bookendlaw15.LevelsOrder', WHERE WHAT IT READS IS OF BULK AT MOST 1048576: true; the input reads as it did. -/
def levelsOrderUptoRow : OpenClaim := { program := "ytjinjnakedhmdaa", sum := "180f1c4403510491ddb74f14ff48cc53b91f08a115e14eb2c106d7e3ed2c2141", func := "bookend/bookendlaw15.LevelsOrder", spec := "levelsOrder", unfollowed := true, recurses := true, apart := false, narrowed := true }
def LevelsOrderUptoSaid : Prop := levelsOrderUptoRow.holds Try.pinned (OpenSpec.upto levelsOrderSpec)

/-- 'bookendlaw15.LevelsCounts', WHERE WHAT IT READS IS OF BULK AT MOST 1048576: true; the input reads as it did. -/
def levelsCountsUptoRow : OpenClaim := { program := "ytjinjnakedhmdaa", sum := "180f1c4403510491ddb74f14ff48cc53b91f08a115e14eb2c106d7e3ed2c2141", func := "bookend/bookendlaw15.LevelsCounts", spec := "levelsCounts", unfollowed := true, recurses := true, apart := false, narrowed := true }
def LevelsCountsUptoSaid : Prop := levelsCountsUptoRow.holds Try.pinned (OpenSpec.upto levelsCountsSpec)

/-- 'bookendlaw15.LevelsKnown', WHERE WHAT IT READS IS OF BULK AT MOST 1048576: true; the input reads as it did. -/
def levelsKnownUptoRow : OpenClaim := { program := "ytjinjnakedhmdaa", sum := "180f1c4403510491ddb74f14ff48cc53b91f08a115e14eb2c106d7e3ed2c2141", func := "bookend/bookendlaw15.LevelsKnown", spec := "levelsKnown", unfollowed := true, recurses := true, apart := false, narrowed := true }
def LevelsKnownUptoSaid : Prop := levelsKnownUptoRow.holds Try.pinned (OpenSpec.upto levelsKnownSpec)

/-- 'bookendlaw15.LevelsChecks', WHERE WHAT IT READS IS OF BULK AT MOST 1048576: true; the input reads as it did. -/
def levelsChecksUptoRow : OpenClaim := { program := "ytjinjnakedhmdaa", sum := "180f1c4403510491ddb74f14ff48cc53b91f08a115e14eb2c106d7e3ed2c2141", func := "bookend/bookendlaw15.LevelsChecks", spec := "levelsChecks", unfollowed := true, recurses := true, apart := false, narrowed := true }
def LevelsChecksUptoSaid : Prop := levelsChecksUptoRow.holds Try.pinned (OpenSpec.upto levelsChecksSpec)

/-- 'bookendlaw15.LevelsMoves', WHERE WHAT IT READS IS OF BULK AT MOST 1048576: true; the input reads as it did. -/
def levelsMovesUptoRow : OpenClaim := { program := "ytjinjnakedhmdaa", sum := "180f1c4403510491ddb74f14ff48cc53b91f08a115e14eb2c106d7e3ed2c2141", func := "bookend/bookendlaw15.LevelsMoves", spec := "levelsMoves", unfollowed := true, recurses := true, apart := false, narrowed := true }
def LevelsMovesUptoSaid : Prop := levelsMovesUptoRow.holds Try.pinned (OpenSpec.upto levelsMovesSpec)

end Rows
end Go.Proofs.Ytjinjnakedhmdaa
