/-
  No cell of these rows narrows 'for every input' (looked for: loops, veiled, ifaces, maps, wideKeys, modest, calm, conditions, laid).
  DERIVED. THE GIVEN ROWS OF THIS SEAT. 7 by the template 'for every input the law returns true; each argument reads behind the call as it read before'; 0 by the template 'total and deterministic' (their statements: YtadckioheabliaaTotals.lean).
  GIVEN WITH THE SEED: the statements are not yours to turn. If you find one false, say at which input.
  Laid BY PROGRAM, IN A SANDBOX (cutbox-rows.mjs): the forced cells as the released guide's own fill.sh prints them over the translation 939657ea44f941bb… (all of the seat's roots in one cut). By AI agents, Wed Nov 11 2026. No macro, syntax, notation, axiom, sorry.
-/
import Derived.Test.YtadckioheabliaaChecked
import GoSem.Claim
import GoSem.ClaimJoined
import GoSem.ClaimMapViews
import Derived.JoinedTies
import Derived.KernelRfl
namespace Go.Proofs.Ytadckioheabliaa
/- THE CELL 'sum', in the pinned program and in every row, IS THE sha256 OF THE DUMP (.gsa) THAT YtadckioheabliaaProg.lean LOADS. Nothing in Lean hashes anything: it is a label: what it is worth is what the hold of that sum in a sandbox is worth. -/
noncomputable def Try.pinned : Pinned := { name := "ytadckioheabliaa", sum := "939657ea44f941bb8ea5c9d34dd29bcfd6f398f6d9643b003684e2250e8406e8", checked := Try.checked }
namespace Rows
def none {H : Type} : Left H := { results := [], args := [] }

/-- 'bookendlaw24.RefsTables': WHATEVER THE INPUT: true; the input reads as it did. -/
def refsTablesSpec : ChangeSpec := { name := "refsTables", fn := fun _ => fun
  | [d1, d2] => { results := [.lit (.bool true)], args := [d1, d2] }
  | _ => none }
def refsTablesRow : OpenClaim := { program := "ytadckioheabliaa", sum := "939657ea44f941bb8ea5c9d34dd29bcfd6f398f6d9643b003684e2250e8406e8", func := "bookend/bookendlaw24.RefsTables", spec := "refsTables", unfollowed := true, recurses := true, apart := false }
def RefsTablesSaid : Prop := refsTablesRow.holds Try.pinned (OpenSpec.ofChange refsTablesSpec)

/-- ITS FALSE NEIGHBOUR: 'it returns false'. Refute it at one input. -/
def refsTablesWrong : ChangeSpec := { name := "refsTables", fn := fun _ => fun
  | [d1, d2] => { results := [.lit (.bool false)], args := [d1, d2] }
  | _ => none }
def RefsTablesWrongFalsely : Prop := refsTablesRow.holds Try.pinned (OpenSpec.ofChange refsTablesWrong)

/-- 'bookendlaw24.RefsChanges': WHATEVER THE INPUT: true; the input reads as it did. -/
def refsChangesSpec : ChangeSpec := { name := "refsChanges", fn := fun _ => fun
  | [d1, d2] => { results := [.lit (.bool true)], args := [d1, d2] }
  | _ => none }
def refsChangesRow : OpenClaim := { program := "ytadckioheabliaa", sum := "939657ea44f941bb8ea5c9d34dd29bcfd6f398f6d9643b003684e2250e8406e8", func := "bookend/bookendlaw24.RefsChanges", spec := "refsChanges", unfollowed := true, recurses := true, apart := false }
def RefsChangesSaid : Prop := refsChangesRow.holds Try.pinned (OpenSpec.ofChange refsChangesSpec)

/-- ITS FALSE NEIGHBOUR: 'it returns false'. Refute it at one input. -/
def refsChangesWrong : ChangeSpec := { name := "refsChanges", fn := fun _ => fun
  | [d1, d2] => { results := [.lit (.bool false)], args := [d1, d2] }
  | _ => none }
def RefsChangesWrongFalsely : Prop := refsChangesRow.holds Try.pinned (OpenSpec.ofChange refsChangesWrong)

/-- 'bookendlaw24.RefsUndone': WHATEVER THE INPUT: true; the input reads as it did. -/
def refsUndoneSpec : ChangeSpec := { name := "refsUndone", fn := fun _ => fun
  | [d1, d2] => { results := [.lit (.bool true)], args := [d1, d2] }
  | _ => none }
def refsUndoneRow : OpenClaim := { program := "ytadckioheabliaa", sum := "939657ea44f941bb8ea5c9d34dd29bcfd6f398f6d9643b003684e2250e8406e8", func := "bookend/bookendlaw24.RefsUndone", spec := "refsUndone", unfollowed := true, recurses := true, apart := false }
def RefsUndoneSaid : Prop := refsUndoneRow.holds Try.pinned (OpenSpec.ofChange refsUndoneSpec)

/-- ITS FALSE NEIGHBOUR: 'it returns false'. Refute it at one input. -/
def refsUndoneWrong : ChangeSpec := { name := "refsUndone", fn := fun _ => fun
  | [d1, d2] => { results := [.lit (.bool false)], args := [d1, d2] }
  | _ => none }
def RefsUndoneWrongFalsely : Prop := refsUndoneRow.holds Try.pinned (OpenSpec.ofChange refsUndoneWrong)

/-- 'bookendlaw24.RefsExact': WHATEVER THE INPUT: true; the input reads as it did. -/
def refsExactSpec : ChangeSpec := { name := "refsExact", fn := fun _ => fun
  | [d1, d2] => { results := [.lit (.bool true)], args := [d1, d2] }
  | _ => none }
def refsExactRow : OpenClaim := { program := "ytadckioheabliaa", sum := "939657ea44f941bb8ea5c9d34dd29bcfd6f398f6d9643b003684e2250e8406e8", func := "bookend/bookendlaw24.RefsExact", spec := "refsExact", unfollowed := true, recurses := true, apart := false }
def RefsExactSaid : Prop := refsExactRow.holds Try.pinned (OpenSpec.ofChange refsExactSpec)

/-- ITS FALSE NEIGHBOUR: 'it returns false'. Refute it at one input. -/
def refsExactWrong : ChangeSpec := { name := "refsExact", fn := fun _ => fun
  | [d1, d2] => { results := [.lit (.bool false)], args := [d1, d2] }
  | _ => none }
def RefsExactWrongFalsely : Prop := refsExactRow.holds Try.pinned (OpenSpec.ofChange refsExactWrong)

/-- 'bookendlaw24.RefsPairs': WHATEVER THE INPUT: true; the input reads as it did. -/
def refsPairsSpec : ChangeSpec := { name := "refsPairs", fn := fun _ => fun
  | [d1, d2, d3] => { results := [.lit (.bool true)], args := [d1, d2, d3] }
  | _ => none }
def refsPairsRow : OpenClaim := { program := "ytadckioheabliaa", sum := "939657ea44f941bb8ea5c9d34dd29bcfd6f398f6d9643b003684e2250e8406e8", func := "bookend/bookendlaw24.RefsPairs", spec := "refsPairs", unfollowed := true, recurses := true, apart := false }
def RefsPairsSaid : Prop := refsPairsRow.holds Try.pinned (OpenSpec.ofChange refsPairsSpec)

/-- ITS FALSE NEIGHBOUR: 'it returns false'. Refute it at one input. -/
def refsPairsWrong : ChangeSpec := { name := "refsPairs", fn := fun _ => fun
  | [d1, d2, d3] => { results := [.lit (.bool false)], args := [d1, d2, d3] }
  | _ => none }
def RefsPairsWrongFalsely : Prop := refsPairsRow.holds Try.pinned (OpenSpec.ofChange refsPairsWrong)

/-- 'bookendlaw24.RefsMerged': WHATEVER THE INPUT: true; the input reads as it did. -/
def refsMergedSpec : ChangeSpec := { name := "refsMerged", fn := fun _ => fun
  | [d1, d2] => { results := [.lit (.bool true)], args := [d1, d2] }
  | _ => none }
def refsMergedRow : OpenClaim := { program := "ytadckioheabliaa", sum := "939657ea44f941bb8ea5c9d34dd29bcfd6f398f6d9643b003684e2250e8406e8", func := "bookend/bookendlaw24.RefsMerged", spec := "refsMerged", unfollowed := true, recurses := true, apart := false }
def RefsMergedSaid : Prop := refsMergedRow.holds Try.pinned (OpenSpec.ofChange refsMergedSpec)

/-- ITS FALSE NEIGHBOUR: 'it returns false'. Refute it at one input. -/
def refsMergedWrong : ChangeSpec := { name := "refsMerged", fn := fun _ => fun
  | [d1, d2] => { results := [.lit (.bool false)], args := [d1, d2] }
  | _ => none }
def RefsMergedWrongFalsely : Prop := refsMergedRow.holds Try.pinned (OpenSpec.ofChange refsMergedWrong)

/-- 'bookendlaw24.RefsKnown': WHATEVER THE INPUT: true; the input reads as it did. -/
def refsKnownSpec : ChangeSpec := { name := "refsKnown", fn := fun _ => fun
  | [] => { results := [.lit (.bool true)], args := [] }
  | _ => none }
def refsKnownRow : OpenClaim := { program := "ytadckioheabliaa", sum := "939657ea44f941bb8ea5c9d34dd29bcfd6f398f6d9643b003684e2250e8406e8", func := "bookend/bookendlaw24.RefsKnown", spec := "refsKnown", unfollowed := true, recurses := true, apart := false }
def RefsKnownSaid : Prop := refsKnownRow.holds Try.pinned (OpenSpec.ofChange refsKnownSpec)

/-- ITS FALSE NEIGHBOUR: 'it returns false'. Refute it at one input. -/
def refsKnownWrong : ChangeSpec := { name := "refsKnown", fn := fun _ => fun
  | [] => { results := [.lit (.bool false)], args := [] }
  | _ => none }
def RefsKnownWrongFalsely : Prop := refsKnownRow.holds Try.pinned (OpenSpec.ofChange refsKnownWrong)

/- THE SECOND FORM. 'bulk': how many values and letters a reading holds, each counted each time it is reached (what is shared counts as often as it is met; a slice's spare places count too). A statement '..UptoSaid' is the law's where the arguments, and the package variables that the reading takes, are together of bulk at most 1048576: NARROWER than '..Said'. Prove '..Said' where nothing that the law and all that it calls make is longer than what came in: it says more and counts as full. Else prove '..UptoSaid'. A law counts once. -/
mutual
def uptoBulk {H : Type} : DataW H → Nat
  | .lit (.string bytes) => bytes.length + 1
  | .lit _ => 1
  | .nil => 1
  | .ptr d => uptoBulk d + 1
  | .slice elems spare => uptoBulkAll elems + uptoBulkAll spare + 1
  | .agg parts => uptoBulkAll parts + 1
  | .iface _ d => uptoBulk d + 1
  | .map entries => uptoBulkEntries entries + 1
  | .held _ => 1
def uptoBulkAll {H : Type} : List (DataW H) → Nat
  | [] => 0
  | d :: r => uptoBulk d + uptoBulkAll r
def uptoBulkEntries {H : Type} : List (Lit × DataW H) → Nat
  | [] => 0
  | x :: r => uptoBulkEntry x + uptoBulkEntries r
def uptoBulkEntry {H : Type} : Lit × DataW H → Nat
  | (.string bytes, d) => bytes.length + uptoBulk d + 1
  | (_, d) => uptoBulk d + 1
 end
def uptoSmall : (H : Type) → List (DataW H) → Bool := fun _ ds => decide (uptoBulkAll ds ≤ 1048576)
def OpenSpec.upto (s : _root_.Go.ChangeSpec) : _root_.Go.OpenSpec := { _root_.Go.OpenSpec.ofChange s with cond := some uptoSmall }

/-- 'bookendlaw24.RefsTables', WHERE WHAT IT READS IS OF BULK AT MOST 1048576: true; the input reads as it did. -/
def refsTablesUptoRow : OpenClaim := { program := "ytadckioheabliaa", sum := "939657ea44f941bb8ea5c9d34dd29bcfd6f398f6d9643b003684e2250e8406e8", func := "bookend/bookendlaw24.RefsTables", spec := "refsTables", unfollowed := true, recurses := true, apart := false, narrowed := true }
def RefsTablesUptoSaid : Prop := refsTablesUptoRow.holds Try.pinned (OpenSpec.upto refsTablesSpec)

/-- 'bookendlaw24.RefsChanges', WHERE WHAT IT READS IS OF BULK AT MOST 1048576: true; the input reads as it did. -/
def refsChangesUptoRow : OpenClaim := { program := "ytadckioheabliaa", sum := "939657ea44f941bb8ea5c9d34dd29bcfd6f398f6d9643b003684e2250e8406e8", func := "bookend/bookendlaw24.RefsChanges", spec := "refsChanges", unfollowed := true, recurses := true, apart := false, narrowed := true }
def RefsChangesUptoSaid : Prop := refsChangesUptoRow.holds Try.pinned (OpenSpec.upto refsChangesSpec)

/-- 'bookendlaw24.RefsUndone', WHERE WHAT IT READS IS OF BULK AT MOST 1048576: true; the input reads as it did. -/
def refsUndoneUptoRow : OpenClaim := { program := "ytadckioheabliaa", sum := "939657ea44f941bb8ea5c9d34dd29bcfd6f398f6d9643b003684e2250e8406e8", func := "bookend/bookendlaw24.RefsUndone", spec := "refsUndone", unfollowed := true, recurses := true, apart := false, narrowed := true }
def RefsUndoneUptoSaid : Prop := refsUndoneUptoRow.holds Try.pinned (OpenSpec.upto refsUndoneSpec)

/-- 'bookendlaw24.RefsExact', WHERE WHAT IT READS IS OF BULK AT MOST 1048576: true; the input reads as it did. -/
def refsExactUptoRow : OpenClaim := { program := "ytadckioheabliaa", sum := "939657ea44f941bb8ea5c9d34dd29bcfd6f398f6d9643b003684e2250e8406e8", func := "bookend/bookendlaw24.RefsExact", spec := "refsExact", unfollowed := true, recurses := true, apart := false, narrowed := true }
def RefsExactUptoSaid : Prop := refsExactUptoRow.holds Try.pinned (OpenSpec.upto refsExactSpec)

/-- 'bookendlaw24.RefsPairs', WHERE WHAT IT READS IS OF BULK AT MOST 1048576: true; the input reads as it did. -/
def refsPairsUptoRow : OpenClaim := { program := "ytadckioheabliaa", sum := "939657ea44f941bb8ea5c9d34dd29bcfd6f398f6d9643b003684e2250e8406e8", func := "bookend/bookendlaw24.RefsPairs", spec := "refsPairs", unfollowed := true, recurses := true, apart := false, narrowed := true }
def RefsPairsUptoSaid : Prop := refsPairsUptoRow.holds Try.pinned (OpenSpec.upto refsPairsSpec)

/-- 'bookendlaw24.RefsMerged', WHERE WHAT IT READS IS OF BULK AT MOST 1048576: true; the input reads as it did. -/
def refsMergedUptoRow : OpenClaim := { program := "ytadckioheabliaa", sum := "939657ea44f941bb8ea5c9d34dd29bcfd6f398f6d9643b003684e2250e8406e8", func := "bookend/bookendlaw24.RefsMerged", spec := "refsMerged", unfollowed := true, recurses := true, apart := false, narrowed := true }
def RefsMergedUptoSaid : Prop := refsMergedUptoRow.holds Try.pinned (OpenSpec.upto refsMergedSpec)

/-- 'bookendlaw24.RefsKnown', WHERE WHAT IT READS IS OF BULK AT MOST 1048576: true; the input reads as it did. -/
def refsKnownUptoRow : OpenClaim := { program := "ytadckioheabliaa", sum := "939657ea44f941bb8ea5c9d34dd29bcfd6f398f6d9643b003684e2250e8406e8", func := "bookend/bookendlaw24.RefsKnown", spec := "refsKnown", unfollowed := true, recurses := true, apart := false, narrowed := true }
def RefsKnownUptoSaid : Prop := refsKnownUptoRow.holds Try.pinned (OpenSpec.upto refsKnownSpec)

end Rows
end Go.Proofs.Ytadckioheabliaa
