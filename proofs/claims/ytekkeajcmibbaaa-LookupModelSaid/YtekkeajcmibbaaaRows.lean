/-
  No cell of these rows narrows 'for every input' (looked for: loops, veiled, ifaces, maps, wideKeys, modest, calm, conditions, laid).
  DERIVED. THE GIVEN ROWS OF THIS SEAT. 8 by the template 'for every input the law returns true; each argument reads behind the call as it read before'; 0 by the template 'total and deterministic' (their statements: YtekkeajcmibbaaaTotals.lean).
  GIVEN WITH THE SEED: the statements are not yours to turn. If you find one false, say at which input.
  Laid BY PROGRAM, IN A SANDBOX (cutbox-rows.mjs): the forced cells as the released guide's own fill.sh prints them over the translation 41ab836c07de9d62… (all of the seat's roots in one cut). By AI agents, Wed Nov 11 2026. No macro, syntax, notation, axiom, sorry.
-/
import Derived.Test.YtekkeajcmibbaaaChecked
import GoSem.Claim
import GoSem.ClaimJoined
import GoSem.ClaimMapViews
import Derived.JoinedTies
import Derived.KernelRfl
namespace Go.Proofs.Ytekkeajcmibbaaa
/- THE CELL 'sum', in the pinned program and in every row, IS THE sha256 OF THE DUMP (.gsa) THAT YtekkeajcmibbaaaProg.lean LOADS. Nothing in Lean hashes anything: it is a label: what it is worth is what the hold of that sum in a sandbox is worth. -/
noncomputable def Try.pinned : Pinned := { name := "ytekkeajcmibbaaa", sum := "41ab836c07de9d620e7222e2e92f0e48881a84f418243127f96befb88fc4549f", checked := Try.checked }
namespace Rows
def none {H : Type} : Left H := { results := [], args := [] }

/-- 'bookendlaw26.LookupGets': WHATEVER THE INPUT: true; the input reads as it did. -/
def lookupGetsSpec : ChangeSpec := { name := "lookupGets", fn := fun _ => fun
  | [d1, d2] => { results := [.lit (.bool true)], args := [d1, d2] }
  | _ => none }
def lookupGetsRow : OpenClaim := { program := "ytekkeajcmibbaaa", sum := "41ab836c07de9d620e7222e2e92f0e48881a84f418243127f96befb88fc4549f", func := "bookend/bookendlaw26.LookupGets", spec := "lookupGets", unfollowed := true, recurses := true, apart := false }
def LookupGetsSaid : Prop := lookupGetsRow.holds Try.pinned (OpenSpec.ofChange lookupGetsSpec)

/-- ITS FALSE NEIGHBOUR: 'it returns false'. Refute it at one input. -/
def lookupGetsWrong : ChangeSpec := { name := "lookupGets", fn := fun _ => fun
  | [d1, d2] => { results := [.lit (.bool false)], args := [d1, d2] }
  | _ => none }
def LookupGetsWrongFalsely : Prop := lookupGetsRow.holds Try.pinned (OpenSpec.ofChange lookupGetsWrong)

/-- 'bookendlaw26.LookupParts': WHATEVER THE INPUT: true; the input reads as it did. -/
def lookupPartsSpec : ChangeSpec := { name := "lookupParts", fn := fun _ => fun
  | [d1, d2] => { results := [.lit (.bool true)], args := [d1, d2] }
  | _ => none }
def lookupPartsRow : OpenClaim := { program := "ytekkeajcmibbaaa", sum := "41ab836c07de9d620e7222e2e92f0e48881a84f418243127f96befb88fc4549f", func := "bookend/bookendlaw26.LookupParts", spec := "lookupParts", unfollowed := true, recurses := true, apart := false }
def LookupPartsSaid : Prop := lookupPartsRow.holds Try.pinned (OpenSpec.ofChange lookupPartsSpec)

/-- ITS FALSE NEIGHBOUR: 'it returns false'. Refute it at one input. -/
def lookupPartsWrong : ChangeSpec := { name := "lookupParts", fn := fun _ => fun
  | [d1, d2] => { results := [.lit (.bool false)], args := [d1, d2] }
  | _ => none }
def LookupPartsWrongFalsely : Prop := lookupPartsRow.holds Try.pinned (OpenSpec.ofChange lookupPartsWrong)

/-- 'bookendlaw26.LookupModel': WHATEVER THE INPUT: true; the input reads as it did. -/
def lookupModelSpec : ChangeSpec := { name := "lookupModel", fn := fun _ => fun
  | [d1, d2] => { results := [.lit (.bool true)], args := [d1, d2] }
  | _ => none }
def lookupModelRow : OpenClaim := { program := "ytekkeajcmibbaaa", sum := "41ab836c07de9d620e7222e2e92f0e48881a84f418243127f96befb88fc4549f", func := "bookend/bookendlaw26.LookupModel", spec := "lookupModel", unfollowed := true, recurses := true, apart := false }
def LookupModelSaid : Prop := lookupModelRow.holds Try.pinned (OpenSpec.ofChange lookupModelSpec)

/-- ITS FALSE NEIGHBOUR: 'it returns false'. Refute it at one input. -/
def lookupModelWrong : ChangeSpec := { name := "lookupModel", fn := fun _ => fun
  | [d1, d2] => { results := [.lit (.bool false)], args := [d1, d2] }
  | _ => none }
def LookupModelWrongFalsely : Prop := lookupModelRow.holds Try.pinned (OpenSpec.ofChange lookupModelWrong)

/-- 'bookendlaw26.LookupJoins': WHATEVER THE INPUT: true; the input reads as it did. -/
def lookupJoinsSpec : ChangeSpec := { name := "lookupJoins", fn := fun _ => fun
  | [d1, d2, d3] => { results := [.lit (.bool true)], args := [d1, d2, d3] }
  | _ => none }
def lookupJoinsRow : OpenClaim := { program := "ytekkeajcmibbaaa", sum := "41ab836c07de9d620e7222e2e92f0e48881a84f418243127f96befb88fc4549f", func := "bookend/bookendlaw26.LookupJoins", spec := "lookupJoins", unfollowed := true, recurses := true, apart := false }
def LookupJoinsSaid : Prop := lookupJoinsRow.holds Try.pinned (OpenSpec.ofChange lookupJoinsSpec)

/-- ITS FALSE NEIGHBOUR: 'it returns false'. Refute it at one input. -/
def lookupJoinsWrong : ChangeSpec := { name := "lookupJoins", fn := fun _ => fun
  | [d1, d2, d3] => { results := [.lit (.bool false)], args := [d1, d2, d3] }
  | _ => none }
def LookupJoinsWrongFalsely : Prop := lookupJoinsRow.holds Try.pinned (OpenSpec.ofChange lookupJoinsWrong)

/-- 'bookendlaw26.LookupMoves': WHATEVER THE INPUT: true; the input reads as it did. -/
def lookupMovesSpec : ChangeSpec := { name := "lookupMoves", fn := fun _ => fun
  | [d1, d2] => { results := [.lit (.bool true)], args := [d1, d2] }
  | _ => none }
def lookupMovesRow : OpenClaim := { program := "ytekkeajcmibbaaa", sum := "41ab836c07de9d620e7222e2e92f0e48881a84f418243127f96befb88fc4549f", func := "bookend/bookendlaw26.LookupMoves", spec := "lookupMoves", unfollowed := true, recurses := true, apart := false }
def LookupMovesSaid : Prop := lookupMovesRow.holds Try.pinned (OpenSpec.ofChange lookupMovesSpec)

/-- ITS FALSE NEIGHBOUR: 'it returns false'. Refute it at one input. -/
def lookupMovesWrong : ChangeSpec := { name := "lookupMoves", fn := fun _ => fun
  | [d1, d2] => { results := [.lit (.bool false)], args := [d1, d2] }
  | _ => none }
def LookupMovesWrongFalsely : Prop := lookupMovesRow.holds Try.pinned (OpenSpec.ofChange lookupMovesWrong)

/-- 'bookendlaw26.LookupWrites': WHATEVER THE INPUT: true; the input reads as it did. -/
def lookupWritesSpec : ChangeSpec := { name := "lookupWrites", fn := fun _ => fun
  | [d1, d2, d3] => { results := [.lit (.bool true)], args := [d1, d2, d3] }
  | _ => none }
def lookupWritesRow : OpenClaim := { program := "ytekkeajcmibbaaa", sum := "41ab836c07de9d620e7222e2e92f0e48881a84f418243127f96befb88fc4549f", func := "bookend/bookendlaw26.LookupWrites", spec := "lookupWrites", unfollowed := true, recurses := true, apart := false }
def LookupWritesSaid : Prop := lookupWritesRow.holds Try.pinned (OpenSpec.ofChange lookupWritesSpec)

/-- ITS FALSE NEIGHBOUR: 'it returns false'. Refute it at one input. -/
def lookupWritesWrong : ChangeSpec := { name := "lookupWrites", fn := fun _ => fun
  | [d1, d2, d3] => { results := [.lit (.bool false)], args := [d1, d2, d3] }
  | _ => none }
def LookupWritesWrongFalsely : Prop := lookupWritesRow.holds Try.pinned (OpenSpec.ofChange lookupWritesWrong)

/-- 'bookendlaw26.LookupNear': WHATEVER THE INPUT: true; the input reads as it did. -/
def lookupNearSpec : ChangeSpec := { name := "lookupNear", fn := fun _ => fun
  | [d1, d2] => { results := [.lit (.bool true)], args := [d1, d2] }
  | _ => none }
def lookupNearRow : OpenClaim := { program := "ytekkeajcmibbaaa", sum := "41ab836c07de9d620e7222e2e92f0e48881a84f418243127f96befb88fc4549f", func := "bookend/bookendlaw26.LookupNear", spec := "lookupNear", unfollowed := true, recurses := true, apart := false }
def LookupNearSaid : Prop := lookupNearRow.holds Try.pinned (OpenSpec.ofChange lookupNearSpec)

/-- ITS FALSE NEIGHBOUR: 'it returns false'. Refute it at one input. -/
def lookupNearWrong : ChangeSpec := { name := "lookupNear", fn := fun _ => fun
  | [d1, d2] => { results := [.lit (.bool false)], args := [d1, d2] }
  | _ => none }
def LookupNearWrongFalsely : Prop := lookupNearRow.holds Try.pinned (OpenSpec.ofChange lookupNearWrong)

/-- 'bookendlaw26.LookupAgrees': WHATEVER THE INPUT: true; the input reads as it did. -/
def lookupAgreesSpec : ChangeSpec := { name := "lookupAgrees", fn := fun _ => fun
  | [d1, d2] => { results := [.lit (.bool true)], args := [d1, d2] }
  | _ => none }
def lookupAgreesRow : OpenClaim := { program := "ytekkeajcmibbaaa", sum := "41ab836c07de9d620e7222e2e92f0e48881a84f418243127f96befb88fc4549f", func := "bookend/bookendlaw26.LookupAgrees", spec := "lookupAgrees", unfollowed := true, recurses := true, apart := false }
def LookupAgreesSaid : Prop := lookupAgreesRow.holds Try.pinned (OpenSpec.ofChange lookupAgreesSpec)

/-- ITS FALSE NEIGHBOUR: 'it returns false'. Refute it at one input. -/
def lookupAgreesWrong : ChangeSpec := { name := "lookupAgrees", fn := fun _ => fun
  | [d1, d2] => { results := [.lit (.bool false)], args := [d1, d2] }
  | _ => none }
def LookupAgreesWrongFalsely : Prop := lookupAgreesRow.holds Try.pinned (OpenSpec.ofChange lookupAgreesWrong)

/- THE SECOND FORM. 'bulk': how many values and letters a reading holds, each counted each time it is reached (what is shared counts as often as it is met; a slice's spare places count too). A statement '..UptoSaid' is the law's where the arguments, and the package variables that the reading takes, are together of bulk at most 1048576: NARROWER than '..Said'. Prove '..Said' where nothing that the law and all that it calls make is longer than what came in: it says more and counts as full. Else prove '..UptoSaid'. A law counts once. -/
mutual
def uptoBulk {H : Type} : DataW H → Nat
  | .lit (.string bytes) => bytes.length + 1
  | .lit _ => 1
  | .nil => 1
  | .ptr d => uptoBulk d + 1
  | .slice elems spare => uptoBulkAll elems + uptoBulkAll spare + 1
  | .agg parts => uptoBulkAll parts + 1
  | .iface _ d => uptoBulk d + 1
  | .map entries => uptoBulkEntries entries + 1
  | .held _ => 1
def uptoBulkAll {H : Type} : List (DataW H) → Nat
  | [] => 0
  | d :: r => uptoBulk d + uptoBulkAll r
def uptoBulkEntries {H : Type} : List (Lit × DataW H) → Nat
  | [] => 0
  | x :: r => uptoBulkEntry x + uptoBulkEntries r
def uptoBulkEntry {H : Type} : Lit × DataW H → Nat
  | (.string bytes, d) => bytes.length + uptoBulk d + 1
  | (_, d) => uptoBulk d + 1
 end
def uptoSmall : (H : Type) → List (DataW H) → Bool := fun _ ds => decide (uptoBulkAll ds ≤ 1048576)
def OpenSpec.upto (s : _root_.Go.ChangeSpec) : _root_.Go.OpenSpec := { _root_.Go.OpenSpec.ofChange s with cond := some uptoSmall }

/-- 'bookendlaw26.LookupGets', WHERE WHAT IT READS IS OF BULK AT MOST 1048576: true; the input reads as it did. -/
def lookupGetsUptoRow : OpenClaim := { program := "ytekkeajcmibbaaa", sum := "41ab836c07de9d620e7222e2e92f0e48881a84f418243127f96befb88fc4549f", func := "bookend/bookendlaw26.LookupGets", spec := "lookupGets", unfollowed := true, recurses := true, apart := false, narrowed := true }
def LookupGetsUptoSaid : Prop := lookupGetsUptoRow.holds Try.pinned (OpenSpec.upto lookupGetsSpec)

/-- 'bookendlaw26.LookupParts', WHERE WHAT IT READS IS OF BULK AT MOST 1048576: true; the input reads as it did. -/
def lookupPartsUptoRow : OpenClaim := { program := "ytekkeajcmibbaaa", sum := "41ab836c07de9d620e7222e2e92f0e48881a84f418243127f96befb88fc4549f", func := "bookend/bookendlaw26.LookupParts", spec := "lookupParts", unfollowed := true, recurses := true, apart := false, narrowed := true }
def LookupPartsUptoSaid : Prop := lookupPartsUptoRow.holds Try.pinned (OpenSpec.upto lookupPartsSpec)

/-- 'bookendlaw26.LookupModel', WHERE WHAT IT READS IS OF BULK AT MOST 1048576: true; the input reads as it did. -/
def lookupModelUptoRow : OpenClaim := { program := "ytekkeajcmibbaaa", sum := "41ab836c07de9d620e7222e2e92f0e48881a84f418243127f96befb88fc4549f", func := "bookend/bookendlaw26.LookupModel", spec := "lookupModel", unfollowed := true, recurses := true, apart := false, narrowed := true }
def LookupModelUptoSaid : Prop := lookupModelUptoRow.holds Try.pinned (OpenSpec.upto lookupModelSpec)

/-- 'bookendlaw26.LookupJoins', WHERE WHAT IT READS IS OF BULK AT MOST 1048576: true; the input reads as it did. -/
def lookupJoinsUptoRow : OpenClaim := { program := "ytekkeajcmibbaaa", sum := "41ab836c07de9d620e7222e2e92f0e48881a84f418243127f96befb88fc4549f", func := "bookend/bookendlaw26.LookupJoins", spec := "lookupJoins", unfollowed := true, recurses := true, apart := false, narrowed := true }
def LookupJoinsUptoSaid : Prop := lookupJoinsUptoRow.holds Try.pinned (OpenSpec.upto lookupJoinsSpec)

/-- 'bookendlaw26.LookupMoves', WHERE WHAT IT READS IS OF BULK AT MOST 1048576: true; the input reads as it did. -/
def lookupMovesUptoRow : OpenClaim := { program := "ytekkeajcmibbaaa", sum := "41ab836c07de9d620e7222e2e92f0e48881a84f418243127f96befb88fc4549f", func := "bookend/bookendlaw26.LookupMoves", spec := "lookupMoves", unfollowed := true, recurses := true, apart := false, narrowed := true }
def LookupMovesUptoSaid : Prop := lookupMovesUptoRow.holds Try.pinned (OpenSpec.upto lookupMovesSpec)

/-- 'bookendlaw26.LookupWrites', WHERE WHAT IT READS IS OF BULK AT MOST 1048576: true; the input reads as it did. -/
def lookupWritesUptoRow : OpenClaim := { program := "ytekkeajcmibbaaa", sum := "41ab836c07de9d620e7222e2e92f0e48881a84f418243127f96befb88fc4549f", func := "bookend/bookendlaw26.LookupWrites", spec := "lookupWrites", unfollowed := true, recurses := true, apart := false, narrowed := true }
def LookupWritesUptoSaid : Prop := lookupWritesUptoRow.holds Try.pinned (OpenSpec.upto lookupWritesSpec)

/-- 'bookendlaw26.LookupNear', WHERE WHAT IT READS IS OF BULK AT MOST 1048576: true; the input reads as it did. -/
def lookupNearUptoRow : OpenClaim := { program := "ytekkeajcmibbaaa", sum := "41ab836c07de9d620e7222e2e92f0e48881a84f418243127f96befb88fc4549f", func := "bookend/bookendlaw26.LookupNear", spec := "lookupNear", unfollowed := true, recurses := true, apart := false, narrowed := true }
def LookupNearUptoSaid : Prop := lookupNearUptoRow.holds Try.pinned (OpenSpec.upto lookupNearSpec)

/-- 'bookendlaw26.LookupAgrees', WHERE WHAT IT READS IS OF BULK AT MOST 1048576: true; the input reads as it did. -/
def lookupAgreesUptoRow : OpenClaim := { program := "ytekkeajcmibbaaa", sum := "41ab836c07de9d620e7222e2e92f0e48881a84f418243127f96befb88fc4549f", func := "bookend/bookendlaw26.LookupAgrees", spec := "lookupAgrees", unfollowed := true, recurses := true, apart := false, narrowed := true }
def LookupAgreesUptoSaid : Prop := lookupAgreesUptoRow.holds Try.pinned (OpenSpec.upto lookupAgreesSpec)

end Rows
end Go.Proofs.Ytekkeajcmibbaaa
