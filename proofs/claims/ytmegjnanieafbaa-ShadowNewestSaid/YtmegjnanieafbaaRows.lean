/-
  No cell of these rows narrows 'for every input' (looked for: loops, veiled, ifaces, maps, wideKeys, modest, calm, conditions, laid).
  DERIVED. THE GIVEN ROWS OF THIS SEAT. 7 by the template 'for every input the law returns true; each argument reads behind the call as it read before'; 0 by the template 'total and deterministic' (their statements: YtmegjnanieafbaaTotals.lean).
  GIVEN WITH THE SEED: the statements are not yours to turn. If you find one false, say at which input.
  Laid BY PROGRAM, IN A SANDBOX (cutbox-rows.mjs): the forced cells as the released guide's own fill.sh prints them over the translation f6642af7bcb4c64d… (all of the seat's roots in one cut). By AI agents, Wed Nov 11 2026. No macro, syntax, notation, axiom, sorry.
-/
import Derived.Test.YtmegjnanieafbaaChecked
import GoSem.Claim
import GoSem.ClaimJoined
import GoSem.ClaimMapViews
import Derived.JoinedTies
import Derived.KernelRfl
namespace Go.Proofs.Ytmegjnanieafbaa
/- THE CELL 'sum', in the pinned program and in every row, IS THE sha256 OF THE DUMP (.gsa) THAT YtmegjnanieafbaaProg.lean LOADS. Nothing in Lean hashes anything: it is a label: what it is worth is what the hold of that sum in a sandbox is worth. -/
noncomputable def Try.pinned : Pinned := { name := "ytmegjnanieafbaa", sum := "f6642af7bcb4c64d8ead157497c80103c6d62a8befc62cab330579acb6a08357", checked := Try.checked }
namespace Rows
def none {H : Type} : Left H := { results := [], args := [] }

/-- 'bookendlaw12.ShadowSteps': WHATEVER THE INPUT: true; the input reads as it did. -/
def shadowStepsSpec : ChangeSpec := { name := "shadowSteps", fn := fun _ => fun
  | [d1, d2, d3] => { results := [.lit (.bool true)], args := [d1, d2, d3] }
  | _ => none }
def shadowStepsRow : OpenClaim := { program := "ytmegjnanieafbaa", sum := "f6642af7bcb4c64d8ead157497c80103c6d62a8befc62cab330579acb6a08357", func := "bookend/bookendlaw12.ShadowSteps", spec := "shadowSteps", unfollowed := true, recurses := true, apart := false }
def ShadowStepsSaid : Prop := shadowStepsRow.holds Try.pinned (OpenSpec.ofChange shadowStepsSpec)

/-- ITS FALSE NEIGHBOUR: 'it returns false'. Refute it at one input. -/
def shadowStepsWrong : ChangeSpec := { name := "shadowSteps", fn := fun _ => fun
  | [d1, d2, d3] => { results := [.lit (.bool false)], args := [d1, d2, d3] }
  | _ => none }
def ShadowStepsWrongFalsely : Prop := shadowStepsRow.holds Try.pinned (OpenSpec.ofChange shadowStepsWrong)

/-- 'bookendlaw12.ShadowFilters': WHATEVER THE INPUT: true; the input reads as it did. -/
def shadowFiltersSpec : ChangeSpec := { name := "shadowFilters", fn := fun _ => fun
  | [d1, d2] => { results := [.lit (.bool true)], args := [d1, d2] }
  | _ => none }
def shadowFiltersRow : OpenClaim := { program := "ytmegjnanieafbaa", sum := "f6642af7bcb4c64d8ead157497c80103c6d62a8befc62cab330579acb6a08357", func := "bookend/bookendlaw12.ShadowFilters", spec := "shadowFilters", unfollowed := true, recurses := true, apart := false }
def ShadowFiltersSaid : Prop := shadowFiltersRow.holds Try.pinned (OpenSpec.ofChange shadowFiltersSpec)

/-- ITS FALSE NEIGHBOUR: 'it returns false'. Refute it at one input. -/
def shadowFiltersWrong : ChangeSpec := { name := "shadowFilters", fn := fun _ => fun
  | [d1, d2] => { results := [.lit (.bool false)], args := [d1, d2] }
  | _ => none }
def ShadowFiltersWrongFalsely : Prop := shadowFiltersRow.holds Try.pinned (OpenSpec.ofChange shadowFiltersWrong)

/-- 'bookendlaw12.ShadowFirst': WHATEVER THE INPUT: true; the input reads as it did. -/
def shadowFirstSpec : ChangeSpec := { name := "shadowFirst", fn := fun _ => fun
  | [d] => { results := [.lit (.bool true)], args := [d] }
  | _ => none }
def shadowFirstRow : OpenClaim := { program := "ytmegjnanieafbaa", sum := "f6642af7bcb4c64d8ead157497c80103c6d62a8befc62cab330579acb6a08357", func := "bookend/bookendlaw12.ShadowFirst", spec := "shadowFirst", unfollowed := true, recurses := true, apart := false }
def ShadowFirstSaid : Prop := shadowFirstRow.holds Try.pinned (OpenSpec.ofChange shadowFirstSpec)

/-- ITS FALSE NEIGHBOUR: 'it returns false'. Refute it at one input. -/
def shadowFirstWrong : ChangeSpec := { name := "shadowFirst", fn := fun _ => fun
  | [d] => { results := [.lit (.bool false)], args := [d] }
  | _ => none }
def ShadowFirstWrongFalsely : Prop := shadowFirstRow.holds Try.pinned (OpenSpec.ofChange shadowFirstWrong)

/-- 'bookendlaw12.ShadowParts': WHATEVER THE INPUT: true; the input reads as it did. -/
def shadowPartsSpec : ChangeSpec := { name := "shadowParts", fn := fun _ => fun
  | [d1, d2] => { results := [.lit (.bool true)], args := [d1, d2] }
  | _ => none }
def shadowPartsRow : OpenClaim := { program := "ytmegjnanieafbaa", sum := "f6642af7bcb4c64d8ead157497c80103c6d62a8befc62cab330579acb6a08357", func := "bookend/bookendlaw12.ShadowParts", spec := "shadowParts", unfollowed := true, recurses := true, apart := false }
def ShadowPartsSaid : Prop := shadowPartsRow.holds Try.pinned (OpenSpec.ofChange shadowPartsSpec)

/-- ITS FALSE NEIGHBOUR: 'it returns false'. Refute it at one input. -/
def shadowPartsWrong : ChangeSpec := { name := "shadowParts", fn := fun _ => fun
  | [d1, d2] => { results := [.lit (.bool false)], args := [d1, d2] }
  | _ => none }
def ShadowPartsWrongFalsely : Prop := shadowPartsRow.holds Try.pinned (OpenSpec.ofChange shadowPartsWrong)

/-- 'bookendlaw12.ShadowCounts': WHATEVER THE INPUT: true; the input reads as it did. -/
def shadowCountsSpec : ChangeSpec := { name := "shadowCounts", fn := fun _ => fun
  | [d] => { results := [.lit (.bool true)], args := [d] }
  | _ => none }
def shadowCountsRow : OpenClaim := { program := "ytmegjnanieafbaa", sum := "f6642af7bcb4c64d8ead157497c80103c6d62a8befc62cab330579acb6a08357", func := "bookend/bookendlaw12.ShadowCounts", spec := "shadowCounts", unfollowed := true, recurses := true, apart := false }
def ShadowCountsSaid : Prop := shadowCountsRow.holds Try.pinned (OpenSpec.ofChange shadowCountsSpec)

/-- ITS FALSE NEIGHBOUR: 'it returns false'. Refute it at one input. -/
def shadowCountsWrong : ChangeSpec := { name := "shadowCounts", fn := fun _ => fun
  | [d] => { results := [.lit (.bool false)], args := [d] }
  | _ => none }
def ShadowCountsWrongFalsely : Prop := shadowCountsRow.holds Try.pinned (OpenSpec.ofChange shadowCountsWrong)

/-- 'bookendlaw12.ShadowNewest': WHATEVER THE INPUT: true; the input reads as it did. -/
def shadowNewestSpec : ChangeSpec := { name := "shadowNewest", fn := fun _ => fun
  | [d] => { results := [.lit (.bool true)], args := [d] }
  | _ => none }
def shadowNewestRow : OpenClaim := { program := "ytmegjnanieafbaa", sum := "f6642af7bcb4c64d8ead157497c80103c6d62a8befc62cab330579acb6a08357", func := "bookend/bookendlaw12.ShadowNewest", spec := "shadowNewest", unfollowed := true, recurses := true, apart := false }
def ShadowNewestSaid : Prop := shadowNewestRow.holds Try.pinned (OpenSpec.ofChange shadowNewestSpec)

/-- ITS FALSE NEIGHBOUR: 'it returns false'. Refute it at one input. -/
def shadowNewestWrong : ChangeSpec := { name := "shadowNewest", fn := fun _ => fun
  | [d] => { results := [.lit (.bool false)], args := [d] }
  | _ => none }
def ShadowNewestWrongFalsely : Prop := shadowNewestRow.holds Try.pinned (OpenSpec.ofChange shadowNewestWrong)

/-- 'bookendlaw12.ShadowLater': WHATEVER THE INPUT: true; the input reads as it did. -/
def shadowLaterSpec : ChangeSpec := { name := "shadowLater", fn := fun _ => fun
  | [d] => { results := [.lit (.bool true)], args := [d] }
  | _ => none }
def shadowLaterRow : OpenClaim := { program := "ytmegjnanieafbaa", sum := "f6642af7bcb4c64d8ead157497c80103c6d62a8befc62cab330579acb6a08357", func := "bookend/bookendlaw12.ShadowLater", spec := "shadowLater", unfollowed := true, recurses := true, apart := false }
def ShadowLaterSaid : Prop := shadowLaterRow.holds Try.pinned (OpenSpec.ofChange shadowLaterSpec)

/-- ITS FALSE NEIGHBOUR: 'it returns false'. Refute it at one input. -/
def shadowLaterWrong : ChangeSpec := { name := "shadowLater", fn := fun _ => fun
  | [d] => { results := [.lit (.bool false)], args := [d] }
  | _ => none }
def ShadowLaterWrongFalsely : Prop := shadowLaterRow.holds Try.pinned (OpenSpec.ofChange shadowLaterWrong)

/- THE SECOND FORM. 'bulk': how many values and letters a reading holds, each counted each time it is reached (what is shared counts as often as it is met; a slice's spare places count too). A statement '..UptoSaid' is the law's where the arguments, and the package variables that the reading takes, are together of bulk at most 1048576: NARROWER than '..Said'. Prove '..Said' where nothing that the law and all that it calls make is longer than what came in: it says more and counts as full. Else prove '..UptoSaid'. A law counts once. -/
mutual
def uptoBulk {H : Type} : DataW H → Nat
  | .lit (.string bytes) => bytes.length + 1
  | .lit _ => 1
  | .nil => 1
  | .ptr d => uptoBulk d + 1
  | .slice elems spare => uptoBulkAll elems + uptoBulkAll spare + 1
  | .agg parts => uptoBulkAll parts + 1
  | .iface _ d => uptoBulk d + 1
  | .map entries => uptoBulkEntries entries + 1
  | .held _ => 1
def uptoBulkAll {H : Type} : List (DataW H) → Nat
  | [] => 0
  | d :: r => uptoBulk d + uptoBulkAll r
def uptoBulkEntries {H : Type} : List (Lit × DataW H) → Nat
  | [] => 0
  | x :: r => uptoBulkEntry x + uptoBulkEntries r
def uptoBulkEntry {H : Type} : Lit × DataW H → Nat
  | (.string bytes, d) => bytes.length + uptoBulk d + 1
  | (_, d) => uptoBulk d + 1
 end
def uptoSmall : (H : Type) → List (DataW H) → Bool := fun _ ds => decide (uptoBulkAll ds ≤ 1048576)
def OpenSpec.upto (s : _root_.Go.ChangeSpec) : _root_.Go.OpenSpec := { _root_.Go.OpenSpec.ofChange s with cond := some uptoSmall }

/-- 'bookendlaw12.ShadowSteps', WHERE WHAT IT READS IS OF BULK AT MOST 1048576: true; the input reads as it did. -/
def shadowStepsUptoRow : OpenClaim := { program := "ytmegjnanieafbaa", sum := "f6642af7bcb4c64d8ead157497c80103c6d62a8befc62cab330579acb6a08357", func := "bookend/bookendlaw12.ShadowSteps", spec := "shadowSteps", unfollowed := true, recurses := true, apart := false, narrowed := true }
def ShadowStepsUptoSaid : Prop := shadowStepsUptoRow.holds Try.pinned (OpenSpec.upto shadowStepsSpec)

/-- 'bookendlaw12.ShadowFilters', WHERE WHAT IT READS IS OF BULK AT MOST 1048576: true; the input reads as it did. -/
def shadowFiltersUptoRow : OpenClaim := { program := "ytmegjnanieafbaa", sum := "f6642af7bcb4c64d8ead157497c80103c6d62a8befc62cab330579acb6a08357", func := "bookend/bookendlaw12.ShadowFilters", spec := "shadowFilters", unfollowed := true, recurses := true, apart := false, narrowed := true }
def ShadowFiltersUptoSaid : Prop := shadowFiltersUptoRow.holds Try.pinned (OpenSpec.upto shadowFiltersSpec)

/-- 'bookendlaw12.ShadowFirst', WHERE WHAT IT READS IS OF BULK AT MOST 1048576: true; the input reads as it did. -/
def shadowFirstUptoRow : OpenClaim := { program := "ytmegjnanieafbaa", sum := "f6642af7bcb4c64d8ead157497c80103c6d62a8befc62cab330579acb6a08357", func := "bookend/bookendlaw12.ShadowFirst", spec := "shadowFirst", unfollowed := true, recurses := true, apart := false, narrowed := true }
def ShadowFirstUptoSaid : Prop := shadowFirstUptoRow.holds Try.pinned (OpenSpec.upto shadowFirstSpec)

/-- 'bookendlaw12.ShadowParts', WHERE WHAT IT READS IS OF BULK AT MOST 1048576: true; the input reads as it did. -/
def shadowPartsUptoRow : OpenClaim := { program := "ytmegjnanieafbaa", sum := "f6642af7bcb4c64d8ead157497c80103c6d62a8befc62cab330579acb6a08357", func := "bookend/bookendlaw12.ShadowParts", spec := "shadowParts", unfollowed := true, recurses := true, apart := false, narrowed := true }
def ShadowPartsUptoSaid : Prop := shadowPartsUptoRow.holds Try.pinned (OpenSpec.upto shadowPartsSpec)

/-- 'bookendlaw12.ShadowCounts', WHERE WHAT IT READS IS OF BULK AT MOST 1048576: true; the input reads as it did. -/
def shadowCountsUptoRow : OpenClaim := { program := "ytmegjnanieafbaa", sum := "f6642af7bcb4c64d8ead157497c80103c6d62a8befc62cab330579acb6a08357", func := "bookend/bookendlaw12.ShadowCounts", spec := "shadowCounts", unfollowed := true, recurses := true, apart := false, narrowed := true }
def ShadowCountsUptoSaid : Prop := shadowCountsUptoRow.holds Try.pinned (OpenSpec.upto shadowCountsSpec)

/-- 'bookendlaw12.ShadowNewest', WHERE WHAT IT READS IS OF BULK AT MOST 1048576: true; the input reads as it did. -/
def shadowNewestUptoRow : OpenClaim := { program := "ytmegjnanieafbaa", sum := "f6642af7bcb4c64d8ead157497c80103c6d62a8befc62cab330579acb6a08357", func := "bookend/bookendlaw12.ShadowNewest", spec := "shadowNewest", unfollowed := true, recurses := true, apart := false, narrowed := true }
def ShadowNewestUptoSaid : Prop := shadowNewestUptoRow.holds Try.pinned (OpenSpec.upto shadowNewestSpec)

/-- 'bookendlaw12.ShadowLater', WHERE WHAT IT READS IS OF BULK AT MOST 1048576: true; the input reads as it did. -/
def shadowLaterUptoRow : OpenClaim := { program := "ytmegjnanieafbaa", sum := "f6642af7bcb4c64d8ead157497c80103c6d62a8befc62cab330579acb6a08357", func := "bookend/bookendlaw12.ShadowLater", spec := "shadowLater", unfollowed := true, recurses := true, apart := false, narrowed := true }
def ShadowLaterUptoSaid : Prop := shadowLaterUptoRow.holds Try.pinned (OpenSpec.upto shadowLaterSpec)

end Rows
end Go.Proofs.Ytmegjnanieafbaa
