/-
  No cell of these rows narrows 'for every input' (looked for: loops, veiled, ifaces, maps, wideKeys, modest, calm, conditions, laid).
  DERIVED. THE GIVEN ROWS OF THIS SEAT. 6 by the template 'for every input the law returns true; each argument reads behind the call as it read before'; 0 by the template 'total and deterministic' (their statements: YtfknchngldknnaaTotals.lean).
  GIVEN WITH THE SEED: the statements are not yours to turn. If you find one false, say at which input.
  Laid BY PROGRAM, IN A SANDBOX (cutbox-rows.mjs): the forced cells as the released guide's own fill.sh prints them over the translation b32d24185fbcda55… (all of the seat's roots in one cut). By AI agents, Wed Nov 11 2026. No macro, syntax, notation, axiom, sorry.
-/
import Derived.Test.YtfknchngldknnaaChecked
import GoSem.Claim
import GoSem.ClaimJoined
import GoSem.ClaimMapViews
import Derived.JoinedTies
import Derived.KernelRfl
namespace Go.Proofs.Ytfknchngldknnaa
/- THE CELL 'sum', in the pinned program and in every row, IS THE sha256 OF THE DUMP (.gsa) THAT YtfknchngldknnaaProg.lean LOADS. Nothing in Lean hashes anything: it is a label: what it is worth is what the hold of that sum in a sandbox is worth. -/
noncomputable def Try.pinned : Pinned := { name := "ytfknchngldknnaa", sum := "b32d24185fbcda555256c4a258356b00fb0bdc497a0b46f0c28db77fe10c20a7", checked := Try.checked }
namespace Rows
def none {H : Type} : Left H := { results := [], args := [] }

/-- 'bookendlaw27.ScanMoves': WHATEVER THE INPUT: true; the input reads as it did. -/
def scanMovesSpec : ChangeSpec := { name := "scanMoves", fn := fun _ => fun
  | [d1, d2, d3] => { results := [.lit (.bool true)], args := [d1, d2, d3] }
  | _ => none }
def scanMovesRow : OpenClaim := { program := "ytfknchngldknnaa", sum := "b32d24185fbcda555256c4a258356b00fb0bdc497a0b46f0c28db77fe10c20a7", func := "bookend/bookendlaw27.ScanMoves", spec := "scanMoves", unfollowed := true, recurses := true, apart := false }
def ScanMovesSaid : Prop := scanMovesRow.holds Try.pinned (OpenSpec.ofChange scanMovesSpec)

/-- ITS FALSE NEIGHBOUR: 'it returns false'. Refute it at one input. -/
def scanMovesWrong : ChangeSpec := { name := "scanMoves", fn := fun _ => fun
  | [d1, d2, d3] => { results := [.lit (.bool false)], args := [d1, d2, d3] }
  | _ => none }
def ScanMovesWrongFalsely : Prop := scanMovesRow.holds Try.pinned (OpenSpec.ofChange scanMovesWrong)

/-- 'bookendlaw27.ScanWalks': WHATEVER THE INPUT: true; the input reads as it did. -/
def scanWalksSpec : ChangeSpec := { name := "scanWalks", fn := fun _ => fun
  | [d1, d2] => { results := [.lit (.bool true)], args := [d1, d2] }
  | _ => none }
def scanWalksRow : OpenClaim := { program := "ytfknchngldknnaa", sum := "b32d24185fbcda555256c4a258356b00fb0bdc497a0b46f0c28db77fe10c20a7", func := "bookend/bookendlaw27.ScanWalks", spec := "scanWalks", unfollowed := true, recurses := true, apart := false }
def ScanWalksSaid : Prop := scanWalksRow.holds Try.pinned (OpenSpec.ofChange scanWalksSpec)

/-- ITS FALSE NEIGHBOUR: 'it returns false'. Refute it at one input. -/
def scanWalksWrong : ChangeSpec := { name := "scanWalks", fn := fun _ => fun
  | [d1, d2] => { results := [.lit (.bool false)], args := [d1, d2] }
  | _ => none }
def ScanWalksWrongFalsely : Prop := scanWalksRow.holds Try.pinned (OpenSpec.ofChange scanWalksWrong)

/-- 'bookendlaw27.ScanTurns': WHATEVER THE INPUT: true; the input reads as it did. -/
def scanTurnsSpec : ChangeSpec := { name := "scanTurns", fn := fun _ => fun
  | [d1, d2] => { results := [.lit (.bool true)], args := [d1, d2] }
  | _ => none }
def scanTurnsRow : OpenClaim := { program := "ytfknchngldknnaa", sum := "b32d24185fbcda555256c4a258356b00fb0bdc497a0b46f0c28db77fe10c20a7", func := "bookend/bookendlaw27.ScanTurns", spec := "scanTurns", unfollowed := true, recurses := true, apart := false }
def ScanTurnsSaid : Prop := scanTurnsRow.holds Try.pinned (OpenSpec.ofChange scanTurnsSpec)

/-- ITS FALSE NEIGHBOUR: 'it returns false'. Refute it at one input. -/
def scanTurnsWrong : ChangeSpec := { name := "scanTurns", fn := fun _ => fun
  | [d1, d2] => { results := [.lit (.bool false)], args := [d1, d2] }
  | _ => none }
def ScanTurnsWrongFalsely : Prop := scanTurnsRow.holds Try.pinned (OpenSpec.ofChange scanTurnsWrong)

/-- 'bookendlaw27.ScanSeeks': WHATEVER THE INPUT: true; the input reads as it did. -/
def scanSeeksSpec : ChangeSpec := { name := "scanSeeks", fn := fun _ => fun
  | [d1, d2, d3] => { results := [.lit (.bool true)], args := [d1, d2, d3] }
  | _ => none }
def scanSeeksRow : OpenClaim := { program := "ytfknchngldknnaa", sum := "b32d24185fbcda555256c4a258356b00fb0bdc497a0b46f0c28db77fe10c20a7", func := "bookend/bookendlaw27.ScanSeeks", spec := "scanSeeks", unfollowed := true, recurses := true, apart := false }
def ScanSeeksSaid : Prop := scanSeeksRow.holds Try.pinned (OpenSpec.ofChange scanSeeksSpec)

/-- ITS FALSE NEIGHBOUR: 'it returns false'. Refute it at one input. -/
def scanSeeksWrong : ChangeSpec := { name := "scanSeeks", fn := fun _ => fun
  | [d1, d2, d3] => { results := [.lit (.bool false)], args := [d1, d2, d3] }
  | _ => none }
def ScanSeeksWrongFalsely : Prop := scanSeeksRow.holds Try.pinned (OpenSpec.ofChange scanSeeksWrong)

/-- 'bookendlaw27.ScanSame': WHATEVER THE INPUT: true; the input reads as it did. -/
def scanSameSpec : ChangeSpec := { name := "scanSame", fn := fun _ => fun
  | [d1, d2, d3] => { results := [.lit (.bool true)], args := [d1, d2, d3] }
  | _ => none }
def scanSameRow : OpenClaim := { program := "ytfknchngldknnaa", sum := "b32d24185fbcda555256c4a258356b00fb0bdc497a0b46f0c28db77fe10c20a7", func := "bookend/bookendlaw27.ScanSame", spec := "scanSame", unfollowed := true, recurses := true, apart := false }
def ScanSameSaid : Prop := scanSameRow.holds Try.pinned (OpenSpec.ofChange scanSameSpec)

/-- ITS FALSE NEIGHBOUR: 'it returns false'. Refute it at one input. -/
def scanSameWrong : ChangeSpec := { name := "scanSame", fn := fun _ => fun
  | [d1, d2, d3] => { results := [.lit (.bool false)], args := [d1, d2, d3] }
  | _ => none }
def ScanSameWrongFalsely : Prop := scanSameRow.holds Try.pinned (OpenSpec.ofChange scanSameWrong)

/-- 'bookendlaw27.ScanBegins': WHATEVER THE INPUT: true; the input reads as it did. -/
def scanBeginsSpec : ChangeSpec := { name := "scanBegins", fn := fun _ => fun
  | [d1, d2] => { results := [.lit (.bool true)], args := [d1, d2] }
  | _ => none }
def scanBeginsRow : OpenClaim := { program := "ytfknchngldknnaa", sum := "b32d24185fbcda555256c4a258356b00fb0bdc497a0b46f0c28db77fe10c20a7", func := "bookend/bookendlaw27.ScanBegins", spec := "scanBegins", unfollowed := true, recurses := true, apart := false }
def ScanBeginsSaid : Prop := scanBeginsRow.holds Try.pinned (OpenSpec.ofChange scanBeginsSpec)

/-- ITS FALSE NEIGHBOUR: 'it returns false'. Refute it at one input. -/
def scanBeginsWrong : ChangeSpec := { name := "scanBegins", fn := fun _ => fun
  | [d1, d2] => { results := [.lit (.bool false)], args := [d1, d2] }
  | _ => none }
def ScanBeginsWrongFalsely : Prop := scanBeginsRow.holds Try.pinned (OpenSpec.ofChange scanBeginsWrong)

/- THE SECOND FORM. 'bulk': how many values and letters a reading holds, each counted each time it is reached (what is shared counts as often as it is met; a slice's spare places count too). A statement '..UptoSaid' is the law's where the arguments, and the package variables that the reading takes, are together of bulk at most 1048576: NARROWER than '..Said'. Prove '..Said' where nothing that the law and all that it calls make is longer than what came in: it says more and counts as full. Else prove '..UptoSaid'. A law counts once. -/
mutual
def uptoBulk {H : Type} : DataW H → Nat
  | .lit (.string bytes) => bytes.length + 1
  | .lit _ => 1
  | .nil => 1
  | .ptr d => uptoBulk d + 1
  | .slice elems spare => uptoBulkAll elems + uptoBulkAll spare + 1
  | .agg parts => uptoBulkAll parts + 1
  | .iface _ d => uptoBulk d + 1
  | .map entries => uptoBulkEntries entries + 1
  | .held _ => 1
def uptoBulkAll {H : Type} : List (DataW H) → Nat
  | [] => 0
  | d :: r => uptoBulk d + uptoBulkAll r
def uptoBulkEntries {H : Type} : List (Lit × DataW H) → Nat
  | [] => 0
  | x :: r => uptoBulkEntry x + uptoBulkEntries r
def uptoBulkEntry {H : Type} : Lit × DataW H → Nat
  | (.string bytes, d) => bytes.length + uptoBulk d + 1
  | (_, d) => uptoBulk d + 1
 end
def uptoSmall : (H : Type) → List (DataW H) → Bool := fun _ ds => decide (uptoBulkAll ds ≤ 1048576)
def OpenSpec.upto (s : _root_.Go.ChangeSpec) : _root_.Go.OpenSpec := { _root_.Go.OpenSpec.ofChange s with cond := some uptoSmall }

/-- 'bookendlaw27.ScanMoves', WHERE WHAT IT READS IS OF BULK AT MOST 1048576: true; the input reads as it did. -/
def scanMovesUptoRow : OpenClaim := { program := "ytfknchngldknnaa", sum := "b32d24185fbcda555256c4a258356b00fb0bdc497a0b46f0c28db77fe10c20a7", func := "bookend/bookendlaw27.ScanMoves", spec := "scanMoves", unfollowed := true, recurses := true, apart := false, narrowed := true }
def ScanMovesUptoSaid : Prop := scanMovesUptoRow.holds Try.pinned (OpenSpec.upto scanMovesSpec)

/-- 'bookendlaw27.ScanWalks', WHERE WHAT IT READS IS OF BULK AT MOST 1048576: true; the input reads as it did. -/
def scanWalksUptoRow : OpenClaim := { program := "ytfknchngldknnaa", sum := "b32d24185fbcda555256c4a258356b00fb0bdc497a0b46f0c28db77fe10c20a7", func := "bookend/bookendlaw27.ScanWalks", spec := "scanWalks", unfollowed := true, recurses := true, apart := false, narrowed := true }
def ScanWalksUptoSaid : Prop := scanWalksUptoRow.holds Try.pinned (OpenSpec.upto scanWalksSpec)

/-- 'bookendlaw27.ScanTurns', WHERE WHAT IT READS IS OF BULK AT MOST 1048576: true; the input reads as it did. -/
def scanTurnsUptoRow : OpenClaim := { program := "ytfknchngldknnaa", sum := "b32d24185fbcda555256c4a258356b00fb0bdc497a0b46f0c28db77fe10c20a7", func := "bookend/bookendlaw27.ScanTurns", spec := "scanTurns", unfollowed := true, recurses := true, apart := false, narrowed := true }
def ScanTurnsUptoSaid : Prop := scanTurnsUptoRow.holds Try.pinned (OpenSpec.upto scanTurnsSpec)

/-- 'bookendlaw27.ScanSeeks', WHERE WHAT IT READS IS OF BULK AT MOST 1048576: true; the input reads as it did. -/
def scanSeeksUptoRow : OpenClaim := { program := "ytfknchngldknnaa", sum := "b32d24185fbcda555256c4a258356b00fb0bdc497a0b46f0c28db77fe10c20a7", func := "bookend/bookendlaw27.ScanSeeks", spec := "scanSeeks", unfollowed := true, recurses := true, apart := false, narrowed := true }
def ScanSeeksUptoSaid : Prop := scanSeeksUptoRow.holds Try.pinned (OpenSpec.upto scanSeeksSpec)

/-- 'bookendlaw27.ScanSame', WHERE WHAT IT READS IS OF BULK AT MOST 1048576: true; the input reads as it did. -/
def scanSameUptoRow : OpenClaim := { program := "ytfknchngldknnaa", sum := "b32d24185fbcda555256c4a258356b00fb0bdc497a0b46f0c28db77fe10c20a7", func := "bookend/bookendlaw27.ScanSame", spec := "scanSame", unfollowed := true, recurses := true, apart := false, narrowed := true }
def ScanSameUptoSaid : Prop := scanSameUptoRow.holds Try.pinned (OpenSpec.upto scanSameSpec)

/-- 'bookendlaw27.ScanBegins', WHERE WHAT IT READS IS OF BULK AT MOST 1048576: true; the input reads as it did. -/
def scanBeginsUptoRow : OpenClaim := { program := "ytfknchngldknnaa", sum := "b32d24185fbcda555256c4a258356b00fb0bdc497a0b46f0c28db77fe10c20a7", func := "bookend/bookendlaw27.ScanBegins", spec := "scanBegins", unfollowed := true, recurses := true, apart := false, narrowed := true }
def ScanBeginsUptoSaid : Prop := scanBeginsUptoRow.holds Try.pinned (OpenSpec.upto scanBeginsSpec)

end Rows
end Go.Proofs.Ytfknchngldknnaa
