/-
  No cell of these rows narrows 'for every input' (looked for: loops, veiled, ifaces, maps, wideKeys, modest, calm, conditions, laid).
  DERIVED. THE GIVEN ROWS OF THIS SEAT. 6 by the template 'for every input the law returns true; each argument reads behind the call as it read before'; 0 by the template 'total and deterministic' (their statements: YtjlfkgffgnkflaaTotals.lean).
  GIVEN WITH THE SEED: the statements are not yours to turn. If you find one false, say at which input.
  Laid BY PROGRAM, IN A SANDBOX (cutbox-rows.mjs): the forced cells as the released guide's own fill.sh prints them over the translation 89ee3f618ae0e43e… (all of the seat's roots in one cut). By AI agents, Wed Nov 11 2026. No macro, syntax, notation, axiom, sorry.
-/
import Derived.Test.YtjlfkgffgnkflaaChecked
import GoSem.Claim
import GoSem.ClaimJoined
import GoSem.ClaimMapViews
import Derived.JoinedTies
import Derived.KernelRfl
namespace Go.Proofs.Ytjlfkgffgnkflaa
/- THE CELL 'sum', in the pinned program and in every row, IS THE sha256 OF THE DUMP (.gsa) THAT YtjlfkgffgnkflaaProg.lean LOADS. Nothing in Lean hashes anything: it is a label: what it is worth is what the hold of that sum in a sandbox is worth. -/
noncomputable def Try.pinned : Pinned := { name := "ytjlfkgffgnkflaa", sum := "89ee3f618ae0e43e79f61b7b9a8380193b3dd8c38e0eaf5115130084f0a6093f", checked := Try.checked }
namespace Rows
def none {H : Type} : Left H := { results := [], args := [] }

/-- 'bookendlaw10.LoserBuilds': WHATEVER THE INPUT: true; the input reads as it did. -/
def loserBuildsSpec : ChangeSpec := { name := "loserBuilds", fn := fun _ => fun
  | [d1, d2, d3] => { results := [.lit (.bool true)], args := [d1, d2, d3] }
  | _ => none }
def loserBuildsRow : OpenClaim := { program := "ytjlfkgffgnkflaa", sum := "89ee3f618ae0e43e79f61b7b9a8380193b3dd8c38e0eaf5115130084f0a6093f", func := "bookend/bookendlaw10.LoserBuilds", spec := "loserBuilds", unfollowed := true, recurses := true, apart := false }
def LoserBuildsSaid : Prop := loserBuildsRow.holds Try.pinned (OpenSpec.ofChange loserBuildsSpec)

/-- ITS FALSE NEIGHBOUR: 'it returns false'. Refute it at one input. -/
def loserBuildsWrong : ChangeSpec := { name := "loserBuilds", fn := fun _ => fun
  | [d1, d2, d3] => { results := [.lit (.bool false)], args := [d1, d2, d3] }
  | _ => none }
def LoserBuildsWrongFalsely : Prop := loserBuildsRow.holds Try.pinned (OpenSpec.ofChange loserBuildsWrong)

/-- 'bookendlaw10.LoserTurns': WHATEVER THE INPUT: true; the input reads as it did. -/
def loserTurnsSpec : ChangeSpec := { name := "loserTurns", fn := fun _ => fun
  | [d1, d2, d3] => { results := [.lit (.bool true)], args := [d1, d2, d3] }
  | _ => none }
def loserTurnsRow : OpenClaim := { program := "ytjlfkgffgnkflaa", sum := "89ee3f618ae0e43e79f61b7b9a8380193b3dd8c38e0eaf5115130084f0a6093f", func := "bookend/bookendlaw10.LoserTurns", spec := "loserTurns", unfollowed := true, recurses := true, apart := false }
def LoserTurnsSaid : Prop := loserTurnsRow.holds Try.pinned (OpenSpec.ofChange loserTurnsSpec)

/-- ITS FALSE NEIGHBOUR: 'it returns false'. Refute it at one input. -/
def loserTurnsWrong : ChangeSpec := { name := "loserTurns", fn := fun _ => fun
  | [d1, d2, d3] => { results := [.lit (.bool false)], args := [d1, d2, d3] }
  | _ => none }
def LoserTurnsWrongFalsely : Prop := loserTurnsRow.holds Try.pinned (OpenSpec.ofChange loserTurnsWrong)

/-- 'bookendlaw10.LoserMerges': WHATEVER THE INPUT: true; the input reads as it did. -/
def loserMergesSpec : ChangeSpec := { name := "loserMerges", fn := fun _ => fun
  | [d] => { results := [.lit (.bool true)], args := [d] }
  | _ => none }
def loserMergesRow : OpenClaim := { program := "ytjlfkgffgnkflaa", sum := "89ee3f618ae0e43e79f61b7b9a8380193b3dd8c38e0eaf5115130084f0a6093f", func := "bookend/bookendlaw10.LoserMerges", spec := "loserMerges", unfollowed := true, recurses := true, apart := false }
def LoserMergesSaid : Prop := loserMergesRow.holds Try.pinned (OpenSpec.ofChange loserMergesSpec)

/-- ITS FALSE NEIGHBOUR: 'it returns false'. Refute it at one input. -/
def loserMergesWrong : ChangeSpec := { name := "loserMerges", fn := fun _ => fun
  | [d] => { results := [.lit (.bool false)], args := [d] }
  | _ => none }
def LoserMergesWrongFalsely : Prop := loserMergesRow.holds Try.pinned (OpenSpec.ofChange loserMergesWrong)

/-- 'bookendlaw10.LoserGames': WHATEVER THE INPUT: true; the input reads as it did. -/
def loserGamesSpec : ChangeSpec := { name := "loserGames", fn := fun _ => fun
  | [d1, d2] => { results := [.lit (.bool true)], args := [d1, d2] }
  | _ => none }
def loserGamesRow : OpenClaim := { program := "ytjlfkgffgnkflaa", sum := "89ee3f618ae0e43e79f61b7b9a8380193b3dd8c38e0eaf5115130084f0a6093f", func := "bookend/bookendlaw10.LoserGames", spec := "loserGames", unfollowed := true, recurses := true, apart := false }
def LoserGamesSaid : Prop := loserGamesRow.holds Try.pinned (OpenSpec.ofChange loserGamesSpec)

/-- ITS FALSE NEIGHBOUR: 'it returns false'. Refute it at one input. -/
def loserGamesWrong : ChangeSpec := { name := "loserGames", fn := fun _ => fun
  | [d1, d2] => { results := [.lit (.bool false)], args := [d1, d2] }
  | _ => none }
def LoserGamesWrongFalsely : Prop := loserGamesRow.holds Try.pinned (OpenSpec.ofChange loserGamesWrong)

/-- 'bookendlaw10.LoserLeast': WHATEVER THE INPUT: true; the input reads as it did. -/
def loserLeastSpec : ChangeSpec := { name := "loserLeast", fn := fun _ => fun
  | [d] => { results := [.lit (.bool true)], args := [d] }
  | _ => none }
def loserLeastRow : OpenClaim := { program := "ytjlfkgffgnkflaa", sum := "89ee3f618ae0e43e79f61b7b9a8380193b3dd8c38e0eaf5115130084f0a6093f", func := "bookend/bookendlaw10.LoserLeast", spec := "loserLeast", unfollowed := true, recurses := true, apart := false }
def LoserLeastSaid : Prop := loserLeastRow.holds Try.pinned (OpenSpec.ofChange loserLeastSpec)

/-- ITS FALSE NEIGHBOUR: 'it returns false'. Refute it at one input. -/
def loserLeastWrong : ChangeSpec := { name := "loserLeast", fn := fun _ => fun
  | [d] => { results := [.lit (.bool false)], args := [d] }
  | _ => none }
def LoserLeastWrongFalsely : Prop := loserLeastRow.holds Try.pinned (OpenSpec.ofChange loserLeastWrong)

/-- 'bookendlaw10.LoserOwn': WHATEVER THE INPUT: true; the input reads as it did. -/
def loserOwnSpec : ChangeSpec := { name := "loserOwn", fn := fun _ => fun
  | [d1, d2] => { results := [.lit (.bool true)], args := [d1, d2] }
  | _ => none }
def loserOwnRow : OpenClaim := { program := "ytjlfkgffgnkflaa", sum := "89ee3f618ae0e43e79f61b7b9a8380193b3dd8c38e0eaf5115130084f0a6093f", func := "bookend/bookendlaw10.LoserOwn", spec := "loserOwn", unfollowed := true, recurses := true, apart := false }
def LoserOwnSaid : Prop := loserOwnRow.holds Try.pinned (OpenSpec.ofChange loserOwnSpec)

/-- ITS FALSE NEIGHBOUR: 'it returns false'. Refute it at one input. -/
def loserOwnWrong : ChangeSpec := { name := "loserOwn", fn := fun _ => fun
  | [d1, d2] => { results := [.lit (.bool false)], args := [d1, d2] }
  | _ => none }
def LoserOwnWrongFalsely : Prop := loserOwnRow.holds Try.pinned (OpenSpec.ofChange loserOwnWrong)

/- THE SECOND FORM. 'bulk': how many values and letters a reading holds, each counted each time it is reached (what is shared counts as often as it is met; a slice's spare places count too). A statement '..UptoSaid' is the law's where the arguments, and the package variables that the reading takes, are together of bulk at most 1048576: NARROWER than '..Said'. Prove '..Said' where nothing that the law and all that it calls make is longer than what came in: it says more and counts as full. Else prove '..UptoSaid'. A law counts once. -/
mutual
def uptoBulk {H : Type} : DataW H → Nat
  | .lit (.string bytes) => bytes.length + 1
  | .lit _ => 1
  | .nil => 1
  | .ptr d => uptoBulk d + 1
  | .slice elems spare => uptoBulkAll elems + uptoBulkAll spare + 1
  | .agg parts => uptoBulkAll parts + 1
  | .iface _ d => uptoBulk d + 1
  | .map entries => uptoBulkEntries entries + 1
  | .held _ => 1
def uptoBulkAll {H : Type} : List (DataW H) → Nat
  | [] => 0
  | d :: r => uptoBulk d + uptoBulkAll r
def uptoBulkEntries {H : Type} : List (Lit × DataW H) → Nat
  | [] => 0
  | x :: r => uptoBulkEntry x + uptoBulkEntries r
def uptoBulkEntry {H : Type} : Lit × DataW H → Nat
  | (.string bytes, d) => bytes.length + uptoBulk d + 1
  | (_, d) => uptoBulk d + 1
 end
def uptoSmall : (H : Type) → List (DataW H) → Bool := fun _ ds => decide (uptoBulkAll ds ≤ 1048576)
def OpenSpec.upto (s : _root_.Go.ChangeSpec) : _root_.Go.OpenSpec := { _root_.Go.OpenSpec.ofChange s with cond := some uptoSmall }

/-- 'bookendlaw10.LoserBuilds', WHERE WHAT IT READS IS OF BULK AT MOST 1048576: true; the input reads as it did. -/
def loserBuildsUptoRow : OpenClaim := { program := "ytjlfkgffgnkflaa", sum := "89ee3f618ae0e43e79f61b7b9a8380193b3dd8c38e0eaf5115130084f0a6093f", func := "bookend/bookendlaw10.LoserBuilds", spec := "loserBuilds", unfollowed := true, recurses := true, apart := false, narrowed := true }
def LoserBuildsUptoSaid : Prop := loserBuildsUptoRow.holds Try.pinned (OpenSpec.upto loserBuildsSpec)

/-- 'bookendlaw10.LoserTurns', WHERE WHAT IT READS IS OF BULK AT MOST 1048576: true; the input reads as it did. -/
def loserTurnsUptoRow : OpenClaim := { program := "ytjlfkgffgnkflaa", sum := "89ee3f618ae0e43e79f61b7b9a8380193b3dd8c38e0eaf5115130084f0a6093f", func := "bookend/bookendlaw10.LoserTurns", spec := "loserTurns", unfollowed := true, recurses := true, apart := false, narrowed := true }
def LoserTurnsUptoSaid : Prop := loserTurnsUptoRow.holds Try.pinned (OpenSpec.upto loserTurnsSpec)

/-- 'bookendlaw10.LoserMerges', WHERE WHAT IT READS IS OF BULK AT MOST 1048576: true; the input reads as it did. -/
def loserMergesUptoRow : OpenClaim := { program := "ytjlfkgffgnkflaa", sum := "89ee3f618ae0e43e79f61b7b9a8380193b3dd8c38e0eaf5115130084f0a6093f", func := "bookend/bookendlaw10.LoserMerges", spec := "loserMerges", unfollowed := true, recurses := true, apart := false, narrowed := true }
def LoserMergesUptoSaid : Prop := loserMergesUptoRow.holds Try.pinned (OpenSpec.upto loserMergesSpec)

/-- 'bookendlaw10.LoserGames', WHERE WHAT IT READS IS OF BULK AT MOST 1048576: true; the input reads as it did. -/
def loserGamesUptoRow : OpenClaim := { program := "ytjlfkgffgnkflaa", sum := "89ee3f618ae0e43e79f61b7b9a8380193b3dd8c38e0eaf5115130084f0a6093f", func := "bookend/bookendlaw10.LoserGames", spec := "loserGames", unfollowed := true, recurses := true, apart := false, narrowed := true }
def LoserGamesUptoSaid : Prop := loserGamesUptoRow.holds Try.pinned (OpenSpec.upto loserGamesSpec)

/-- 'bookendlaw10.LoserLeast', WHERE WHAT IT READS IS OF BULK AT MOST 1048576: true; the input reads as it did. -/
def loserLeastUptoRow : OpenClaim := { program := "ytjlfkgffgnkflaa", sum := "89ee3f618ae0e43e79f61b7b9a8380193b3dd8c38e0eaf5115130084f0a6093f", func := "bookend/bookendlaw10.LoserLeast", spec := "loserLeast", unfollowed := true, recurses := true, apart := false, narrowed := true }
def LoserLeastUptoSaid : Prop := loserLeastUptoRow.holds Try.pinned (OpenSpec.upto loserLeastSpec)

/-- 'bookendlaw10.LoserOwn', WHERE WHAT IT READS IS OF BULK AT MOST 1048576: true; the input reads as it did. -/
def loserOwnUptoRow : OpenClaim := { program := "ytjlfkgffgnkflaa", sum := "89ee3f618ae0e43e79f61b7b9a8380193b3dd8c38e0eaf5115130084f0a6093f", func := "bookend/bookendlaw10.LoserOwn", spec := "loserOwn", unfollowed := true, recurses := true, apart := false, narrowed := true }
def LoserOwnUptoSaid : Prop := loserOwnUptoRow.holds Try.pinned (OpenSpec.upto loserOwnSpec)

end Rows
end Go.Proofs.Ytjlfkgffgnkflaa
