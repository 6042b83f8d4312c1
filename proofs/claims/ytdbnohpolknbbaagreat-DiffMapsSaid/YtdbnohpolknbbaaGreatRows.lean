/-
  No cell of these rows narrows 'for every input' (looked for: loops, veiled, ifaces, maps, wideKeys, modest, calm, conditions, laid).
  DERIVED. THE GIVEN ROWS OF THIS SEAT. 4 by the template 'for every input the law returns true; each argument reads behind the call as it read before'; 0 by the template 'total and deterministic' (their statements: YtdbnohpolknbbaaGreatTotals.lean).
  GIVEN WITH THE SEED: the statements are not yours to turn. If you find one false, say at which input.
  Laid BY PROGRAM, IN A SANDBOX (cutbox-rows.mjs): the forced cells as the released guide's own fill.sh prints them over the translation 193eb7922062023c… (all of the seat's roots in one cut). By AI agents, Wed Nov 11 2026. No macro, syntax, notation, axiom, sorry.
-/
import Derived.Test.YtdbnohpolknbbaaGreatChecked
import GoSem.Claim
import GoSem.ClaimJoined
import GoSem.ClaimMapViews
import Derived.JoinedTies
import Derived.KernelRfl
namespace Go.Proofs.YtdbnohpolknbbaaGreat
/- THE CELL 'sum', in the pinned program and in every row, IS THE sha256 OF THE DUMP (.gsa) THAT YtdbnohpolknbbaaGreatProg.lean LOADS. Nothing in Lean hashes anything: it is a label: what it is worth is what the hold of that sum in a sandbox is worth. -/
noncomputable def Tryz.pinned : Pinned := { name := "ytdbnohpolknbbaagreat", sum := "193eb7922062023c660628092b5cd508f63cbc48332dfc9ea35ba6ee392ad6d1", checked := Tryz.checked }
namespace Rows
def none {H : Type} : Left H := { results := [], args := [] }

/-- 'bookendlaw28.DiffMaps': WHATEVER THE INPUT: true; the input reads as it did. -/
def diffMapsSpec : ChangeSpec := { name := "diffMaps", fn := fun _ => fun
  | [d1, d2] => { results := [.lit (.bool true)], args := [d1, d2] }
  | _ => none }
def diffMapsRow : OpenClaim := { program := "ytdbnohpolknbbaagreat", sum := "193eb7922062023c660628092b5cd508f63cbc48332dfc9ea35ba6ee392ad6d1", func := "bookend/bookendlaw28.DiffMaps", spec := "diffMaps", inPlace := ["slices.overlaps[bookend/api.Pair]"], unfollowed := true, recurses := true, apart := false }
def DiffMapsSaid : Prop := diffMapsRow.holds Tryz.pinned (OpenSpec.ofChange diffMapsSpec)

/-- ITS FALSE NEIGHBOUR: 'it returns false'. Refute it at one input. -/
def diffMapsWrong : ChangeSpec := { name := "diffMaps", fn := fun _ => fun
  | [d1, d2] => { results := [.lit (.bool false)], args := [d1, d2] }
  | _ => none }
def DiffMapsWrongFalsely : Prop := diffMapsRow.holds Tryz.pinned (OpenSpec.ofChange diffMapsWrong)

/-- 'bookendlaw28.DiffViews': WHATEVER THE INPUT: true; the input reads as it did. -/
def diffViewsSpec : ChangeSpec := { name := "diffViews", fn := fun _ => fun
  | [d1, d2] => { results := [.lit (.bool true)], args := [d1, d2] }
  | _ => none }
def diffViewsRow : OpenClaim := { program := "ytdbnohpolknbbaagreat", sum := "193eb7922062023c660628092b5cd508f63cbc48332dfc9ea35ba6ee392ad6d1", func := "bookend/bookendlaw28.DiffViews", spec := "diffViews", inPlace := ["slices.overlaps[bookend/api.Pair]"], unfollowed := true, recurses := true, apart := false }
def DiffViewsSaid : Prop := diffViewsRow.holds Tryz.pinned (OpenSpec.ofChange diffViewsSpec)

/-- ITS FALSE NEIGHBOUR: 'it returns false'. Refute it at one input. -/
def diffViewsWrong : ChangeSpec := { name := "diffViews", fn := fun _ => fun
  | [d1, d2] => { results := [.lit (.bool false)], args := [d1, d2] }
  | _ => none }
def DiffViewsWrongFalsely : Prop := diffViewsRow.holds Tryz.pinned (OpenSpec.ofChange diffViewsWrong)

/-- 'bookendlaw28.DiffChecks': WHATEVER THE INPUT: true; the input reads as it did. -/
def diffChecksSpec : ChangeSpec := { name := "diffChecks", fn := fun _ => fun
  | [d1, d2] => { results := [.lit (.bool true)], args := [d1, d2] }
  | _ => none }
def diffChecksRow : OpenClaim := { program := "ytdbnohpolknbbaagreat", sum := "193eb7922062023c660628092b5cd508f63cbc48332dfc9ea35ba6ee392ad6d1", func := "bookend/bookendlaw28.DiffChecks", spec := "diffChecks", inPlace := ["slices.overlaps[bookend/api.Pair]"], unfollowed := true, recurses := true, apart := false }
def DiffChecksSaid : Prop := diffChecksRow.holds Tryz.pinned (OpenSpec.ofChange diffChecksSpec)

/-- ITS FALSE NEIGHBOUR: 'it returns false'. Refute it at one input. -/
def diffChecksWrong : ChangeSpec := { name := "diffChecks", fn := fun _ => fun
  | [d1, d2] => { results := [.lit (.bool false)], args := [d1, d2] }
  | _ => none }
def DiffChecksWrongFalsely : Prop := diffChecksRow.holds Tryz.pinned (OpenSpec.ofChange diffChecksWrong)

/-- 'bookendlaw28.DiffApplies': WHATEVER THE INPUT: true; the input reads as it did. -/
def diffAppliesSpec : ChangeSpec := { name := "diffApplies", fn := fun _ => fun
  | [d1, d2] => { results := [.lit (.bool true)], args := [d1, d2] }
  | _ => none }
def diffAppliesRow : OpenClaim := { program := "ytdbnohpolknbbaagreat", sum := "193eb7922062023c660628092b5cd508f63cbc48332dfc9ea35ba6ee392ad6d1", func := "bookend/bookendlaw28.DiffApplies", spec := "diffApplies", inPlace := ["slices.overlaps[bookend/api.Pair]"], unfollowed := true, recurses := true, apart := false }
def DiffAppliesSaid : Prop := diffAppliesRow.holds Tryz.pinned (OpenSpec.ofChange diffAppliesSpec)

/-- ITS FALSE NEIGHBOUR: 'it returns false'. Refute it at one input. -/
def diffAppliesWrong : ChangeSpec := { name := "diffApplies", fn := fun _ => fun
  | [d1, d2] => { results := [.lit (.bool false)], args := [d1, d2] }
  | _ => none }
def DiffAppliesWrongFalsely : Prop := diffAppliesRow.holds Tryz.pinned (OpenSpec.ofChange diffAppliesWrong)

/- THE SECOND FORM. 'bulk': how many values and letters a reading holds, each counted each time it is reached (what is shared counts as often as it is met; a slice's spare places count too). A statement '..UptoSaid' is the law's where the arguments, and the package variables that the reading takes, are together of bulk at most 1048576: NARROWER than '..Said'. Prove '..Said' where nothing that the law and all that it calls make is longer than what came in: it says more and counts as full. Else prove '..UptoSaid'. A law counts once. -/
mutual
def uptoBulk {H : Type} : DataW H → Nat
  | .lit (.string bytes) => bytes.length + 1
  | .lit _ => 1
  | .nil => 1
  | .ptr d => uptoBulk d + 1
  | .slice elems spare => uptoBulkAll elems + uptoBulkAll spare + 1
  | .agg parts => uptoBulkAll parts + 1
  | .iface _ d => uptoBulk d + 1
  | .map entries => uptoBulkEntries entries + 1
  | .held _ => 1
def uptoBulkAll {H : Type} : List (DataW H) → Nat
  | [] => 0
  | d :: r => uptoBulk d + uptoBulkAll r
def uptoBulkEntries {H : Type} : List (Lit × DataW H) → Nat
  | [] => 0
  | x :: r => uptoBulkEntry x + uptoBulkEntries r
def uptoBulkEntry {H : Type} : Lit × DataW H → Nat
  | (.string bytes, d) => bytes.length + uptoBulk d + 1
  | (_, d) => uptoBulk d + 1
 end
def uptoSmall : (H : Type) → List (DataW H) → Bool := fun _ ds => decide (uptoBulkAll ds ≤ 1048576)
def OpenSpec.upto (s : _root_.Go.ChangeSpec) : _root_.Go.OpenSpec := { _root_.Go.OpenSpec.ofChange s with cond := some uptoSmall }

/-- 'bookendlaw28.DiffMaps', WHERE WHAT IT READS IS OF BULK AT MOST 1048576: true; the input reads as it did. -/
def diffMapsUptoRow : OpenClaim := { program := "ytdbnohpolknbbaagreat", sum := "193eb7922062023c660628092b5cd508f63cbc48332dfc9ea35ba6ee392ad6d1", func := "bookend/bookendlaw28.DiffMaps", spec := "diffMaps", inPlace := ["slices.overlaps[bookend/api.Pair]"], unfollowed := true, recurses := true, apart := false, narrowed := true }
def DiffMapsUptoSaid : Prop := diffMapsUptoRow.holds Tryz.pinned (OpenSpec.upto diffMapsSpec)

/-- 'bookendlaw28.DiffViews', WHERE WHAT IT READS IS OF BULK AT MOST 1048576: true; the input reads as it did. -/
def diffViewsUptoRow : OpenClaim := { program := "ytdbnohpolknbbaagreat", sum := "193eb7922062023c660628092b5cd508f63cbc48332dfc9ea35ba6ee392ad6d1", func := "bookend/bookendlaw28.DiffViews", spec := "diffViews", inPlace := ["slices.overlaps[bookend/api.Pair]"], unfollowed := true, recurses := true, apart := false, narrowed := true }
def DiffViewsUptoSaid : Prop := diffViewsUptoRow.holds Tryz.pinned (OpenSpec.upto diffViewsSpec)

/-- 'bookendlaw28.DiffChecks', WHERE WHAT IT READS IS OF BULK AT MOST 1048576: true; the input reads as it did. -/
def diffChecksUptoRow : OpenClaim := { program := "ytdbnohpolknbbaagreat", sum := "193eb7922062023c660628092b5cd508f63cbc48332dfc9ea35ba6ee392ad6d1", func := "bookend/bookendlaw28.DiffChecks", spec := "diffChecks", inPlace := ["slices.overlaps[bookend/api.Pair]"], unfollowed := true, recurses := true, apart := false, narrowed := true }
def DiffChecksUptoSaid : Prop := diffChecksUptoRow.holds Tryz.pinned (OpenSpec.upto diffChecksSpec)

/-- 'bookendlaw28.DiffApplies', WHERE WHAT IT READS IS OF BULK AT MOST 1048576: true; the input reads as it did. -/
def diffAppliesUptoRow : OpenClaim := { program := "ytdbnohpolknbbaagreat", sum := "193eb7922062023c660628092b5cd508f63cbc48332dfc9ea35ba6ee392ad6d1", func := "bookend/bookendlaw28.DiffApplies", spec := "diffApplies", inPlace := ["slices.overlaps[bookend/api.Pair]"], unfollowed := true, recurses := true, apart := false, narrowed := true }
def DiffAppliesUptoSaid : Prop := diffAppliesUptoRow.holds Tryz.pinned (OpenSpec.upto diffAppliesSpec)

end Rows
end Go.Proofs.YtdbnohpolknbbaaGreat
