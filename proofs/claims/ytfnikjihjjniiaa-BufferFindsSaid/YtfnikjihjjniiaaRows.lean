/-
  No cell of these rows narrows 'for every input' (looked for: loops, veiled, ifaces, maps, wideKeys, modest, calm, conditions, laid).
  DERIVED. THE GIVEN ROWS OF THIS SEAT. 7 by the template 'for every input the law returns true; each argument reads behind the call as it read before'; 0 by the template 'total and deterministic' (their statements: YtfnikjihjjniiaaTotals.lean).
  GIVEN WITH THE SEED: the statements are not yours to turn. If you find one false, say at which input.
  Laid BY PROGRAM, IN A SANDBOX (cutbox-rows.mjs): the forced cells as the released guide's own fill.sh prints them over the translation 5a140b957cb7dd1e… (all of the seat's roots in one cut). By AI agents, Wed Nov 11 2026. No macro, syntax, notation, axiom, sorry.
-/
import Derived.Test.YtfnikjihjjniiaaChecked
import GoSem.Claim
import GoSem.ClaimJoined
import GoSem.ClaimMapViews
import Derived.JoinedTies
import Derived.KernelRfl
namespace Go.Proofs.Ytfnikjihjjniiaa
/- THE CELL 'sum', in the pinned program and in every row, IS THE sha256 OF THE DUMP (.gsa) THAT YtfnikjihjjniiaaProg.lean LOADS. Nothing in Lean hashes anything: it is a label: what it is worth is what the hold of that sum in a sandbox is worth. -/
noncomputable def Try.pinned : Pinned := { name := "ytfnikjihjjniiaa", sum := "5a140b957cb7dd1ee4ad2091c137a4547f840660df5fae942123d82b3fb5bca1", checked := Try.checked }
namespace Rows
def none {H : Type} : Left H := { results := [], args := [] }

/-- 'bookendlaw14.BufferWrites': WHATEVER THE INPUT: true; the input reads as it did. -/
def bufferWritesSpec : ChangeSpec := { name := "bufferWrites", fn := fun _ => fun
  | [d1, d2] => { results := [.lit (.bool true)], args := [d1, d2] }
  | _ => none }
def bufferWritesRow : OpenClaim := { program := "ytfnikjihjjniiaa", sum := "5a140b957cb7dd1ee4ad2091c137a4547f840660df5fae942123d82b3fb5bca1", func := "bookend/bookendlaw14.BufferWrites", spec := "bufferWrites", unfollowed := true, recurses := true, apart := false }
def BufferWritesSaid : Prop := bufferWritesRow.holds Try.pinned (OpenSpec.ofChange bufferWritesSpec)

/-- ITS FALSE NEIGHBOUR: 'it returns false'. Refute it at one input. -/
def bufferWritesWrong : ChangeSpec := { name := "bufferWrites", fn := fun _ => fun
  | [d1, d2] => { results := [.lit (.bool false)], args := [d1, d2] }
  | _ => none }
def BufferWritesWrongFalsely : Prop := bufferWritesRow.holds Try.pinned (OpenSpec.ofChange bufferWritesWrong)

/-- 'bookendlaw14.BufferSeals': WHATEVER THE INPUT: true; the input reads as it did. -/
def bufferSealsSpec : ChangeSpec := { name := "bufferSeals", fn := fun _ => fun
  | [d1, d2] => { results := [.lit (.bool true)], args := [d1, d2] }
  | _ => none }
def bufferSealsRow : OpenClaim := { program := "ytfnikjihjjniiaa", sum := "5a140b957cb7dd1ee4ad2091c137a4547f840660df5fae942123d82b3fb5bca1", func := "bookend/bookendlaw14.BufferSeals", spec := "bufferSeals", unfollowed := true, recurses := true, apart := false }
def BufferSealsSaid : Prop := bufferSealsRow.holds Try.pinned (OpenSpec.ofChange bufferSealsSpec)

/-- ITS FALSE NEIGHBOUR: 'it returns false'. Refute it at one input. -/
def bufferSealsWrong : ChangeSpec := { name := "bufferSeals", fn := fun _ => fun
  | [d1, d2] => { results := [.lit (.bool false)], args := [d1, d2] }
  | _ => none }
def BufferSealsWrongFalsely : Prop := bufferSealsRow.holds Try.pinned (OpenSpec.ofChange bufferSealsWrong)

/-- 'bookendlaw14.BufferKnown': WHATEVER THE INPUT: true; the input reads as it did. -/
def bufferKnownSpec : ChangeSpec := { name := "bufferKnown", fn := fun _ => fun
  | [] => { results := [.lit (.bool true)], args := [] }
  | _ => none }
def bufferKnownRow : OpenClaim := { program := "ytfnikjihjjniiaa", sum := "5a140b957cb7dd1ee4ad2091c137a4547f840660df5fae942123d82b3fb5bca1", func := "bookend/bookendlaw14.BufferKnown", spec := "bufferKnown", unfollowed := true, recurses := true, apart := false }
def BufferKnownSaid : Prop := bufferKnownRow.holds Try.pinned (OpenSpec.ofChange bufferKnownSpec)

/-- ITS FALSE NEIGHBOUR: 'it returns false'. Refute it at one input. -/
def bufferKnownWrong : ChangeSpec := { name := "bufferKnown", fn := fun _ => fun
  | [] => { results := [.lit (.bool false)], args := [] }
  | _ => none }
def BufferKnownWrongFalsely : Prop := bufferKnownRow.holds Try.pinned (OpenSpec.ofChange bufferKnownWrong)

/-- 'bookendlaw14.BufferChecks': WHATEVER THE INPUT: true; the input reads as it did. -/
def bufferChecksSpec : ChangeSpec := { name := "bufferChecks", fn := fun _ => fun
  | [d1, d2] => { results := [.lit (.bool true)], args := [d1, d2] }
  | _ => none }
def bufferChecksRow : OpenClaim := { program := "ytfnikjihjjniiaa", sum := "5a140b957cb7dd1ee4ad2091c137a4547f840660df5fae942123d82b3fb5bca1", func := "bookend/bookendlaw14.BufferChecks", spec := "bufferChecks", unfollowed := true, recurses := true, apart := false }
def BufferChecksSaid : Prop := bufferChecksRow.holds Try.pinned (OpenSpec.ofChange bufferChecksSpec)

/-- ITS FALSE NEIGHBOUR: 'it returns false'. Refute it at one input. -/
def bufferChecksWrong : ChangeSpec := { name := "bufferChecks", fn := fun _ => fun
  | [d1, d2] => { results := [.lit (.bool false)], args := [d1, d2] }
  | _ => none }
def BufferChecksWrongFalsely : Prop := bufferChecksRow.holds Try.pinned (OpenSpec.ofChange bufferChecksWrong)

/-- 'bookendlaw14.BufferKeeps': WHATEVER THE INPUT: true; the input reads as it did. -/
def bufferKeepsSpec : ChangeSpec := { name := "bufferKeeps", fn := fun _ => fun
  | [d1, d2] => { results := [.lit (.bool true)], args := [d1, d2] }
  | _ => none }
def bufferKeepsRow : OpenClaim := { program := "ytfnikjihjjniiaa", sum := "5a140b957cb7dd1ee4ad2091c137a4547f840660df5fae942123d82b3fb5bca1", func := "bookend/bookendlaw14.BufferKeeps", spec := "bufferKeeps", unfollowed := true, recurses := true, apart := false }
def BufferKeepsSaid : Prop := bufferKeepsRow.holds Try.pinned (OpenSpec.ofChange bufferKeepsSpec)

/-- ITS FALSE NEIGHBOUR: 'it returns false'. Refute it at one input. -/
def bufferKeepsWrong : ChangeSpec := { name := "bufferKeeps", fn := fun _ => fun
  | [d1, d2] => { results := [.lit (.bool false)], args := [d1, d2] }
  | _ => none }
def BufferKeepsWrongFalsely : Prop := bufferKeepsRow.holds Try.pinned (OpenSpec.ofChange bufferKeepsWrong)

/-- 'bookendlaw14.BufferWorks': WHATEVER THE INPUT: true; the input reads as it did. -/
def bufferWorksSpec : ChangeSpec := { name := "bufferWorks", fn := fun _ => fun
  | [d1, d2] => { results := [.lit (.bool true)], args := [d1, d2] }
  | _ => none }
def bufferWorksRow : OpenClaim := { program := "ytfnikjihjjniiaa", sum := "5a140b957cb7dd1ee4ad2091c137a4547f840660df5fae942123d82b3fb5bca1", func := "bookend/bookendlaw14.BufferWorks", spec := "bufferWorks", unfollowed := true, recurses := true, apart := false }
def BufferWorksSaid : Prop := bufferWorksRow.holds Try.pinned (OpenSpec.ofChange bufferWorksSpec)

/-- ITS FALSE NEIGHBOUR: 'it returns false'. Refute it at one input. -/
def bufferWorksWrong : ChangeSpec := { name := "bufferWorks", fn := fun _ => fun
  | [d1, d2] => { results := [.lit (.bool false)], args := [d1, d2] }
  | _ => none }
def BufferWorksWrongFalsely : Prop := bufferWorksRow.holds Try.pinned (OpenSpec.ofChange bufferWorksWrong)

/-- 'bookendlaw14.BufferFinds': WHATEVER THE INPUT: true; the input reads as it did. -/
def bufferFindsSpec : ChangeSpec := { name := "bufferFinds", fn := fun _ => fun
  | [d1, d2, d3] => { results := [.lit (.bool true)], args := [d1, d2, d3] }
  | _ => none }
def bufferFindsRow : OpenClaim := { program := "ytfnikjihjjniiaa", sum := "5a140b957cb7dd1ee4ad2091c137a4547f840660df5fae942123d82b3fb5bca1", func := "bookend/bookendlaw14.BufferFinds", spec := "bufferFinds", unfollowed := true, recurses := true, apart := false }
def BufferFindsSaid : Prop := bufferFindsRow.holds Try.pinned (OpenSpec.ofChange bufferFindsSpec)

/-- ITS FALSE NEIGHBOUR: 'it returns false'. Refute it at one input. -/
def bufferFindsWrong : ChangeSpec := { name := "bufferFinds", fn := fun _ => fun
  | [d1, d2, d3] => { results := [.lit (.bool false)], args := [d1, d2, d3] }
  | _ => none }
def BufferFindsWrongFalsely : Prop := bufferFindsRow.holds Try.pinned (OpenSpec.ofChange bufferFindsWrong)

/- THE SECOND FORM. 'bulk': how many values and letters a reading holds, each counted each time it is reached (what is shared counts as often as it is met; a slice's spare places count too). A statement '..UptoSaid' is the law's where the arguments, and the package variables that the reading takes, are together of bulk at most 1048576: NARROWER than '..Said'. Prove '..Said' where nothing that the law and all that it calls make is longer than what came in: it says more and counts as full. Else prove '..UptoSaid'. A law counts once. -/
mutual
def uptoBulk {H : Type} : DataW H → Nat
  | .lit (.string bytes) => bytes.length + 1
  | .lit _ => 1
  | .nil => 1
  | .ptr d => uptoBulk d + 1
  | .slice elems spare => uptoBulkAll elems + uptoBulkAll spare + 1
  | .agg parts => uptoBulkAll parts + 1
  | .iface _ d => uptoBulk d + 1
  | .map entries => uptoBulkEntries entries + 1
  | .held _ => 1
def uptoBulkAll {H : Type} : List (DataW H) → Nat
  | [] => 0
  | d :: r => uptoBulk d + uptoBulkAll r
def uptoBulkEntries {H : Type} : List (Lit × DataW H) → Nat
  | [] => 0
  | x :: r => uptoBulkEntry x + uptoBulkEntries r
def uptoBulkEntry {H : Type} : Lit × DataW H → Nat
  | (.string bytes, d) => bytes.length + uptoBulk d + 1
  | (_, d) => uptoBulk d + 1
 end
def uptoSmall : (H : Type) → List (DataW H) → Bool := fun _ ds => decide (uptoBulkAll ds ≤ 1048576)
def OpenSpec.upto (s : _root_.Go.ChangeSpec) : _root_.Go.OpenSpec := { _root_.Go.OpenSpec.ofChange s with cond := some uptoSmall }

/-- 'bookendlaw14.BufferWrites', WHERE WHAT IT READS IS OF BULK AT MOST 1048576: true; the input reads as it did. -/
def bufferWritesUptoRow : OpenClaim := { program := "ytfnikjihjjniiaa", sum := "5a140b957cb7dd1ee4ad2091c137a4547f840660df5fae942123d82b3fb5bca1", func := "bookend/bookendlaw14.BufferWrites", spec := "bufferWrites", unfollowed := true, recurses := true, apart := false, narrowed := true }
def BufferWritesUptoSaid : Prop := bufferWritesUptoRow.holds Try.pinned (OpenSpec.upto bufferWritesSpec)

/-- 'bookendlaw14.BufferSeals', WHERE WHAT IT READS IS OF BULK AT MOST 1048576: true; the input reads as it did. -/
def bufferSealsUptoRow : OpenClaim := { program := "ytfnikjihjjniiaa", sum := "5a140b957cb7dd1ee4ad2091c137a4547f840660df5fae942123d82b3fb5bca1", func := "bookend/bookendlaw14.BufferSeals", spec := "bufferSeals", unfollowed := true, recurses := true, apart := false, narrowed := true }
def BufferSealsUptoSaid : Prop := bufferSealsUptoRow.holds Try.pinned (OpenSpec.upto bufferSealsSpec)

/-- 'bookendlaw14.BufferKnown', WHERE WHAT IT READS IS OF BULK AT MOST 1048576: true; the input reads as it did. -/
def bufferKnownUptoRow : OpenClaim := { program := "ytfnikjihjjniiaa", sum := "5a140b957cb7dd1ee4ad2091c137a4547f840660df5fae942123d82b3fb5bca1", func := "bookend/bookendlaw14.BufferKnown", spec := "bufferKnown", unfollowed := true, recurses := true, apart := false, narrowed := true }
def BufferKnownUptoSaid : Prop := bufferKnownUptoRow.holds Try.pinned (OpenSpec.upto bufferKnownSpec)

/-- 'bookendlaw14.BufferChecks', WHERE WHAT IT READS IS OF BULK AT MOST 1048576: true; the input reads as it did. -/
def bufferChecksUptoRow : OpenClaim := { program := "ytfnikjihjjniiaa", sum := "5a140b957cb7dd1ee4ad2091c137a4547f840660df5fae942123d82b3fb5bca1", func := "bookend/bookendlaw14.BufferChecks", spec := "bufferChecks", unfollowed := true, recurses := true, apart := false, narrowed := true }
def BufferChecksUptoSaid : Prop := bufferChecksUptoRow.holds Try.pinned (OpenSpec.upto bufferChecksSpec)

/-- 'bookendlaw14.BufferKeeps', WHERE WHAT IT READS IS OF BULK AT MOST 1048576: true; the input reads as it did. -/
def bufferKeepsUptoRow : OpenClaim := { program := "ytfnikjihjjniiaa", sum := "5a140b957cb7dd1ee4ad2091c137a4547f840660df5fae942123d82b3fb5bca1", func := "bookend/bookendlaw14.BufferKeeps", spec := "bufferKeeps", unfollowed := true, recurses := true, apart := false, narrowed := true }
def BufferKeepsUptoSaid : Prop := bufferKeepsUptoRow.holds Try.pinned (OpenSpec.upto bufferKeepsSpec)

/-- 'bookendlaw14.BufferWorks', WHERE WHAT IT READS IS OF BULK AT MOST 1048576: true; the input reads as it did. -/
def bufferWorksUptoRow : OpenClaim := { program := "ytfnikjihjjniiaa", sum := "5a140b957cb7dd1ee4ad2091c137a4547f840660df5fae942123d82b3fb5bca1", func := "bookend/bookendlaw14.BufferWorks", spec := "bufferWorks", unfollowed := true, recurses := true, apart := false, narrowed := true }
def BufferWorksUptoSaid : Prop := bufferWorksUptoRow.holds Try.pinned (OpenSpec.upto bufferWorksSpec)

/-- 'bookendlaw14.BufferFinds', WHERE WHAT IT READS IS OF BULK AT MOST 1048576: true; the input reads as it did. -/
def bufferFindsUptoRow : OpenClaim := { program := "ytfnikjihjjniiaa", sum := "5a140b957cb7dd1ee4ad2091c137a4547f840660df5fae942123d82b3fb5bca1", func := "bookend/bookendlaw14.BufferFinds", spec := "bufferFinds", unfollowed := true, recurses := true, apart := false, narrowed := true }
def BufferFindsUptoSaid : Prop := bufferFindsUptoRow.holds Try.pinned (OpenSpec.upto bufferFindsSpec)

end Rows
end Go.Proofs.Ytfnikjihjjniiaa
