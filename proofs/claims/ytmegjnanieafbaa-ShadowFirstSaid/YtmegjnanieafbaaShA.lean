/-
  Contracts of the small functions of the filter of merges.
-/
import Derived.Test.YtmegjnanieafbaaCore
import Derived.RegionTactic
import Derived.ChangeAlike
namespace Go.Proofs.Ytmegjnanieafbaa
open Go.RowKit Bk

set_option maxHeartbeats 1000000 in
theorem shadowCheck (a : Bool) (k : ByteArray) (b : Bool) (w : World) (hk : k.size ≤ maxLen) :
    Calls Try.prog 15 #[.agg #[.bool a, .string k, .bool b]] w fun e w' => e = .returned (.int .i64 (shErr ⟨a, k, b⟩)) ∧ Below w.heap.size w w' := by
  have hk' := Lib.hid hk
  have hke : ¬ keyErr k = 0 ↔ 32 < k.size := by unfold keyErr; split <;> simp [*]
  have HE := Lib.hid hke
  clear hke
  go_enter Try.func15, Try.ntmps15
  go_wp2_with (go_at_call 28; refine (keysCheck _ _ hk'.out).mono ?_; rintro e w' ⟨rfl, rfl⟩)
  all_goals
    have HE := HE.out
    go_ret
    refine ⟨?_, (Below.refl _ _).alloc (Nat.le_refl _) _⟩
    simp_all [shErr, keyErr]

theorem refShCheck (a : Bool) (k : ByteArray) (b : Bool) (w : World) (hk : k.size ≤ maxLen) :
    Calls Try.prog 16 #[.agg #[.bool a, .string k, .bool b]] w fun e w' => e = .returned (.int .i64 (shErr ⟨a, k, b⟩)) ∧ Below w.heap.size w w' := by
  unfold maxLen at hk
  go_enter Try.func16, Try.ntmps16
  go_wp2
  all_goals
    go_ret
    refine ⟨?_, (Below.refl _ _).alloc (Nat.le_refl _) _⟩
    simp_all [shErr]
    try omega

theorem beginAny (b : Bool) (w : World) :
    Calls Try.prog 13 #[.bool b] w fun e w' => e = .returned (.agg #[.bool false, .string ⟨#[]⟩, .bool b]) ∧ Below w.heap.size w w' := by
  go_enter Try.func13, Try.ntmps13
  go_wp2
  refine bodyPost_ret (v := .agg #[.bool false, .string ⟨#[]⟩, .bool b]) (by simp [results, Try.results13, go_sem]) rfl ⟨rfl, ?_⟩
  exact (Below.refl _ _).alloc (Nat.le_refl _) _

theorem refBegin (b : Bool) (w : World) :
    Calls Try.prog 14 #[.bool b] w fun e w' => e = .returned (.agg #[.bool false, .string ⟨#[]⟩, .bool b]) ∧ Below w.heap.size w w' := by
  go_enter Try.func14, Try.ntmps14
  go_wp2
  refine bodyPost_ret (v := .agg #[.bool false, .string ⟨#[]⟩, .bool b]) (by simp [results, Try.results14, go_sem]) rfl ⟨rfl, ?_⟩
  exact (Below.refl _ _).alloc (Nat.le_refl _) _

/-- What holds of old memory behind a call that makes memory. -/
theorem bcell {W w1 : World} (hb : Below W.heap.size W w1) : (∀ b o, b < W.heap.size → w1.cell? ⟨b, o, none⟩ = W.cell? ⟨b, o, none⟩) ∧ (∀ b o, b < W.heap.size → w1.frozen? ⟨b, o, none⟩ = W.frozen? ⟨b, o, none⟩) :=
  ⟨fun b o h => hb.cell (p := ⟨b, o, none⟩) h, fun b o h => hb.frozen (p := ⟨b, o, none⟩) h⟩

/-- The value of what becomes of an entry. -/
def fateVal (n : Nat) (x : Ent) : Value := .iface (if n = 0 then 50 else if n = 1 then 58 else 59) x.val
def nextVal (s : Sh) (x : Ent) : Value :=
  if stepErr s x = 0 then .tuple #[fateVal (fateOf s x) x, Sh.val ⟨true, x.k, s.bottom⟩, .int .i64 0] else .tuple #[.nilIface, Sh.val ⟨false, ⟨#[]⟩, false⟩, .int .i64 (stepErr s x)]

set_option profiler true in
set_option maxHeartbeats 1000000 in
theorem nextAny (a b d : Bool) (l k v : ByteArray) (s : Int) (w : World) (hl : l.size ≤ maxLen) (hk : k.size ≤ maxLen) (hv : v.size ≤ maxLen) :
    Calls Try.prog 26 #[.agg #[.bool a, .string l, .bool b], .agg #[.string k, .string v, .bool d, .int .i64 s]] w fun e w' => e = .returned (nextVal ⟨a, l, b⟩ ⟨k, v, d, s⟩) ∧ Below w.heap.size w w' := by
  go_enter Try.func26, Try.ntmps26
  go_wp2_with (first
    | (go_at_call 15; refine (shadowCheck _ _ _ _ hl).mono ?_; rintro e w1 ⟨rfl, hb⟩; obtain ⟨c0, f0, z0, c1, f1, z1, c2, f2, z2, hB1⟩ := own3 hb; clear hb)
    | (go_at_call 34; refine (entriesCheck _ _ _ _ _ hk hv).mono ?_; rintro e w2 ⟨rfl, hb⟩; obtain ⟨d0, g0, y0⟩ := keepB hb z0; obtain ⟨d1, g1, y1⟩ := keepB hb z1; obtain ⟨d2, g2, y2⟩ := keepB hb z2; have hB2 := Below.old hB1 hb; clear hb))
  trace "A"
  all_goals (try go_region)
  trace "B"
  all_goals (try go_wp2)
  trace "C"
  all_goals
    refine bodyPost_ret (v := nextVal ⟨a, l, b⟩ ⟨k, v, d, s⟩) ?_ rfl ⟨rfl, ?_⟩
    · simp_all [results, Try.results26, go_sem, nextVal, stepErr, fateOf, fateVal, Ent.val, Sh.val]
    · repeat' (first | with_reducible assumption | with_reducible apply Below.drew | with_reducible apply Below.setCell | with_reducible apply Below.alloc)
      all_goals (simp <;> omega)
end Go.Proofs.Ytmegjnanieafbaa
