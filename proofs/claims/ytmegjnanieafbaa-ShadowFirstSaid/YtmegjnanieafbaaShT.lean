/-
  What is kept, entry by entry: plain Lean for ShadowFirst.
-/
import Derived.Test.YtmegjnanieafbaaShY
namespace Bk
open Go

theorem fatesTo_step (b : Bool) (l : List Ent) (k : Nat) : ∃ m, fatesTo b l (k + 1) = fatesTo b l k ++ m := ⟨_, rfl⟩
theorem fatesTo_more (b : Bool) (l : List Ent) (k : Nat) : ∀ d, ∃ m, fatesTo b l (k + d) = fatesTo b l k ++ m
  | 0 => ⟨[], by simp⟩
  | d + 1 => by
    obtain ⟨m, h⟩ := fatesTo_more b l k d
    obtain ⟨m', h'⟩ := fatesTo_step b l (k + d)
    exact ⟨m ++ m', by rw [← Nat.add_assoc, h', h, List.append_assoc]⟩
theorem keptOf_append (l m : List (Nat × Ent)) : keptOf (l ++ m) = keptOf l ++ keptOf m := by simp [keptOf]
theorem kept_at {b : Bool} {l : List Ent} {k : Nat} {x : Ent} (hx : l[k]? = some x) (hf : fateOf (stAt b l k) x = 0) :
    (keptOf (fatesTo b l l.length))[(keptOf (fatesTo b l k)).length]? = some x := by
  have hk : k < l.length := (List.getElem?_eq_some_iff.1 hx).1
  obtain ⟨m, hm⟩ := fatesTo_more b l (k + 1) (l.length - (k + 1))
  rw [show k + 1 + (l.length - (k + 1)) = l.length from by omega] at hm
  rw [hm, fatesTo_succ hx, keptOf_append, keptOf_append, hf]
  simp [keptOf]
theorem kept_len {b : Bool} {l : List Ent} {k : Nat} {x : Ent} (hx : l[k]? = some x) : (keptOf (fatesTo b l (k + 1))).length = (keptOf (fatesTo b l k)).length + (if fateOf (stAt b l k) x = 0 then 1 else 0) := by
  rw [fatesTo_succ hx, keptOf_snoc]
  split <;> simp
theorem fate_zero (b : Bool) (l : List Ent) (x : Ent) : fateOf (stAt b l 0) x = if b && x.d then 2 else 0 := by
  cases b <;> cases hd : x.d <;> simp [stAt, fateOf, hd]
theorem fate_succ {b : Bool} {l : List Ent} {j : Nat} {y : Ent} (x : Ent) (hy : l[j]? = some y) : fateOf (stAt b l (j + 1)) x = if x.k = y.k then 1 else if b && x.d then 2 else 0 := by
  rw [stAt_some hy]
  unfold fateOf
  by_cases h : x.k = y.k
  · simp [h]
  · rw [if_neg (fun h2 => h (toList_inj h2.2)), if_neg h]
    simp
theorem dup_at {l : List Ent} {k : Nat} {x : Ent} (hx : l[k]? = some x) : ∃ d : Bool, (∀ b, fateOf (stAt b l k) x = if d then 1 else if b && x.d then 2 else 0) ∧ (k = 0 → d = false) ∧ (∀ j y, k = j + 1 → l[j]? = some y → d = decide (x.k = y.k)) := by
  cases k with
  | zero => exact ⟨false, fun b => by rw [fate_zero]; rfl, fun _ => rfl, fun j y h => by cases h⟩
  | succ j =>
    have hj : j + 1 < l.length := (List.getElem?_eq_some_iff.1 hx).1
    have hy : l[j]? = some l[j] := List.getElem?_eq_getElem (by omega)
    refine ⟨decide (x.k = l[j].k), fun b => ?_, fun h => absurd h (by omega), fun j' y h1 h2 => ?_⟩
    · rw [fate_succ x hy]
      by_cases h : x.k = l[j].k <;> simp [h]
    · obtain rfl : j = j' := by omega
      rw [hy] at h2
      cases h2
      rfl
theorem key_beq (a b : ByteArray) : (a.toList == b.toList) = decide (a = b) := by
  by_cases h : a = b
  · simp [h]
  · have : ¬ a.toList = b.toList := fun h2 => h (toList_inj h2)
    simp [h, this]
theorem ent_self (x : Ent) : entEq x x = true := (entEq_iff x x).2 rfl
end Bk
