/-
  The filter of merges in plain Lean: the state behind so many entries, what becomes of each, and where it stops.
-/
import Derived.Test.YtmegjnanieafbaaData
namespace Bk
open Go

/-- The state behind the first k entries. -/
def stAt (bot : Bool) (l : List Ent) : Nat → Sh
  | 0 => ⟨false, ⟨#[]⟩, bot⟩
  | k + 1 => match l[k]? with
    | some x => ⟨true, x.k, bot⟩
    | none => ⟨false, ⟨#[]⟩, bot⟩
def errAt (bot : Bool) (l : List Ent) (k : Nat) : Int := match l[k]? with
  | some x => stepErr (stAt bot l k) x
  | none => 0
/-- What becomes of the first k entries. -/
def fatesTo (bot : Bool) (l : List Ent) : Nat → List (Nat × Ent)
  | 0 => []
  | k + 1 => fatesTo bot l k ++ (match l[k]? with | some x => [(fateOf (stAt bot l k) x, x)] | none => [])
theorem fatesTo_succ {bot : Bool} {l : List Ent} {k : Nat} {x : Ent} (h : l[k]? = some x) : fatesTo bot l (k + 1) = fatesTo bot l k ++ [(fateOf (stAt bot l k) x, x)] := by
  simp [fatesTo, h]
theorem fatesTo_length (bot : Bool) (l : List Ent) : ∀ k, k ≤ l.length → (fatesTo bot l k).length = k
  | 0, _ => rfl
  | k + 1, h => by
    rw [fatesTo_succ (List.getElem?_eq_getElem (by omega)), List.length_append, fatesTo_length bot l k (by omega)]
    rfl
theorem stAt_some {bot : Bool} {l : List Ent} {k : Nat} {x : Ent} (h : l[k]? = some x) : stAt bot l (k + 1) = ⟨true, x.k, bot⟩ := by
  simp [stAt, h]
theorem errAt_some {bot : Bool} {l : List Ent} {k : Nat} {x : Ent} (h : l[k]? = some x) : errAt bot l k = stepErr (stAt bot l k) x := by
  simp [errAt, h]
theorem stAt_bot (bot : Bool) (l : List Ent) (k : Nat) : (stAt bot l k).bottom = bot := by
  cases k with
  | zero => rfl
  | succ k => simp only [stAt]; split <;> rfl
theorem stAt_ok {bot : Bool} {l : List Ent} (h : ∀ x ∈ l, x.ok) (k : Nat) : (stAt bot l k).last.size ≤ maxLen := by
  cases k with
  | zero => exact Nat.zero_le _
  | succ k =>
    simp only [stAt]
    cases hx : l[k]? with
    | none => exact Nat.zero_le _
    | some x => exact (h x (List.mem_of_getElem? hx)).1

/-- What is kept. -/
def keptOf (l : List (Nat × Ent)) : List Ent := (l.filter fun p => p.1 == 0).map (·.2)
theorem keptOf_snoc (l : List (Nat × Ent)) (n : Nat) (x : Ent) : keptOf (l ++ [(n, x)]) = if n = 0 then keptOf l ++ [x] else keptOf l := by
  by_cases h : n = 0
  · simp [keptOf, h]
  · simp [keptOf, h]
theorem keptOf_length (l : List (Nat × Ent)) : (keptOf l).length ≤ l.length := by
  simp only [keptOf, List.length_map]
  exact List.length_filter_le _ _
/-- How many have this fate. -/
def cntOf (n : Nat) (l : List (Nat × Ent)) : Int := ((l.filter fun p => p.1 == n).length : Nat)
theorem cntOf_snoc (n : Nat) (l : List (Nat × Ent)) (m : Nat) (x : Ent) : cntOf n (l ++ [(m, x)]) = if m = n then cntOf n l + 1 else cntOf n l := by
  by_cases h : m = n <;> simp [cntOf, h]
theorem cntOf_range (n : Nat) (l : List (Nat × Ent)) : 0 ≤ cntOf n l ∧ cntOf n l ≤ l.length := by
  have := List.length_filter_le (fun p : Nat × Ent => p.1 == n) l
  unfold cntOf
  omega

theorem stAt_err (b c : Bool) (l : List Ent) (k : Nat) (x : Ent) : stepErr (stAt b l k) x = stepErr (stAt c l k) x := by
  have h1 : (stAt b l k).some = (stAt c l k).some ∧ (stAt b l k).last = (stAt c l k).last := by
    cases k with
    | zero => exact ⟨rfl, rfl⟩
    | succ k => simp only [stAt]; split <;> exact ⟨rfl, rfl⟩
  unfold stepErr shErr
  rw [h1.1, h1.2]
theorem errAt_bot (b c : Bool) (l : List Ent) (k : Nat) : errAt b l k = errAt c l k := by
  unfold errAt
  split
  · exact stAt_err b c l k _
  · rfl
/-- At the bottom what is kept may be dropped; nothing else differs. -/
theorem fate_bot (l : List Ent) (k : Nat) (x : Ent) : (fateOf (stAt true l k) x = 1 ↔ fateOf (stAt false l k) x = 1) ∧ (fateOf (stAt false l k) x = 0 ∨ fateOf (stAt false l k) x = 1) ∧ (fateOf (stAt true l k) x = 0 → fateOf (stAt false l k) x = 0) ∧
    (fateOf (stAt true l k) x = 0 ∨ fateOf (stAt true l k) x = 1 ∨ fateOf (stAt true l k) x = 2) := by
  have h1 : (stAt true l k).some = (stAt false l k).some ∧ (stAt true l k).last = (stAt false l k).last := by
    cases k with
    | zero => exact ⟨rfl, rfl⟩
    | succ k => simp only [stAt]; split <;> exact ⟨rfl, rfl⟩
  have h2 := stAt_bot true l k
  have h3 := stAt_bot false l k
  unfold fateOf
  rw [h1.1, h1.2, h2, h3]
  by_cases hc : (stAt false l k).some = true ∧ x.k.toList = (stAt false l k).last.toList
  · simp [hc]
  · simp only [if_neg hc]
    by_cases hd : x.d = true <;> simp [hd]

/-- How a walk through entries ends: the index and the error, and how many entries were done. -/
def WalkEnd (bot : Bool) (l : List Ent) (i E : Int) (m : Nat) : Prop :=
  (20000 < l.length ∧ i = -1 ∧ E = 3 ∧ m = 0) ∨
  (l.length ≤ 20000 ∧ m < l.length ∧ i = m ∧ E = errAt bot l m ∧ E ≠ 0 ∧ ∀ j, j < m → errAt bot l j = 0) ∨
  (l.length ≤ 20000 ∧ m = l.length ∧ i = 0 ∧ E = 0 ∧ ∀ j, j < m → errAt bot l j = 0)
theorem WalkEnd.inj {bot : Bool} {l : List Ent} {i E i' E' : Int} {m m' : Nat} (h : WalkEnd bot l i E m) (h' : WalkEnd bot l i' E' m') : i = i' ∧ E = E' ∧ m = m' := by
  rcases h with ⟨a, b, c, d⟩ | ⟨a, b, c, d, e, f⟩ | ⟨a, b, c, d, f⟩ <;> rcases h' with ⟨a', b', c', d'⟩ | ⟨a', b', c', d', e', f'⟩ | ⟨a', b', c', d', f'⟩
  · omega
  · omega
  · omega
  · omega
  · rcases Nat.lt_trichotomy m m' with g | g | g
    · exact absurd (d.trans (f' m g)) e
    · subst g; exact ⟨by omega, by omega, rfl⟩
    · exact absurd (d'.trans (f m' g)) e'
  · exact absurd (d.trans (f' m (by omega))) e
  · omega
  · exact absurd (d'.trans (f m' (by omega))) e'
  · omega
theorem WalkEnd.bot {b c : Bool} {l : List Ent} {i E : Int} {m : Nat} (h : WalkEnd b l i E m) : WalkEnd c l i E m := by
  rcases h with h | ⟨h1, h2, h3, h4, h5, h6⟩ | ⟨h1, h2, h3, h4, h5⟩
  · exact .inl h
  · exact .inr (.inl ⟨h1, h2, h3, h4.trans (errAt_bot b c l m), h5, fun j hj => (errAt_bot c b l j).trans (h6 j hj)⟩)
  · exact .inr (.inr ⟨h1, h2, h3, h4, fun j hj => (errAt_bot c b l j).trans (h5 j hj)⟩)
theorem WalkEnd.le {b : Bool} {l : List Ent} {i E : Int} {m : Nat} (h : WalkEnd b l i E m) : m ≤ l.length := by
  rcases h with h | h | h <;> omega
theorem keptOf_cnt (l : List (Nat × Ent)) : ((keptOf l).length : Int) = cntOf 0 l := by simp [keptOf, cntOf]
/-- How the counts at the bottom and without it hang together. -/
theorem cnts (l : List Ent) : ∀ k, k ≤ l.length →
    cntOf 1 (fatesTo true l k) = cntOf 1 (fatesTo false l k) ∧ cntOf 0 (fatesTo false l k) + cntOf 1 (fatesTo false l k) = k ∧ cntOf 2 (fatesTo false l k) = 0 ∧
    cntOf 0 (fatesTo true l k) + cntOf 1 (fatesTo true l k) + cntOf 2 (fatesTo true l k) = k
  | 0, _ => by simp [fatesTo, cntOf]
  | k + 1, h => by
    obtain ⟨h1, h2, h3, h4⟩ := cnts l k (by omega)
    have hx : l[k]? = some l[k] := List.getElem?_eq_getElem (by omega)
    obtain ⟨f1, f2, f3, f4⟩ := fate_bot l k l[k]
    rw [fatesTo_succ hx, fatesTo_succ hx]
    simp only [cntOf_snoc]
    generalize fateOf (stAt true l k) l[k] = a at *
    generalize fateOf (stAt false l k) l[k] = b at *
    rcases f2 with rfl | rfl <;> rcases f4 with rfl | rfl | rfl <;> simp at f1 f3 <;> simp <;> omega
theorem cnt_shadowed (bot : Bool) (l : List Ent) (k : Nat) (h : k ≤ l.length) : cntOf 1 (fatesTo bot l k) = k - cntOf 0 (fatesTo false l k) := by
  obtain ⟨h1, h2, h3, h4⟩ := cnts l k h
  cases bot <;> omega
theorem cnt_dropped (bot : Bool) (l : List Ent) (k : Nat) (h : k ≤ l.length) : cntOf 2 (fatesTo bot l k) = cntOf 0 (fatesTo false l k) - cntOf 0 (fatesTo bot l k) := by
  obtain ⟨h1, h2, h3, h4⟩ := cnts l k h
  cases bot <;> omega
end Bk
