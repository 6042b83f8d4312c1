/-
  What is kept, filtered again: plain Lean.
-/
import Derived.Test.YtmegjnanieafbaaShSpec
namespace Bk
open Go

def goods (s : Sh) : List Ent → Prop
  | [] => True
  | x :: l => stepErr s x = 0 ∧ goods ⟨true, x.k, s.bottom⟩ l
def fatesL (s : Sh) : List Ent → List (Nat × Ent)
  | [] => []
  | x :: l => (fateOf s x, x) :: fatesL ⟨true, x.k, s.bottom⟩ l

theorem stAt_pre (b : Bool) (pre l _m : List Ent) (x : Ent) : stAt b (pre ++ x :: l) (pre.length + 1) = ⟨true, x.k, b⟩ := by
  simp [stAt]
theorem fatesTo_pre (b : Bool) : ∀ (l pre : List Ent), fatesTo b (pre ++ l) (pre.length + l.length) = fatesTo b (pre ++ l) pre.length ++ fatesL (stAt b (pre ++ l) pre.length) l
  | [], pre => by simp [fatesL]
  | x :: l, pre => by
    have ih := fatesTo_pre b l (pre ++ [x])
    have e1 : pre ++ [x] ++ l = pre ++ x :: l := by simp
    have e2 : (pre ++ [x]).length = pre.length + 1 := by simp
    rw [e1, e2] at ih
    have e3 : pre.length + (x :: l).length = pre.length + 1 + l.length := by simp; omega
    have hx : (pre ++ x :: l)[pre.length]? = some x := by simp
    rw [e3, ih, fatesTo_succ hx, stAt_pre b pre l l x, fatesL, stAt_bot]
    simp
theorem fatesTo_eq (b : Bool) (l : List Ent) : fatesTo b l l.length = fatesL ⟨false, ⟨#[]⟩, b⟩ l := by
  have := fatesTo_pre b l []
  simpa [fatesTo, stAt] using this
theorem goods_pre (b : Bool) : ∀ (l pre : List Ent), (∀ j, j < (pre ++ l).length → errAt b (pre ++ l) j = 0) → goods (stAt b (pre ++ l) pre.length) l
  | [], _, _ => trivial
  | x :: l, pre, h => by
    have e1 : pre ++ [x] ++ l = pre ++ x :: l := by simp
    have ih := goods_pre b l (pre ++ [x]) (by rw [e1]; exact h)
    have e2 : (pre ++ [x]).length = pre.length + 1 := by simp
    rw [e1, e2, stAt_pre b pre l l x] at ih
    have hx : (pre ++ x :: l)[pre.length]? = some x := by simp
    refine ⟨?_, ?_⟩
    · rw [← errAt_some hx]
      exact h _ (by simp)
    · rw [stAt_bot]; exact ih
theorem goods_of (b : Bool) (l : List Ent) (h : ∀ j, j < l.length → errAt b l j = 0) : goods ⟨false, ⟨#[]⟩, b⟩ l := goods_pre b l [] h
theorem err_pre (b : Bool) : ∀ (l pre : List Ent), goods (stAt b (pre ++ l) pre.length) l → ∀ j, pre.length ≤ j → j < (pre ++ l).length → errAt b (pre ++ l) j = 0
  | [], pre, _, j, h1, h2 => by simp at h2; omega
  | x :: l, pre, h, j, h1, h2 => by
    obtain ⟨h3, h4⟩ := h
    have e1 : pre ++ [x] ++ l = pre ++ x :: l := by simp
    have e2 : (pre ++ [x]).length = pre.length + 1 := by simp
    have hx : (pre ++ x :: l)[pre.length]? = some x := by simp
    by_cases e : j = pre.length
    · subst e
      rw [errAt_some hx]
      exact h3
    · have := err_pre b l (pre ++ [x]) (by rw [e1, e2, stAt_pre b pre l l x]; rw [stAt_bot] at h4; exact h4) j (by rw [e2]; omega) (by rw [e1]; exact h2)
      rwa [e1] at this
theorem err_of (b : Bool) (l : List Ent) (h : goods ⟨false, ⟨#[]⟩, b⟩ l) : ∀ j, j < l.length → errAt b l j = 0 := fun j hj => err_pre b l [] h j (Nat.zero_le _) hj

theorem stepErr_bot (a b c : Bool) (k : ByteArray) (x : Ent) : stepErr ⟨a, k, b⟩ x = stepErr ⟨a, k, c⟩ x := rfl
/-- What becomes at the bottom of what was kept without it. -/
def deadOr (x : Ent) : Nat × Ent := (if x.d then 2 else 0, x)
theorem later (l : List Ent) : ∀ (a : Bool) (k : ByteArray), goods ⟨a, k, false⟩ l →
    goods ⟨a, k, true⟩ (keptOf (fatesL ⟨a, k, false⟩ l)) ∧ fatesL ⟨a, k, true⟩ (keptOf (fatesL ⟨a, k, false⟩ l)) = (keptOf (fatesL ⟨a, k, false⟩ l)).map deadOr ∧
    keptOf (fatesL ⟨a, k, true⟩ l) = (keptOf (fatesL ⟨a, k, false⟩ l)).filter (fun x => !x.d) ∧ cntOf 2 (fatesL ⟨a, k, true⟩ l) = (((keptOf (fatesL ⟨a, k, false⟩ l)).filter (fun x => x.d)).length : Nat) ∧
    goods ⟨a, k, false⟩ (keptOf (fatesL ⟨a, k, false⟩ l)) ∧ fatesL ⟨a, k, false⟩ (keptOf (fatesL ⟨a, k, false⟩ l)) = (keptOf (fatesL ⟨a, k, false⟩ l)).map (fun x => (0, x)) := by
  induction l with
  | nil => intro a k _; simp [fatesL, keptOf, goods, cntOf]
  | cons x l ih =>
    intro a k ⟨h1, h2⟩
    obtain ⟨i1, i2, i3, i4, i5, i6⟩ := ih true x.k h2
    by_cases hs : a = true ∧ x.k.toList = k.toList
    · obtain ⟨rfl, hk⟩ := hs
      obtain rfl : x.k = k := toList_inj hk
      have f1 : ∀ b, fateOf ⟨true, x.k, b⟩ x = 1 := fun b => by simp [fateOf]
      have e1 : keptOf (fatesL ⟨true, x.k, false⟩ (x :: l)) = keptOf (fatesL ⟨true, x.k, false⟩ l) := by simp [fatesL, keptOf, f1]
      have e2 : keptOf (fatesL ⟨true, x.k, true⟩ (x :: l)) = keptOf (fatesL ⟨true, x.k, true⟩ l) := by simp [fatesL, keptOf, f1]
      have e3 : cntOf 2 (fatesL ⟨true, x.k, true⟩ (x :: l)) = cntOf 2 (fatesL ⟨true, x.k, true⟩ l) := by simp [fatesL, cntOf, f1]
      rw [e1, e2, e3]
      exact ⟨i1, i2, i3, i4, i5, i6⟩
    · have f0 : fateOf ⟨a, k, false⟩ x = 0 := by simp only [fateOf, if_neg hs]; simp
      have f2 : fateOf ⟨a, k, true⟩ x = if x.d then 2 else 0 := by simp only [fateOf, if_neg hs]; simp
      have e1 : keptOf (fatesL ⟨a, k, false⟩ (x :: l)) = x :: keptOf (fatesL ⟨true, x.k, false⟩ l) := by simp [fatesL, keptOf, f0]
      rw [e1]
      refine ⟨⟨h1, i1⟩, ?_, ?_, ?_, ⟨h1, i5⟩, ?_⟩
      · simp only [fatesL, List.map_cons, i2, f2]; rfl
      · have : keptOf (fatesL ⟨a, k, true⟩ (x :: l)) = if x.d then keptOf (fatesL ⟨true, x.k, true⟩ l) else x :: keptOf (fatesL ⟨true, x.k, true⟩ l) := by
          cases hd : x.d <;> simp [fatesL, keptOf, f2, hd]
        rw [this, i3]
        cases hd : x.d <;> simp [hd]
      · have : cntOf 2 (fatesL ⟨a, k, true⟩ (x :: l)) = if x.d then cntOf 2 (fatesL ⟨true, x.k, true⟩ l) + 1 else cntOf 2 (fatesL ⟨true, x.k, true⟩ l) := by
          cases hd : x.d <;> simp [fatesL, cntOf, f2, hd]
        rw [this, i4]
        cases hd : x.d <;> simp [hd]
      · simp only [fatesL, List.map_cons, i6, f0]
theorem kept_deadOr (a : List Ent) : keptOf (a.map deadOr) = a.filter (fun x => !x.d) ∧ cntOf 2 (a.map deadOr) = ((a.filter (fun x => x.d)).length : Nat) ∧ cntOf 1 (a.map deadOr) = 0 := by
  induction a with
  | nil => simp [keptOf, cntOf]
  | cons x a ih =>
    obtain ⟨h1, h2, h3⟩ := ih
    cases hd : x.d <;> simp_all [keptOf, cntOf, deadOr]
theorem kept_map0 (a : List Ent) : keptOf (a.map (fun x => (0, x))) = a := by
  induction a with
  | nil => rfl
  | cons x a ih => simp_all [keptOf]

/-- A list that is filtered without an error: what is kept, filtered again. -/
theorem later_all {l : List Ent} (h : ∀ j, j < l.length → errAt false l j = 0) (hl : l.length ≤ 20000) :
    WalkEnd true (keptOf (fatesTo false l l.length)) 0 0 (keptOf (fatesTo false l l.length)).length ∧
    keptOf (fatesTo true (keptOf (fatesTo false l l.length)) (keptOf (fatesTo false l l.length)).length) = keptOf (fatesTo true l l.length) ∧
    cntOf 0 (fatesTo true (keptOf (fatesTo false l l.length)) (keptOf (fatesTo false l l.length)).length) = cntOf 0 (fatesTo true l l.length) ∧
    cntOf 1 (fatesTo true (keptOf (fatesTo false l l.length)) (keptOf (fatesTo false l l.length)).length) = 0 ∧
    cntOf 2 (fatesTo true (keptOf (fatesTo false l l.length)) (keptOf (fatesTo false l l.length)).length) = cntOf 2 (fatesTo true l l.length) ∧
    WalkEnd false (keptOf (fatesTo false l l.length)) 0 0 (keptOf (fatesTo false l l.length)).length ∧
    keptOf (fatesTo false (keptOf (fatesTo false l l.length)) (keptOf (fatesTo false l l.length)).length) = keptOf (fatesTo false l l.length) := by
  have hlen : (keptOf (fatesTo false l l.length)).length ≤ 20000 := by
    have := keptOf_length (fatesTo false l l.length)
    rw [fatesTo_length _ _ _ (Nat.le_refl _)] at this
    omega
  obtain ⟨i1, i2, i3, i4, i5, i6⟩ := later l false ⟨#[]⟩ (goods_of false l h)
  rw [← fatesTo_eq] at i1 i2 i3 i4 i5 i6
  rw [← fatesTo_eq] at i2 i3 i4 i6
  obtain ⟨k1, k2, k3⟩ := kept_deadOr (keptOf (fatesTo false l l.length))
  have e := i3
  refine ⟨.inr (.inr ⟨hlen, rfl, rfl, rfl, err_of true _ i1⟩), ?_, ?_, ?_, ?_, .inr (.inr ⟨hlen, rfl, rfl, rfl, err_of false _ i5⟩), ?_⟩
  · rw [i2, k1, i3]
  · rw [i2, ← keptOf_cnt, ← keptOf_cnt, k1, i3]
  · rw [i2, k3]
  · rw [i2, k2, i4]
  · rw [i6, kept_map0]
end Bk
