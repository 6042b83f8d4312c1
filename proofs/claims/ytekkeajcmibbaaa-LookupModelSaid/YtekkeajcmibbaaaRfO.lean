/-
  The order of strings in plain Lean.
  The order of strings as a number, split behind a common beginning: plain Lean.
-/
import Derived.Laws.StructEq
namespace Bk
open Go
theorem bl_irrefl : ∀ a : List UInt8, Op.bytesLess a a = false
  | [] => rfl
  | a :: x => by
    have := bl_irrefl x
    simp [Op.bytesLess, this]
theorem bl_trans : ∀ a b c : List UInt8, Op.bytesLess a b = true → Op.bytesLess b c = true → Op.bytesLess a c = true
  | _, _, [], _, h2 => by cases ‹List UInt8› <;> simp [Op.bytesLess] at h2
  | _, [], _ :: _, h1, _ => by simp [Op.bytesLess] at h1
  | [], _ :: _, _ :: _, _, _ => rfl
  | a :: x, b :: y, c :: z, h1, h2 => by
    simp only [Op.bytesLess, Bool.or_eq_true, Bool.and_eq_true, decide_eq_true_eq, beq_iff_eq] at h1 h2 ⊢
    rcases h1 with h1 | ⟨rfl, h1⟩
    · rcases h2 with h2 | ⟨rfl, h2⟩
      · exact .inl (UInt8.lt_trans h1 h2)
      · exact .inl h1
    · rcases h2 with h2 | ⟨rfl, h2⟩
      · exact .inl h2
      · exact .inr ⟨rfl, bl_trans x y z h1 h2⟩
theorem bl_total : ∀ a b : List UInt8, Op.bytesLess a b = false → Op.bytesLess b a = false → a = b
  | [], [], _, _ => rfl
  | [], _ :: _, h, _ => by simp [Op.bytesLess] at h
  | _ :: _, [], _, h => by simp [Op.bytesLess] at h
  | a :: x, b :: y, h1, h2 => by
    simp only [Op.bytesLess, Bool.or_eq_false_iff, Bool.and_eq_false_iff, decide_eq_false_iff_not, beq_eq_false_iff_ne] at h1 h2
    have hab : a = b := UInt8.le_antisymm (UInt8.not_lt.1 h2.1) (UInt8.not_lt.1 h1.1)
    subst hab
    rw [bl_total x y (h1.2.resolve_left (by simp)) (h2.2.resolve_left (by simp))]
/-- a is not below b, b not below c: a is not below c. -/
theorem bl_ge_trans {a b c : List UInt8} (h1 : Op.bytesLess a b = false) (h2 : Op.bytesLess b c = false) : Op.bytesLess a c = false := by
  cases h : Op.bytesLess a c
  · rfl
  · cases h3 : Op.bytesLess b a
    · have := bl_total a b h1 h3
      subst this
      rw [h] at h2; cases h2
    · rw [bl_trans b a c h3 h] at h2; cases h2
end Bk
namespace Bk
open Go

def ordL (x y : List UInt8) : Int := if x = y then 0 else if Op.bytesLess x y then -1 else 1
theorem ordL_cons (a : UInt8) (x y : List UInt8) : ordL (a :: x) (a :: y) = ordL x y := by
  have h : Op.bytesLess (a :: x) (a :: y) = Op.bytesLess x y := by simp [Op.bytesLess]
  unfold ordL
  rw [h]
  simp
theorem ordL_split : ∀ (n : Nat) (x y : List UInt8), x.take n = y.take n → n ≤ x.length → n ≤ y.length → ordL x y = ordL (x.drop n) (y.drop n)
  | 0, _, _, _, _, _ => rfl
  | n + 1, [], _, _, h, _ => by simp at h
  | n + 1, _ :: _, [], _, _, h => by simp at h
  | n + 1, a :: x, b :: y, h, h1, h2 => by
    simp only [List.take_succ_cons, List.cons.injEq] at h
    obtain ⟨rfl, h⟩ := h
    rw [ordL_cons, List.drop_succ_cons, List.drop_succ_cons]
    exact ordL_split n x y h (by simpa using h1) (by simpa using h2)
theorem ordL_nil : ordL [] [] = 0 := rfl
theorem ordL_less (b : UInt8) (y : List UInt8) : ordL [] (b :: y) = -1 := rfl
theorem ordL_more (a : UInt8) (x : List UInt8) : ordL (a :: x) [] = 1 := rfl
theorem ordL_ne {a b : UInt8} (x y : List UInt8) (h : a ≠ b) : ordL (a :: x) (b :: y) = if a < b then -1 else 1 := by
  unfold ordL
  rw [if_neg (by simp [h])]
  simp [Op.bytesLess, h]
end Bk
