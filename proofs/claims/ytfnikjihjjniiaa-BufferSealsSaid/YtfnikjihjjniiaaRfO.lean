/-
  The order of strings as a number, split behind a common beginning: plain Lean.
-/
import Derived.Test.YtfnikjihjjniiaaOrd
namespace Bk
open Go

def ordL (x y : List UInt8) : Int := if x = y then 0 else if Op.bytesLess x y then -1 else 1
theorem ordL_cons (a : UInt8) (x y : List UInt8) : ordL (a :: x) (a :: y) = ordL x y := by
  have h : Op.bytesLess (a :: x) (a :: y) = Op.bytesLess x y := by simp [Op.bytesLess]
  unfold ordL
  rw [h]
  simp
theorem ordL_split : ∀ (n : Nat) (x y : List UInt8), x.take n = y.take n → n ≤ x.length → n ≤ y.length → ordL x y = ordL (x.drop n) (y.drop n)
  | 0, _, _, _, _, _ => rfl
  | n + 1, [], _, _, h, _ => by simp at h
  | n + 1, _ :: _, [], _, _, h => by simp at h
  | n + 1, a :: x, b :: y, h, h1, h2 => by
    simp only [List.take_succ_cons, List.cons.injEq] at h
    obtain ⟨rfl, h⟩ := h
    rw [ordL_cons, List.drop_succ_cons, List.drop_succ_cons]
    exact ordL_split n x y h (by simpa using h1) (by simpa using h2)
theorem ordL_nil : ordL [] [] = 0 := rfl
theorem ordL_less (b : UInt8) (y : List UInt8) : ordL [] (b :: y) = -1 := rfl
theorem ordL_more (a : UInt8) (x : List UInt8) : ordL (a :: x) [] = 1 := rfl
theorem ordL_ne {a b : UInt8} (x y : List UInt8) (h : a ≠ b) : ordL (a :: x) (b :: y) = if a < b then -1 else 1 := by
  unfold ordL
  rw [if_neg (by simp [h])]
  simp [Op.bytesLess, h]
end Bk
