/-
  The order of strings in plain Lean.
  The order of strings as a number, split behind a common beginning: plain Lean.
-/
import Derived.Laws.StructEq
namespace Bk
open Go
theorem bl_irrefl : ∀ a : List UInt8, Op.bytesLess a a = false
  | [] => rfl
  | a :: x => by
    have := bl_irrefl x
    simp [Op.bytesLess, this]
end Bk
namespace Bk
open Go

def ordL (x y : List UInt8) : Int := if x = y then 0 else if Op.bytesLess x y then -1 else 1
theorem ordL_cons (a : UInt8) (x y : List UInt8) : ordL (a :: x) (a :: y) = ordL x y := by
  have h : Op.bytesLess (a :: x) (a :: y) = Op.bytesLess x y := by simp [Op.bytesLess]
  unfold ordL
  rw [h]
  simp
theorem ordL_nil : ordL [] [] = 0 := rfl
theorem ordL_less (b : UInt8) (y : List UInt8) : ordL [] (b :: y) = -1 := rfl
theorem ordL_more (a : UInt8) (x : List UInt8) : ordL (a :: x) [] = 1 := rfl
theorem ordL_ne {a b : UInt8} (x y : List UInt8) (h : a ≠ b) : ordL (a :: x) (b :: y) = if a < b then -1 else 1 := by
  unfold ordL
  rw [if_neg (by simp [h])]
  simp [Op.bytesLess, h]
end Bk
