/-
  The data of the program as plain Lean, and what the document computes of them.
-/
import Derived.Below
import Derived.Laws.StructEq
namespace Bk
open Go

/-- An entry. -/
structure Ent where
  k : ByteArray
  v : ByteArray
  d : Bool
  s : Int
/-- Its cells in memory. -/
def Ent.cells (x : Ent) : List Value := [.string x.k, .string x.v, .bool x.d, .int .i64 x.s]
def Ent.val (x : Ent) : Value := .agg #[.string x.k, .string x.v, .bool x.d, .int .i64 x.s]
/-- It fits in memory. -/
def Ent.ok (x : Ent) : Prop := x.k.size ≤ maxLen ∧ x.v.size ≤ maxLen
def keyErr (k : ByteArray) : Int := if 32 < k.size then 3 else 0
def entErr (x : Ent) : Int :=
  if 32 < x.k.size ∨ 64 < x.v.size then 3 else if x.d = true ∧ x.v.toList.isEmpty = false then 6 else if x.s < 1 ∨ 1000000000 < x.s then 7 else 0

/-- Whether two entries are equal, as the program asks it. -/
def entEq (x y : Ent) : Bool := x.k.toList == y.k.toList && (x.v.toList == y.v.toList && (x.d == y.d && x.s == y.s))
theorem toList_inj {a b : ByteArray} (h : a.toList = b.toList) : a = b := by
  rw [ByteArray.toList_eq, ByteArray.toList_eq] at h
  cases a; cases b
  simp only [ByteArray.mk.injEq]
  exact Array.toList_inj.1 h
theorem entEq_iff (x y : Ent) : entEq x y = true ↔ x = y := by
  unfold entEq
  obtain ⟨k, v, d, s⟩ := x
  obtain ⟨k', v', d', s'⟩ := y
  simp only [Bool.and_eq_true, beq_iff_eq, Ent.mk.injEq]
  exact ⟨fun ⟨a, b, c, e⟩ => ⟨toList_inj a, toList_inj b, c, e⟩, fun ⟨a, b, c, e⟩ => ⟨a ▸ rfl, b ▸ rfl, c, e⟩⟩

/-- The state of a filter of merges. -/
structure Sh where
  some : Bool
  last : ByteArray
  bottom : Bool
def Sh.val (s : Sh) : Value := .agg #[.bool s.some, .string s.last, .bool s.bottom]
def shErr (s : Sh) : Int := if 32 < s.last.size then 3 else if s.some = false ∧ s.last.toList.isEmpty = false then 6 else 0
/-- The error of an entry behind a state. -/
def stepErr (s : Sh) (x : Ent) : Int :=
  if ¬ shErr s = 0 then shErr s else if ¬ entErr x = 0 then entErr x else if s.some = true ∧ Op.bytesLess x.k.toList s.last.toList = true then 6 else 0
/-- What becomes of an entry: 0 kept, 1 shadowed, 2 dropped. -/
def fateOf (s : Sh) (x : Ent) : Nat := if s.some = true ∧ x.k.toList = s.last.toList then 1 else if s.bottom = true ∧ x.d = true then 2 else 0
end Bk
