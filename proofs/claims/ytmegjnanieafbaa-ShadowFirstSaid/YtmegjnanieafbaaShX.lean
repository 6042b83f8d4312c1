/-
  The examples of the filter of merges, computed in plain Lean.
-/
import Derived.Test.YtmegjnanieafbaaShSpec
namespace Bk
open Go

def ka : ByteArray := ⟨#[97]⟩
def kb : ByteArray := ⟨#[98]⟩
def kc : ByteArray := ⟨#[99]⟩
def x0 : Ent := ⟨⟨#[97]⟩, ⟨#[]⟩, false, 1⟩
def x1 : Ent := ⟨⟨#[98]⟩, ⟨#[]⟩, true, 5⟩
def x2 : Ent := ⟨⟨#[98]⟩, ⟨#[]⟩, false, 2⟩
def x3 : Ent := ⟨⟨#[99]⟩, ⟨#[]⟩, false, 4⟩
def x4 : Ent := ⟨⟨#[99]⟩, ⟨#[]⟩, true, 3⟩
def exL : List Ent := [x0, x1, x2, x3, x4]
theorem sz (a : Array UInt8) : (ByteArray.mk a).size = a.size := rfl
theorem exErr (b : Bool) : ∀ j, j < 5 → errAt b exL j = 0 := by
  intro j hj
  match j, hj with
  | 0, _ => simp [errAt, exL, stAt, stepErr, shErr, entErr, x0, x1, x2, x3, x4, ByteArray.toList_eq, Op.bytesLess, sz]
  | 1, _ => simp [errAt, exL, stAt, stepErr, shErr, entErr, x0, x1, x2, x3, x4, ByteArray.toList_eq, Op.bytesLess, sz]
  | 2, _ => simp [errAt, exL, stAt, stepErr, shErr, entErr, x0, x1, x2, x3, x4, ByteArray.toList_eq, Op.bytesLess, sz]
  | 3, _ => simp [errAt, exL, stAt, stepErr, shErr, entErr, x0, x1, x2, x3, x4, ByteArray.toList_eq, Op.bytesLess, sz]
  | 4, _ => simp [errAt, exL, stAt, stepErr, shErr, entErr, x0, x1, x2, x3, x4, ByteArray.toList_eq, Op.bytesLess, sz]
theorem exEnd (b : Bool) : WalkEnd b exL 0 0 5 := .inr (.inr ⟨by simp [exL], by simp [exL], rfl, rfl, exErr b⟩)
theorem exFates (b : Bool) : fatesTo b exL 5 = [(0, x0), (if b then 2 else 0, x1), (1, x2), (0, x3), (1, x4)] := by
  cases b <;> simp [fatesTo, exL, stAt, fateOf, x0, x1, x2, x3, x4, ByteArray.toList_eq]
theorem exOutF : keptOf (fatesTo false exL 5) = [x0, x1, x3] := by simp [exFates, keptOf]
theorem exOutT : keptOf (fatesTo true exL 5) = [x0, x3] := by simp [exFates, keptOf]
theorem exCnt : cntOf 0 (fatesTo true exL 5) = 2 ∧ cntOf 1 (fatesTo true exL 5) = 2 ∧ cntOf 2 (fatesTo true exL 5) = 1 := by
  rw [exFates]; simp [cntOf]
theorem exBad : WalkEnd false [x1, x0] 1 6 1 := by
  have h0 : errAt false [x1, x0] 0 = 0 := by simp [errAt, stAt, stepErr, shErr, entErr, x0, x1, ByteArray.toList_eq, Op.bytesLess, sz]
  have h1 : errAt false [x1, x0] 1 = 6 := by simp [errAt, stAt, stepErr, shErr, entErr, x0, x1, ByteArray.toList_eq, Op.bytesLess, sz]
  refine .inr (.inl ⟨by simp, by simp, rfl, h1.symm, by decide, fun j hj => ?_⟩)
  obtain rfl : j = 0 := by omega
  exact h0
theorem exStep : stepErr ⟨false, ⟨#[]⟩, true⟩ x1 = 0 ∧ fateOf ⟨false, ⟨#[]⟩, true⟩ x1 = 2 := by
  constructor
  · simp [stepErr, shErr, entErr, x1, ByteArray.toList_eq, sz]
  · simp [fateOf, x1]
theorem exOk : ∀ x ∈ exL, x.ok := by
  intro x hx
  simp only [exL, List.mem_cons, List.not_mem_nil, or_false] at hx
  rcases hx with rfl | rfl | rfl | rfl | rfl <;> exact ⟨by show _ ≤ _; decide, by show _ ≤ _; decide⟩
end Bk
