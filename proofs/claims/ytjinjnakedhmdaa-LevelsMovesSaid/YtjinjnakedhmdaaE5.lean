/-
  Lists of entries: whether two are the same; the first fault of one: plain Lean.
-/
import Derived.Test.YtjinjnakedhmdaaE2
import Derived.Test.YtjinjnakedhmdaaRfO
namespace Go.Proofs.Ytjinjnakedhmdaa
open Av Bk

theorem cast_self {t : Ty} (h : t = t) (l : List t.El) : (h ▸ l : List t.El) = l := rfl
theorem sEq_refl (a : ByteArray) : sEq a a = true := by simp [sEq]
theorem eqT_refl (x : entT.El) : eqT entT x x = true := by
  have e : ∀ (a b : ByteArray) (c : Bool) (d : Int), eqT entT (a, b, c, d, ()) (a, b, c, d, ()) = true := fun a b c d => by
    show (sEq a a && (sEq b b && (c == c && d == d))) = true
    rw [sEq_refl, sEq_refl, beq_self_eq_true, beq_self_eq_true]
    rfl
  exact e x.1 x.2.1 x.2.2.1 x.2.2.2.1
def sameL (t : Ty) : List t.El → List t.El → Bool
  | [], [] => true
  | x :: a, y :: b => eqT t x y && sameL t a b
  | _, _ => false
theorem bnt {b : Bool} (h : (!b) = true) : b = false := by simpa using h
theorem bnf {b : Bool} (h : (!b) = false) : b = true := by simpa using h
theorem same_len {t : Ty} : ∀ {a b : List t.El}, a.length ≠ b.length → sameL t a b = false
  | [], [], h => absurd rfl h
  | [], _ :: _, _ => rfl
  | _ :: _, [], _ => rfl
  | x :: a, y :: b, h => by
    rw [sameL, same_len (a := a) (b := b) (fun e => h (by simp [e]))]
    simp
theorem same_step {t : Ty} {x y : t.El} : ∀ {i : Nat} {a b : List t.El}, a[i]? = some x → b[i]? = some y → sameL t (a.drop i) (b.drop i) = (eqT t x y && sameL t (a.drop (i + 1)) (b.drop (i + 1)))
  | 0, u :: a, v :: b, hx, hy => by cases hx; cases hy; rfl
  | i + 1, u :: a, v :: b, hx, hy => same_step (i := i) (a := a) (b := b) (by simpa using hx) (by simpa using hy)
  | _, [], _, hx, _ => by simp at hx
  | _, _ :: _, [], _, hy => by simp at hy
theorem same_end {t : Ty} {a b : List t.El} {i : Nat} (h : a.length ≤ i) (hb : b.length ≤ i) : sameL t (a.drop i) (b.drop i) = true := by
  rw [List.drop_eq_nil_of_le h, List.drop_eq_nil_of_le hb]
  rfl
theorem same_refl : ∀ l : List entT.El, sameL entT l l = true
  | [] => rfl
  | x :: l => by
    rw [sameL, same_refl l, eqT_refl]
    rfl
def falls (pv : Option ByteArray) (x : entT.El) : Bool := match pv with | some p => !sLt p x.1 | none => false
/-- The first fault of an ascending list: where, and what. -/
def clGo (pv : Option ByteArray) (i : Int) : List entT.El → Int × Int
  | [] => (0, 0)
  | x :: l => if errX x ≠ 0 then (i, errX x) else if falls pv x = true then (i, 6) else clGo (some x.1) (i + 1) l
def clL (l : List entT.El) : Int × Int := if 5000 < l.length then (-1, 3) else clGo none 0 l
def pvAt (l : List entT.El) : Nat → Option ByteArray
  | 0 => none
  | j + 1 => (l[j]?).map (·.1)
theorem clGo_step {l : List entT.El} {i : Nat} {x : entT.El} (hx : l[i]? = some x) : clGo (pvAt l i) (i : Int) (l.drop i) = if errX x ≠ 0 then ((i : Int), errX x) else if falls (pvAt l i) x = true then ((i : Int), 6) else clGo (pvAt l (i + 1)) ((i + 1 : Nat) : Int) (l.drop (i + 1)) := by
  have hi := (List.getElem?_eq_some_iff.1 hx).1
  have he := (List.getElem?_eq_some_iff.1 hx).2
  rw [List.drop_eq_getElem_cons hi, he]
  show (if errX x ≠ 0 then _ else if falls (pvAt l i) x = true then _ else clGo (some x.1) ((i : Int) + 1) _) = _
  simp only [pvAt, hx, Option.map_some]
  rfl
theorem clL_end {l : List entT.El} {i : Nat} (h5 : ¬ 5000 < l.length) (hc : clL l = clGo (pvAt l i) (i : Int) (l.drop i)) (hi : l.length ≤ i) : clL l = (0, 0) := by
  rw [hc, List.drop_eq_nil_of_le hi]
  rfl
theorem clL_err {l : List entT.El} {i : Nat} {x : entT.El} (hc : clL l = clGo (pvAt l i) (i : Int) (l.drop i)) (hx : l[i]? = some x) (he : errX x ≠ 0) : clL l = ((i : Int), errX x) := by
  rw [hc, clGo_step hx, if_pos he]
theorem clL_form {l : List entT.El} {i : Nat} {x p : entT.El} (hc : clL l = clGo (pvAt l i) (i : Int) (l.drop i)) (hx : l[i]? = some x) (he : errX x = 0) (h0 : 0 < i) (hp : l[i - 1]? = some p) (hl : sLt p.1 x.1 = false) : clL l = ((i : Int), 6) := by
  obtain ⟨j, rfl⟩ : ∃ j, i = j + 1 := ⟨i - 1, by omega⟩
  have hp : l[j]? = some p := hp
  have hf : falls (pvAt l (j + 1)) x = true := by
    show falls ((l[j]?).map (·.1)) x = true
    rw [hp]
    show (!sLt p.1 x.1) = true
    rw [hl]; rfl
  rw [hc, clGo_step hx, if_neg (by simp [he]), if_pos hf]
theorem clL_next {l : List entT.El} {i : Nat} {x : entT.El} (hc : clL l = clGo (pvAt l i) (i : Int) (l.drop i)) (hx : l[i]? = some x) (he : errX x = 0) (hl : i = 0 ∨ ∃ p, l[i - 1]? = some p ∧ sLt p.1 x.1 = true) : clL l = clGo (pvAt l (i + 1)) ((i + 1 : Nat) : Int) (l.drop (i + 1)) := by
  have hf : ¬ falls (pvAt l i) x = true := by
    rcases hl with rfl | ⟨p, hp, hl⟩
    · simp [pvAt, falls]
    · cases i with
      | zero => simp [pvAt, falls]
      | succ j =>
        have hp : l[j]? = some p := hp
        show ¬ falls ((l[j]?).map (·.1)) x = true
        rw [hp]
        show ¬ (!sLt p.1 x.1) = true
        rw [hl]; decide
  rw [hc, clGo_step hx, if_neg (by simp [he]), if_neg hf]
theorem errX_key {x : entT.El} (h : errX x = 0) : (x.1.size : Int) ≤ 9223372036854775807 := by
  simp only [errX, errE] at h
  by_cases hk : 32 < (x.1.size : Int)
  · simp [hk] at h
  · omega
theorem ordL_ge {x y : List UInt8} : 0 ≤ ordL x y ↔ Op.bytesLess x y = false := by
  unfold ordL
  by_cases h : x = y
  · subst h; simp [bl_irrefl]
  · simp only [if_neg h]
    cases Op.bytesLess x y <;> simp
end Go.Proofs.Ytjinjnakedhmdaa
