/-
  The parts of a view: plain Lean.
-/
import Derived.Test.YtekkeajcmibbaaaLg
namespace Go.Proofs.Ytekkeajcmibbaaa
open Av Bk

theorem parts_at {b : List entT.El} {rs : List runT.El} {i : Nat} (h : i < (partsA b rs).length) : ∃ l, (partsB b rs)[i]? = some l ∧ ((partsA b rs)[i]? = some (.inl l) ∨ ∃ id, (partsA b rs)[i]? = some (.inr (.inl (id, l, ())))) := by
  cases i with
  | zero => exact ⟨b, rfl, .inl rfl⟩
  | succ i =>
    have hi : i < rs.length := by simpa [partsA] using h
    obtain ⟨r, hr⟩ : ∃ r, rs[i]? = some r := ⟨_, List.getElem?_eq_getElem hi⟩
    refine ⟨r.2.1, ?_, .inr ⟨r.1, ?_⟩⟩
    · simp [partsB, hr]
    · simp only [partsA, List.getElem?_cons_succ, List.getElem?_map, hr, Option.map_some]
theorem parts_good {b : List entT.El} {rs : List runT.El} (h : GoodV b rs) {l : List entT.El} (hl : l ∈ partsB b rs) : (clL l).2 = 0 := by
  rcases List.mem_cons.1 hl with rfl | hl
  · exact h.gb
  · obtain ⟨r, hr, rfl⟩ := List.mem_map.1 hl
    exact h.gr r hr
theorem first_at {l : List entT.El} {j : Nat} {x : entT.El} {k : ByteArray} (hall : ∀ y ∈ l.take j, y.1 ≠ k) (hx : l[j]? = some x) (h : x.1 = k) : firstK l k = some x := by
  have h1 : l = l.take j ++ l.drop j := (List.take_append_drop j l).symm
  have hj := (List.getElem?_eq_some_iff.1 hx).1
  have he := (List.getElem?_eq_some_iff.1 hx).2
  rw [h1, firstK_append, firstK_none.2 hall, List.drop_eq_getElem_cons hj, he]
  unfold firstK
  rw [List.find?_cons_of_pos (p := fun y : entT.El => sEq y.1 k) (sEq_iff.2 h)]
  rfl
end Go.Proofs.Ytekkeajcmibbaaa
