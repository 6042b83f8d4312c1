/-
  The value of a key, and the map: plain Lean.
-/
import Derived.Test.YtekkeajcmibbaaaLs
import Derived.Test.YtekkeajcmibbaaaLr
namespace Go.Proofs.Ytekkeajcmibbaaa
open Av Bk

theorem nwG_first (k : ByteArray) : ∀ (L : List (List entT.El)) (i : Int), (nwG L i k).map (·.1) = firstK L.flatten k
  | [], _ => rfl
  | l :: L, i => by
    rw [nwG, List.flatten_cons, firstK_append]
    cases firstK l k with
    | some x => rfl
    | none => exact nwG_first k L (i + 1)
theorem getR_o {b : List entT.El} {rs : List runT.El} {k : ByteArray} (h : askE b rs k = 0) : getR b rs k = match getM (allE b rs) k with | some v => (v, 0) | none => (⟨#[]⟩, 4) := by
  have h1 := nwG_first k (partsB b rs) (-1)
  have h2 : nwR b rs k = match nwG (partsB b rs) (-1) k with
    | some (x, i) => (x, i, 0)
    | none => (mkE ⟨#[]⟩ ⟨#[]⟩ false 0, 0, 4) := by
    unfold nwR
    rw [if_neg (by simp [h])]
    cases nwG (partsB b rs) (-1) k <;> rfl
  unfold getM getR
  rw [show firstK (allE b rs) k = (nwG (partsB b rs) (-1) k).map (·.1) from h1.symm, h2]
  cases nwG (partsB b rs) (-1) k with
  | none => rfl
  | some r =>
    obtain ⟨x, i⟩ := r
    simp only [Option.map_some, valE]
    by_cases hd : x.2.2.1 = true
    · simp [hd]
    · simp [hd]
theorem getR_last {b : List entT.El} {rs : List runT.El} {k : ByteArray} (h : askE b rs k = 0) : getR b rs k = ((pO (lastQ (fun p => sEq p.1 k) (mapL (allE b rs)))).2.1, eO (lastQ (fun p => sEq p.1 k) (mapL (allE b rs)))) := by
  rw [getR_o h]
  cases hl : lastQ (fun p => sEq p.1 k) (mapL (allE b rs)) with
  | some p =>
    obtain ⟨h1, h2⟩ := lastQ_some _ _ hl
    have h3 := (mapL_mem _ p).1 h1
    rw [sEq_iff.1 h2] at h3
    rw [h3]
    rfl
  | none =>
    cases hg : getM (allE b rs) k with
    | none => rfl
    | some v =>
      have := lastQ_none _ hl (mkP k v) ((mapL_mem _ _).2 hg)
      rw [show sEq (mkP k v).1 k = true from sEq_refl k] at this
      cases this
end Go.Proofs.Ytekkeajcmibbaaa
