/-
  Drop undoes Add.
-/
import Derived.Test.YtadckioheabliaaRi
namespace Go.Proofs.Ytadckioheabliaa
open Av

theorem ckGo_ok : ∀ {t : List rcT.El} {i : Int} {pv : Option Int}, (∀ x ∈ t, goodX x) → ascC t → (∀ x ∈ t, ∀ y, pv = some y → y < idC x) → ckGo pv i t = (0, 0)
  | [], _, _, _, _, _ => rfl
  | x :: t, i, pv, hg, ha, hp => by
    have hx := hg x (by simp)
    have ha' := List.pairwise_cons.1 ha
    rw [ckGo, if_neg, if_neg]
    · exact ckGo_ok (fun y hy => hg y (by simp [hy])) ha'.2 (fun y hy z e => by cases e; exact ha'.1 y hy)
    · cases pv with
      | none => exact fun e => e
      | some y => exact Int.not_le.2 (hp x (by simp) y rfl)
    · rintro (h | h | h)
      · rw [hx.1] at h; cases h
      · exact absurd h (Int.not_lt.2 hx.2.1)
      · exact absurd h (Int.not_lt.2 hx.2.2)
theorem ckL_ok {t : List rcT.El} (hl : t.length ≤ 500) (hg : ∀ x ∈ t, goodX x) (ha : ascC t) : ckL t = (0, 0) := by
  unfold ckL
  rw [if_neg (by omega)]
  exact ckGo_ok hg ha (fun x _ y e => by cases e)
/-- Tables that are in order. -/
structure OkT (t : List rcT.El) : Prop where
  ck : ckL t = (0, 0)
  ln : t.length ≤ 500
  good : ∀ x ∈ t, goodX x
  asc : ascC t
theorem OkT.pos {t : List rcT.El} (h : OkT t) : posC t := good_pos h.good
end Go.Proofs.Ytadckioheabliaa
