/-
  The table of two lists of referrers.
-/
import Derived.Test.YtadckioheabliaaRn
namespace Go.Proofs.Ytadckioheabliaa
open Av

def badO (l : List (List Int)) : Prop := ofErr l ≠ 0 ∨ 500 < (ofT [] l).length
theorem of_cases {l : List (List Int)} (hl : l.length ≤ 1000) : (badO l ∧ ∃ e, ofL l = ([], e) ∧ e ≠ 0) ∨ (ofErr l = 0 ∧ (ofT [] l).length ≤ 500 ∧ ofL l = (ofT [] l, 0)) := by
  unfold ofL badO
  rw [if_neg (by omega)]
  by_cases h1 : ofErr l = 0
  · rw [if_neg (fun e => e h1)]
    by_cases h2 : 500 < (ofT [] l).length
    · rw [if_pos h2]
      exact .inl ⟨.inr h2, 3, rfl, by decide⟩
    · rw [if_neg h2]
      exact .inr ⟨h1, by omega, rfl⟩
  · rw [if_pos h1]
    exact .inl ⟨.inl h1, _, rfl, h1⟩
theorem ofT0 (l : List (List Int)) : ascC (ofT [] l) ∧ posC (ofT [] l) := ofT_asc l asc_nil
theorem ofT_cnt0 (l : List (List Int)) (n : Int) : countC (ofT [] l) n = (l.countP (fun ids => inI ids n) : Nat) := by
  rw [ofT_cnt l asc_nil, cntC_nil, Int.zero_add]
theorem okT_of0 {l : List (List Int)} (he : ofErr l = 0) (hl : l.length ≤ 1000) (h5 : (ofT [] l).length ≤ 500) : OkT (ofT [] l) := by
  have hb := ofT0 l
  have hg : ∀ x ∈ ofT [] l, goodX x := by
    intro x hx
    have h1 := cnt_mem hb.1 hx
    have h2 := hb.2 x hx
    rw [ofT_cnt0] at h1
    have h3 := List.countP_le_length (p := fun ids => inI ids (idC x)) (l := l)
    refine ⟨?_, h2, by omega⟩
    have h4 : 0 < l.countP (fun ids => inI ids (idC x)) := by omega
    rw [List.countP_pos_iff] at h4
    obtain ⟨ids, hi, hin⟩ := h4
    exact (lsE_zero (ofErr_zero.1 he ids hi)).2 _ (inI_iff.1 hin)
  exact ⟨ckL_ok h5 hg hb.1, h5, hg, hb.1⟩
end Go.Proofs.Ytadckioheabliaa
