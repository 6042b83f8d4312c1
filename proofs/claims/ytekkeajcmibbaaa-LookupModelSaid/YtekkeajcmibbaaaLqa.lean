/-
  The view of the examples; lists of pairs that are the same.
-/
import Derived.Test.YtekkeajcmibbaaaLp
namespace Go.Proofs.Ytekkeajcmibbaaa
open Av Bk

def exB : List entT.El := [mkE ⟨#[98]⟩ ⟨#[]⟩ true 9]
def exR : List runT.El := [(7, [mkE ⟨#[97]⟩ ⟨#[49]⟩ false 1, mkE ⟨#[98]⟩ ⟨#[50]⟩ false 2, mkE ⟨#[99]⟩ ⟨#[51]⟩ false 3], ())]
def spEx : DSpec
  | [] => some (True, .agg [.lst entT exB, .lst runT exR])
  | _ => none
set_option maxRecDepth 100000 in
theorem fnOk_example : FnOk Try.prog 42 Try.f42 := ⟨by rfl, by kernel_rfl, by
  show okCode _ _ = true ∧ drawsOk _ = true
  exact ⟨by kernel_rfl, by kernel_rfl⟩⟩
set_option maxRecDepth 100000 in
theorem example_ok : SpecOk Try.prog 42 spEx := by
  refine spec_body (C := cx0) mixed tbOk SpecsOk.nil (callN_ok (C := cx0) mixed tbOk SpecsOk.nil FnsOk.nil 0) fnOk_example ?_
  intro ys p r h hp
  unfold spEx at h
  split at h
  · cases h
    conv => whnf
    repeat' first
      | (refine br_true (by first | with_reducible exact rfl | decide | rfl) ?_; conv => whnf)
      | (refine br_false (by first | with_reducible exact rfl | decide | rfl) ?_; conv => whnf)
      | (refine need_in (by first | exact trivial | exact ⟨rfl, Nat.le_refl _⟩ | decide | (simp only [inR]; omega) | omega) ?_; conv => whnf)
      | (refine frz_auto ?_; conv => whnf)
      | (refine draw_plain ?_; conv => whnf)
      | (refine idx_cl ?_; (conv => whnf); refine ⟨by decide, ?_⟩; conv => whnf)
      | fail
    rfl
  · cases h
theorem eqP_refl (x : pairT.El) : eqT pairT x x = true := by
  show (sEq x.1 x.1 && sEq x.2.1 x.2.1) = true
  rw [sEq_refl, sEq_refl]
  rfl
theorem sameP_refl : ∀ l : List pairT.El, sameL pairT l l = true
  | [] => rfl
  | x :: l => by
    rw [sameL, sameP_refl l, eqP_refl]
    rfl
theorem eqP_eq {x y : pairT.El} (h : eqT pairT x y = true) : x = y := by
  have h : (sEq x.1 y.1 && sEq x.2.1 y.2.1) = true := h
  rw [Bool.and_eq_true] at h
  obtain ⟨k, v, u⟩ := x
  obtain ⟨k', v', u'⟩ := y
  rw [show k = k' from sEq_iff.1 h.1, show v = v' from sEq_iff.1 h.2]
theorem sameP_iff : ∀ {a b : List pairT.El}, sameL pairT a b = true ↔ a = b
  | [], [] => by simp [sameL]
  | [], _ :: _ => by simp [sameL]
  | _ :: _, [] => by simp [sameL]
  | x :: a, y :: b => by
    rw [sameL, Bool.and_eq_true, sameP_iff (a := a) (b := b), List.cons.injEq]
    exact ⟨fun h => ⟨eqP_eq h.1, h.2⟩, fun h => ⟨by rw [h.1]; exact eqP_refl y, h.2⟩⟩
abbrev viewT : Ty := .st [.sl entT, .sl runT]
theorem part_len (b : List entT.El) (rs : List runT.El) (lo hi : ByteArray) (bd : Bool) : (partR b rs lo hi bd).1.length ≤ 4611686018427387904 := by
  by_cases hv : (vcL b rs).2 = 0
  · by_cases hr : rgE lo hi bd = 0
    · rw [part_g hv hr]
      have h1 := (all_len (vcL_zero hv)).2
      have h2 := mapL_len (allE b rs)
      have h3 := List.length_filter_le (fun p : pairT.El => hasB lo hi bd p.1) (mapL (allE b rs))
      simp only
      omega
    · rw [part_r hv hr]; simp
  · rw [part_v hv]; simp
end Go.Proofs.Ytekkeajcmibbaaa
