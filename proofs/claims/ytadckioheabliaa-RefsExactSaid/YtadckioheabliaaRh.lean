/-
  What is shown in every law.
-/
import Derived.Test.YtadckioheabliaaRg
namespace Go.Proofs.Ytadckioheabliaa
open Av

def spShown : DSpec
  | [] => some (True, .bool true)
  | _ => none
set_option maxRecDepth 100000 in
theorem fnOk_lwShown : FnOk Try.prog 11 Try.f11 := ⟨by rfl, by kernel_rfl, by
  show okCode _ _ = true ∧ drawsOk _ = true
  exact ⟨by kernel_rfl, by kernel_rfl⟩⟩
noncomputable def cr14 : Cx := ⟨tb, [], [(28, spOf), (23, spDrop), (14, spCnt), (18, spSum), (25, spSameT), (20, spInts)]⟩
theorem spr14 : SpecsOk Try.prog cr14.specs := .cons rfOf_ok (.cons rfDrop_ok (.cons rfCnt_ok (.cons rfSum_ok (.cons r4Same_ok (.cons r4Ints_ok .nil)))))
set_option maxRecDepth 100000 in
set_option maxHeartbeats 4000000 in
theorem lwShown_ok : SpecOk Try.prog 11 spShown := by
  refine spec_body (C := cr14) mixed tbOk spr14 (callN_ok (C := cr14) mixed tbOk spr14 FnsOk.nil 3) fnOk_lwShown ?_
  intro ys p r h hp
  unfold spShown at h
  split at h
  · cases h
    conv => whnf
    repeat' first
      | (refine br_true (by first | with_reducible exact rfl | decide | rfl) ?_; conv => whnf)
      | (refine br_false (by first | with_reducible exact rfl | decide | rfl) ?_; conv => whnf)
      | (refine need_in (by first | exact trivial | exact ⟨rfl, Nat.le_refl _⟩ | decide | (simp only [inR]; omega) | omega) ?_; conv => whnf)
      | (refine frz_auto ?_; conv => whnf)
      | (refine draw_plain ?_; conv => whnf)
      | (refine idx_cl ?_; (conv => whnf); refine ⟨by decide, ?_⟩; conv => whnf)
      | fail
    exact congrArg AV.bool (by decide)
  · cases h
end Go.Proofs.Ytadckioheabliaa
