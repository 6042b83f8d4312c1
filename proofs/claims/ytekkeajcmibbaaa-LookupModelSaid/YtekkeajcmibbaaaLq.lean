/-
  Whether the lookups are awake.
-/
import Derived.Test.YtekkeajcmibbaaaLqb
import Derived.Test.YtekkeajcmibbaaaLpa
import Derived.Test.YtekkeajcmibbaaaLk
import Derived.Test.YtekkeajcmibbaaaLn
namespace Go.Proofs.Ytekkeajcmibbaaa
open Av Bk

def spAwake : DSpec
  | [] => some (True, .bool true)
  | _ => none
set_option maxRecDepth 100000 in
theorem fnOk_awake : FnOk Try.prog 12 Try.f12 := ⟨by rfl, by kernel_rfl, by
  show okCode _ _ = true ∧ drawsOk _ = true
  exact ⟨by kernel_rfl, by kernel_rfl⟩⟩
noncomputable def cxq1 : Cx := ⟨tb, [], [(42, spEx), (15, spGet), (13, spNw), (34, spNr true false), (36, spNr false true), (19, spCount), (38, spNr false false)]⟩
theorem specsq1 : SpecsOk Try.prog cxq1.specs := .cons example_ok (.cons lkGet_ok (.cons lkNewest_ok (.cons lkFloor_ok (.cons lkCeiling_ok (.cons lkCount_ok (.cons lkBefore_ok .nil))))))
set_option maxRecDepth 100000 in
set_option maxHeartbeats 4000000 in
theorem awake_ok : SpecOk Try.prog 12 spAwake := by
  refine spec_body (C := cxq1) mixed tbOk specsq1 (callN_ok (C := cxq1) mixed tbOk specsq1 FnsOk.nil 3) fnOk_awake ?_
  intro ys p r h hp
  unfold spAwake at h
  split at h
  · cases h
    conv => whnf
    repeat' first
      | (refine br_true (by first | with_reducible exact rfl | decide | rfl) ?_; conv => whnf)
      | (refine br_false (by first | with_reducible exact rfl | decide | rfl) ?_; conv => whnf)
      | (refine need_in (by first | exact trivial | exact ⟨rfl, Nat.le_refl _⟩ | decide | (simp only [inR]; omega) | omega) ?_; conv => whnf)
      | (refine frz_auto ?_; conv => whnf)
      | (refine draw_plain ?_; conv => whnf)
      | (refine idx_cl ?_; (conv => whnf); refine ⟨by decide, ?_⟩; conv => whnf)
      | fail
    exact congrArg AV.bool (by decide)
  · cases h
end Go.Proofs.Ytekkeajcmibbaaa
