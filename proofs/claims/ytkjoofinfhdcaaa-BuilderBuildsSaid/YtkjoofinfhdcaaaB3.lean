/-
  Whether the builder is awake.
-/
import Derived.Test.YtkjoofinfhdcaaaB2
namespace Go.Proofs.Ytkjoofinfhdcaaa
open Av Bk

theorem fnOk_awake : FnOk Try.prog 10 Try.f10 := ⟨by rfl, by kernel_rfl, by
  show okCode _ _ = true ∧ drawsOk _ = true
  exact ⟨by kernel_rfl, by kernel_rfl⟩⟩
theorem fnOk_lawA : FnOk Try.prog 14 Try.f14 := ⟨by rfl, by kernel_rfl, by
  show okCode _ _ = true ∧ drawsOk _ = true
  exact ⟨by kernel_rfl, by kernel_rfl⟩⟩
theorem fnOk_lawC : FnOk Try.prog 15 Try.f15 := ⟨by rfl, by kernel_rfl, by
  show okCode _ _ = true ∧ drawsOk _ = true
  exact ⟨by kernel_rfl, by kernel_rfl⟩⟩
theorem fnOk_bNew : FnOk Try.prog 16 Try.f16 := ⟨by rfl, by kernel_rfl, by
  show okCode _ _ = true ∧ drawsOk _ = true
  exact ⟨by kernel_rfl, by kernel_rfl⟩⟩
theorem fnOk_bLast : FnOk Try.prog 17 Try.f17 := ⟨by rfl, by kernel_rfl, by
  show okCode _ _ = true ∧ drawsOk _ = true
  exact ⟨by kernel_rfl, by kernel_rfl⟩⟩
theorem fnOk_bAdd : FnOk Try.prog 18 Try.f18 := ⟨by rfl, by kernel_rfl, by
  show okCode _ _ = true ∧ drawsOk _ = true
  exact ⟨by kernel_rfl, by kernel_rfl⟩⟩
theorem fnOk_bSeal : FnOk Try.prog 19 Try.f19 := ⟨by rfl, by kernel_rfl, by
  show okCode _ _ = true ∧ drawsOk _ = true
  exact ⟨by kernel_rfl, by kernel_rfl⟩⟩
theorem fnOk_bRoom : FnOk Try.prog 20 Try.f20 := ⟨by rfl, by kernel_rfl, by
  show okCode _ _ = true ∧ drawsOk _ = true
  exact ⟨by kernel_rfl, by kernel_rfl⟩⟩
theorem fnOk_bLen : FnOk Try.prog 21 Try.f21 := ⟨by rfl, by kernel_rfl, by
  show okCode _ _ = true ∧ drawsOk _ = true
  exact ⟨by kernel_rfl, by kernel_rfl⟩⟩
theorem fnOk_bIs : FnOk Try.prog 35 Try.f35 := ⟨by rfl, by kernel_rfl, by
  show okCode _ _ = true ∧ drawsOk _ = true
  exact ⟨by kernel_rfl, by kernel_rfl⟩⟩
theorem fnOk_bFits : FnOk Try.prog 36 Try.f36 := ⟨by rfl, by kernel_rfl, by
  show okCode _ _ = true ∧ drawsOk _ = true
  exact ⟨by kernel_rfl, by kernel_rfl⟩⟩
theorem fnOk_bCount : FnOk Try.prog 37 Try.f37 := ⟨by rfl, by kernel_rfl, by
  show okCode _ _ = true ∧ drawsOk _ = true
  exact ⟨by kernel_rfl, by kernel_rfl⟩⟩
def spA : DSpec
  | [] => some (True, .agg [.str ⟨#[97]⟩, .str ⟨#[49]⟩, .bool false, .int .i64 5])
  | _ => none
def spC : DSpec
  | [] => some (True, .agg [.str ⟨#[98]⟩, .str ⟨#[50]⟩, .bool false, .int .i64 6])
  | _ => none
theorem lawA_ok : SpecOk Try.prog 14 spA := by
  refine spec_body (C := cx0) mixed tbOk SpecsOk.nil (callN_ok (C := cx0) mixed tbOk SpecsOk.nil FnsOk.nil 0) fnOk_lawA ?_
  intro ys p r h hp
  unfold spA at h
  split at h
  · cases h
    conv => whnf
    repeat' first
      | (refine br_true (by first | with_reducible exact rfl | decide | rfl) ?_; conv => whnf)
      | (refine br_false (by first | with_reducible exact rfl | decide | rfl) ?_; conv => whnf)
      | (refine need_in (by first | exact trivial | exact ⟨rfl, Nat.le_refl _⟩ | decide | (simp only [inR]; omega) | omega) ?_; conv => whnf)
      | (refine frz_auto ?_; conv => whnf)
      | (refine idx_cl ?_; (conv => whnf); refine ⟨by decide, ?_⟩; conv => whnf)
      | fail
  · cases h
theorem lawC_ok : SpecOk Try.prog 15 spC := by
  refine spec_body (C := cx0) mixed tbOk SpecsOk.nil (callN_ok (C := cx0) mixed tbOk SpecsOk.nil FnsOk.nil 0) fnOk_lawC ?_
  intro ys p r h hp
  unfold spC at h
  split at h
  · cases h
    conv => whnf
    repeat' first
      | (refine br_true (by first | with_reducible exact rfl | decide | rfl) ?_; conv => whnf)
      | (refine br_false (by first | with_reducible exact rfl | decide | rfl) ?_; conv => whnf)
      | (refine need_in (by first | exact trivial | exact ⟨rfl, Nat.le_refl _⟩ | decide | (simp only [inR]; omega) | omega) ?_; conv => whnf)
      | (refine frz_auto ?_; conv => whnf)
      | (refine idx_cl ?_; (conv => whnf); refine ⟨by decide, ?_⟩; conv => whnf)
      | fail
  · cases h
noncomputable def cxB : Cx := ⟨tb, [(16, Try.f16), (17, Try.f17), (18, Try.f18), (19, Try.f19), (20, Try.f20), (21, Try.f21), (35, Try.f35), (36, Try.f36), (37, Try.f37)],
  [(14, spA), (15, spC), (44, spCheck), (11, nz [none, some (.st [.str, .str, .bool, .int .i64])] spOf), (13, spRSame)]⟩
theorem specsB : SpecsOk Try.prog cxB.specs := .cons lawA_ok (.cons lawC_ok (.cons entCheck_ok (.cons (bOf_ok.nz _) (.cons r6Same_ok .nil))))
theorem fnsB : FnsOk Try.prog cxB.fns := .cons fnOk_bNew (.cons fnOk_bLast (.cons fnOk_bAdd (.cons fnOk_bSeal (.cons fnOk_bRoom (.cons fnOk_bLen (.cons fnOk_bIs (.cons fnOk_bFits (.cons fnOk_bCount .nil))))))))
def spAwake : DSpec
  | [] => some (True, .bool true)
  | _ => none
set_option maxRecDepth 100000 in
set_option maxHeartbeats 4000000 in
theorem awake_ok : SpecOk Try.prog 10 spAwake := by
  refine spec_body (C := cxB) mixed tbOk specsB (callN_ok (C := cxB) mixed tbOk specsB fnsB 4) fnOk_awake ?_
  intro ys p r h hp
  unfold spAwake at h
  split at h
  · cases h
    conv => whnf
    repeat' first
      | (refine br_true (by first | with_reducible exact rfl | decide | rfl) ?_; conv => whnf)
      | (refine br_false (by first | with_reducible exact rfl | decide | rfl) ?_; conv => whnf)
      | (refine need_in (by first | exact trivial | exact ⟨rfl, Nat.le_refl _⟩ | decide | (simp only [inR]; omega) | omega) ?_; conv => whnf)
      | (refine frz_auto ?_; conv => whnf)
      | (refine idx_cl ?_; (conv => whnf); refine ⟨by decide, ?_⟩; conv => whnf)
      | fail
    rfl
  · cases h
end Go.Proofs.Ytkjoofinfhdcaaa
