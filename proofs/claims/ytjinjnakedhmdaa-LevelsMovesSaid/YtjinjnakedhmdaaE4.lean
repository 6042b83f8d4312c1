/-
  What the reference says of the order of strings and entries.
-/
import Derived.Test.YtjinjnakedhmdaaE3
import Derived.Test.YtjinjnakedhmdaaRfO
namespace Go.Proofs.Ytjinjnakedhmdaa
open Av Bk

theorem comL_left : ∀ x y : List UInt8, comL x y ≤ x.length
  | [], _ => by simp [comL]
  | _ :: _, [] => by simp [comL]
  | a :: x, b :: y => by
    simp only [comL]
    split
    · simpa using comL_left x y
    · simp
theorem comL_right : ∀ x y : List UInt8, comL x y ≤ y.length
  | [], _ => by simp [comL]
  | _ :: _, [] => by simp [comL]
  | a :: x, b :: y => by
    simp only [comL]
    split
    · simpa using comL_right x y
    · simp
theorem ordL_com : ∀ x y : List UInt8, ordL x y = if comL x y = x.length ∧ comL x y = y.length then 0 else if comL x y = x.length then -1 else if comL x y = y.length then 1 else
    if (x[comL x y]?.getD 0) < (y[comL x y]?.getD 0) then -1 else 1
  | [], [] => by simp [comL, ordL_nil]
  | [], b :: y => by simp [comL, ordL_less]
  | a :: x, [] => by simp [comL, ordL_more]
  | a :: x, b :: y => by
    by_cases h : a = b
    · subst h
      rw [ordL_cons, ordL_com x y]
      simp [comL]
    · rw [ordL_ne x y h]
      simp [comL, h]
def spOrder : DSpec
  | [.str a, .str b] => some ((a.size : Int) ≤ 9223372036854775807, .int .i64 (ordL a.data.toList b.data.toList))
  | _ => none
set_option maxRecDepth 100000 in
theorem fnOk_refOrder : FnOk Try.prog 56 Try.f56 := ⟨by rfl, by kernel_rfl, by
  show okCode _ _ = true ∧ drawsOk _ = true
  exact ⟨by kernel_rfl, by kernel_rfl⟩⟩
noncomputable def cx2 : Cx := ⟨tb, [], [(58, spCommon)]⟩
theorem specs2 : SpecsOk Try.prog cx2.specs := .cons refCommon_ok .nil
set_option maxRecDepth 100000 in
set_option maxHeartbeats 2000000 in
theorem refOrder_ok : SpecOk Try.prog 56 spOrder := by
  refine spec_body (C := cx2) mixed tbOk specs2 (callN_ok (C := cx2) mixed tbOk specs2 FnsOk.nil 0) fnOk_refOrder ?_
  intro ys p r h hp
  unfold spOrder at h
  split at h
  · rename_i a b
    cases h
    have la : a.data.toList.length = a.size := Array.length_toList
    have lb : b.data.toList.length = b.size := Array.length_toList
    have ca := comL_left a.data.toList b.data.toList
    have cb := comL_right a.data.toList b.data.toList
    have ho := ordL_com a.data.toList b.data.toList
    conv => whnf
    refine need_in hp ?_
    conv => whnf
    repeat' first
      | ((first | refine br_true (by first | with_reducible exact rfl | assumption | decide) ?_ | refine br_false (by first | with_reducible exact rfl | assumption | decide) ?_ | with_reducible first | refine br_kt (by assumption) ?_ | refine br_kf (by assumption) ?_ | refine br_nt (by assumption) ?_ | refine br_nf (by assumption) ?_ | refine br_et (by assumption) ?_ | refine br_ef (by assumption) ?_); conv => whnf)
      | ((with_reducible first | refine br_dec (fun h => ?_) (fun h => ?_) | refine br_ndec (fun h => ?_) (fun h => ?_) | refine br_ne (fun h => ?_) (fun h => ?_) | refine br_eq (fun h => ?_) (fun h => ?_)) <;> first | (exfalso; omega) | conv => whnf)
      | (refine br_intro (fun h => ?_) (fun h => ?_) <;> conv => whnf)
      | ((first | refine need_in (by first | exact trivial | assumption | exact ⟨rfl, Nat.le_refl _⟩ | exact ⟨rfl, rfl⟩ | (simp only [inR]; omega) | omega | (simp only [roomP, true_and, and_true, List.length_take, List.length_drop, List.length_append, List.length_cons, List.length_nil, List.length_set, List.length_replicate]; omega) | (refine ⟨by first | exact trivial | rfl, by first | exact Nat.le_refl _ | omega | (simp; omega), ?_⟩; change roomP _ _ 1; simp only [roomP]; omega) | (change roomP _ _ 1; simp only [roomP]; omega) | (simp; omega) | (simp [inR]; omega) | (simp [inR]; done) | decide | (simp; done) | exact ⟨by first | omega | (simp; omega), by assumption⟩) ?_ | refine idx_nat (by omega) (fun x hx => ?_) | refine frz_auto ?_ | refine draw_plain ?_ | refine idx_intro (by first | omega | (simp; omega) | (simp; done)) (by first | omega | (simp; omega) | (simp; done)) (fun x hx => ?_)); conv => whnf)
    all_goals refine congrArg (AV.int .i64) ?_
    all_goals first
      | (exfalso; omega)
      | rw [ho, if_pos ⟨by omega, by omega⟩]
      | rw [ho, if_neg (by omega), if_pos (by omega)]
      | rw [ho, if_neg (by omega), if_neg (by omega), if_pos (by omega)]
      | (rename_i c hc
         rw [ho, if_neg (by omega), if_neg (by omega), if_neg (by omega), hc, hx]
         simp only [Option.getD_some]
         first
           | rw [if_pos (UInt8.lt_iff_toNat_lt.2 (by omega))]
           | rw [if_neg (fun e => by have := UInt8.lt_iff_toNat_lt.1 e; omega)])
  · cases h
end Go.Proofs.Ytjinjnakedhmdaa
