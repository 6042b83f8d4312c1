/-
  Of, by the builder and by the reference; whether two runs are the same.
-/
import Derived.Test.YtkjoofinfhdcaaaB1
namespace Go.Proofs.Ytkjoofinfhdcaaa
open Av Bk

theorem fnOk_clone : FnOk Try.prog 33 Try.f33 := ⟨by rfl, by kernel_rfl, by
  show okCode _ _ = true ∧ drawsOk _ = true
  exact ⟨by kernel_rfl, by kernel_rfl⟩⟩
def spClone : DSpec
  | [.lst (.st [.str, .str, .bool, .int .i64]) l] => some (0 < l.length ∧ l.length ≤ 100000, .lst entT l)
  | _ => none
set_option maxRecDepth 100000 in
set_option maxHeartbeats 2000000 in
theorem clone_ok : SpecOk Try.prog 33 spClone := by
  refine spec_body (C := cx0) mixed tbOk SpecsOk.nil (callN_ok (C := cx0) mixed tbOk SpecsOk.nil FnsOk.nil 0) fnOk_clone ?_
  intro ys p r h hp
  unfold spClone at h
  split at h
  · rename_i l
    cases h
    obtain ⟨h0, h1⟩ := hp
    conv => whnf
    repeat' first
      | (refine br_true (by first | with_reducible exact rfl | assumption | decide) ?_; conv => whnf)
      | (refine br_false (by first | with_reducible exact rfl | assumption | decide) ?_; conv => whnf)
      | ((with_reducible refine br_kt (by assumption) ?_); conv => whnf)
      | ((with_reducible refine br_kf (by assumption) ?_); conv => whnf)
      | ((with_reducible refine br_nt (by assumption) ?_); conv => whnf)
      | ((with_reducible refine br_nf (by assumption) ?_); conv => whnf)
      | ((with_reducible refine br_et (by assumption) ?_); conv => whnf)
      | ((with_reducible refine br_ef (by assumption) ?_); conv => whnf)
      | ((with_reducible refine br_dec (fun h => ?_) (fun h => ?_)) <;> first | (exfalso; omega) | conv => whnf)
      | ((with_reducible refine br_ndec (fun h => ?_) (fun h => ?_)) <;> first | (exfalso; omega) | conv => whnf)
      | ((with_reducible refine br_ne (fun h => ?_) (fun h => ?_)) <;> first | (exfalso; omega) | conv => whnf)
      | ((with_reducible refine br_eq (fun h => ?_) (fun h => ?_)) <;> first | (exfalso; omega) | conv => whnf)
      | (refine br_intro (fun h => ?_) (fun h => ?_) <;> conv => whnf)
      | (refine need_in (by first | exact trivial | assumption | exact ⟨rfl, Nat.le_refl _⟩ | exact ⟨rfl, rfl⟩ | (simp only [inR]; omega) | omega | (simp only [roomP, true_and, and_true, List.length_take, List.length_drop, List.length_append, List.length_cons, List.length_nil, List.length_set, List.length_replicate]; omega) | (refine ⟨by first | exact trivial | rfl, by first | exact Nat.le_refl _ | omega, ?_⟩; change roomP _ _ 1; simp only [roomP]; omega) | (change roomP _ _ 1; simp only [roomP]; omega) | (simp; omega) | (simp [inR]; omega) | (simp [inR]; done) | (simp; done)) ?_; conv => whnf)
      | (refine idx_nat (by omega) (fun x hx => ?_); conv => whnf)
      | (refine frz_auto ?_; conv => whnf)
      | (refine idx_intro (by omega) (by omega) (fun x hx => ?_); conv => whnf)
      | (refine idx_intro (by first | omega | (simp; omega) | (simp; done)) (by first | omega | (simp; omega) | (simp; done)) (fun x hx => ?_); conv => whnf)
      | fail
    simp only [cast_self, Nat.zero_add, List.take_zero, List.nil_append, List.take_length]
  · cases h
def ofR (id : Int) (l : List entT.El) : Int × List entT.El × Int := if id < 1 ∨ 1000000 < id then (0, [], 7) else if (clL l).2 ≠ 0 then (0, [], (clL l).2) else if l.length = 0 then (0, [], 4) else (id, l, 0)
theorem ofR_len (id : Int) (l : List entT.El) : (ofR id l).2.1.length ≤ l.length := by
  unfold ofR
  split
  · simp
  · split
    · simp
    · split <;> simp
def spOf : DSpec
  | [.int .i64 id, .lst (.st [.str, .str, .bool, .int .i64]) l] => some (True, .tup [.agg [.int .i64 (ofR id l).1, .lst entT (ofR id l).2.1], .int .i64 (ofR id l).2.2])
  | _ => none
theorem of_eq {a c : Int} {b : List entT.El} {p : Int × List entT.El × Int} (h : p = (a, b, c)) : AV.tup [.agg [.int .i64 a, .lst entT b], .int .i64 c] = AV.tup [.agg [.int .i64 p.1, .lst entT p.2.1], .int .i64 p.2.2] := by rw [h]
theorem fnOk_bOf : FnOk Try.prog 11 Try.f11 := ⟨by rfl, by kernel_rfl, by
  show okCode _ _ = true ∧ drawsOk _ = true
  exact ⟨by kernel_rfl, by kernel_rfl⟩⟩
noncomputable def cx22 : Cx := ⟨tb, [], [(32, spCL), (33, spClone)]⟩
theorem specs22 : SpecsOk Try.prog cx22.specs := .cons entsCL_ok (.cons clone_ok .nil)
set_option maxRecDepth 100000 in
set_option maxHeartbeats 2000000 in
theorem bOf_ok : SpecOk Try.prog 11 spOf := by
  refine spec_body (C := cx22) mixed tbOk specs22 (callN_ok (C := cx22) mixed tbOk specs22 FnsOk.nil 0) fnOk_bOf ?_
  intro ys p r h hp
  unfold spOf at h
  split at h
  · rename_i id l
    cases h
    conv => whnf
    repeat' first
      | (refine br_true (by first | with_reducible exact rfl | assumption | decide) ?_; conv => whnf)
      | (refine br_false (by first | with_reducible exact rfl | assumption | decide) ?_; conv => whnf)
      | ((with_reducible refine br_kt (by assumption) ?_); conv => whnf)
      | ((with_reducible refine br_kf (by assumption) ?_); conv => whnf)
      | ((with_reducible refine br_nt (by assumption) ?_); conv => whnf)
      | ((with_reducible refine br_nf (by assumption) ?_); conv => whnf)
      | ((with_reducible refine br_et (by assumption) ?_); conv => whnf)
      | ((with_reducible refine br_ef (by assumption) ?_); conv => whnf)
      | ((with_reducible refine br_dec (fun h => ?_) (fun h => ?_)) <;> first | (exfalso; omega) | conv => whnf)
      | ((with_reducible refine br_ndec (fun h => ?_) (fun h => ?_)) <;> first | (exfalso; omega) | conv => whnf)
      | ((with_reducible refine br_ne (fun h => ?_) (fun h => ?_)) <;> first | (exfalso; omega) | conv => whnf)
      | ((with_reducible refine br_eq (fun h => ?_) (fun h => ?_)) <;> first | (exfalso; omega) | conv => whnf)
      | (refine br_intro (fun h => ?_) (fun h => ?_) <;> conv => whnf)
      | (refine need_in (by first | exact trivial | assumption | exact ⟨rfl, Nat.le_refl _⟩ | exact ⟨rfl, rfl⟩ | (simp only [inR]; omega) | omega | (simp only [roomP, true_and, and_true, List.length_take, List.length_drop, List.length_append, List.length_cons, List.length_nil, List.length_set, List.length_replicate]; omega) | (refine ⟨by first | exact trivial | rfl, by first | exact Nat.le_refl _ | omega, ?_⟩; change roomP _ _ 1; simp only [roomP]; omega) | (change roomP _ _ 1; simp only [roomP]; omega) | (simp; omega) | (simp [inR]; omega) | (simp [inR]; done) | (simp; done)) ?_; conv => whnf)
      | (refine idx_nat (by omega) (fun x hx => ?_); conv => whnf)
      | (refine frz_auto ?_; conv => whnf)
      | (refine idx_intro (by omega) (by omega) (fun x hx => ?_); conv => whnf)
      | (refine idx_intro (by first | omega | (simp; omega) | (simp; done)) (by first | omega | (simp; omega) | (simp; done)) (fun x hx => ?_); conv => whnf)
      | fail
    all_goals first
      | (refine of_eq ?_; grind [ofR])
      | skip
    have hl := clL_len ‹_›
    refine need_in ⟨by omega, by omega⟩ ?_
    conv => whnf
    refine of_eq ?_
    grind [ofR]
  · cases h
theorem fnOk_rRun : FnOk Try.prog 34 Try.f34 := ⟨by rfl, by kernel_rfl, by
  show okCode _ _ = true ∧ drawsOk _ = true
  exact ⟨by kernel_rfl, by kernel_rfl⟩⟩
theorem fnOk_rOf : FnOk Try.prog 12 Try.f12 := ⟨by rfl, by kernel_rfl, by
  show okCode _ _ = true ∧ drawsOk _ = true
  exact ⟨by kernel_rfl, by kernel_rfl⟩⟩
noncomputable def cx23 : Cx := ⟨tb, [(34, Try.f34)], [(22, spCL)]⟩
theorem specs23 : SpecsOk Try.prog cx23.specs := .cons refCL_ok .nil
theorem fns23 : FnsOk Try.prog cx23.fns := .cons fnOk_rRun .nil
set_option maxRecDepth 100000 in
set_option maxHeartbeats 2000000 in
theorem rOf_ok : SpecOk Try.prog 12 spOf := by
  refine spec_body (C := cx23) mixed tbOk specs23 (callN_ok (C := cx23) mixed tbOk specs23 fns23 1) fnOk_rOf ?_
  intro ys p r h hp
  unfold spOf at h
  split at h
  · rename_i id l
    cases h
    have hl := @clL_len l
    conv => whnf
    repeat' first
      | (refine br_true (by first | with_reducible exact rfl | assumption | decide) ?_; conv => whnf)
      | (refine br_false (by first | with_reducible exact rfl | assumption | decide) ?_; conv => whnf)
      | ((with_reducible refine br_kt (by assumption) ?_); conv => whnf)
      | ((with_reducible refine br_kf (by assumption) ?_); conv => whnf)
      | ((with_reducible refine br_nt (by assumption) ?_); conv => whnf)
      | ((with_reducible refine br_nf (by assumption) ?_); conv => whnf)
      | ((with_reducible refine br_et (by assumption) ?_); conv => whnf)
      | ((with_reducible refine br_ef (by assumption) ?_); conv => whnf)
      | ((with_reducible refine br_dec (fun h => ?_) (fun h => ?_)) <;> first | (exfalso; omega) | conv => whnf)
      | ((with_reducible refine br_ndec (fun h => ?_) (fun h => ?_)) <;> first | (exfalso; omega) | conv => whnf)
      | ((with_reducible refine br_ne (fun h => ?_) (fun h => ?_)) <;> first | (exfalso; omega) | conv => whnf)
      | ((with_reducible refine br_eq (fun h => ?_) (fun h => ?_)) <;> first | (exfalso; omega) | conv => whnf)
      | (refine br_intro (fun h => ?_) (fun h => ?_) <;> conv => whnf)
      | (refine need_in (by first | exact trivial | assumption | exact ⟨rfl, Nat.le_refl _⟩ | exact ⟨rfl, rfl⟩ | (simp only [inR]; omega) | omega | (simp only [roomP, true_and, and_true, List.length_take, List.length_drop, List.length_append, List.length_cons, List.length_nil, List.length_set, List.length_replicate]; omega) | (refine ⟨by first | exact trivial | rfl, by first | exact Nat.le_refl _ | omega, ?_⟩; change roomP _ _ 1; simp only [roomP]; omega) | (change roomP _ _ 1; simp only [roomP]; omega) | (simp; omega) | (simp [inR]; omega) | (simp [inR]; done) | (simp; done)) ?_; conv => whnf)
      | (refine idx_nat (by omega) (fun x hx => ?_); conv => whnf)
      | (refine frz_auto ?_; conv => whnf)
      | (refine idx_intro (by omega) (by omega) (fun x hx => ?_); conv => whnf)
      | (refine idx_intro (by first | omega | (simp; omega) | (simp; done)) (by first | omega | (simp; omega) | (simp; done)) (fun x hx => ?_); conv => whnf)
      | fail
    all_goals try simp only [cast_self, Nat.zero_add, List.take_zero, List.nil_append, List.take_length]
    all_goals (refine of_eq ?_; grind [ofR])
  · cases h
theorem fnOk_r6Same : FnOk Try.prog 13 Try.f13 := ⟨by rfl, by kernel_rfl, by
  show okCode _ _ = true ∧ drawsOk _ = true
  exact ⟨by kernel_rfl, by kernel_rfl⟩⟩
def spRSame : DSpec
  | [.agg [.int .i64 i, .lst (.st [.str, .str, .bool, .int .i64]) a], .agg [.int .i64 j, .lst (.st [.str, .str, .bool, .int .i64]) b]] => some (a.length ≤ 4611686018427387904, .bool (i == j && sameL entT a b))
  | _ => none
noncomputable def cx24 : Cx := ⟨tb, [], [(23, spSame)]⟩
theorem specs24 : SpecsOk Try.prog cx24.specs := .cons ref03Same_ok .nil
set_option maxRecDepth 100000 in
set_option maxHeartbeats 2000000 in
theorem r6Same_ok : SpecOk Try.prog 13 spRSame := by
  refine spec_body (C := cx24) mixed tbOk specs24 (callN_ok (C := cx24) mixed tbOk specs24 FnsOk.nil 0) fnOk_r6Same ?_
  intro ys p r h hp
  unfold spRSame at h
  split at h
  · rename_i i a j b
    cases h
    conv => whnf
    repeat' first
      | (refine br_true (by first | with_reducible exact rfl | assumption | decide) ?_; conv => whnf)
      | (refine br_false (by first | with_reducible exact rfl | assumption | decide) ?_; conv => whnf)
      | ((with_reducible refine br_kt (by assumption) ?_); conv => whnf)
      | ((with_reducible refine br_kf (by assumption) ?_); conv => whnf)
      | ((with_reducible refine br_nt (by assumption) ?_); conv => whnf)
      | ((with_reducible refine br_nf (by assumption) ?_); conv => whnf)
      | ((with_reducible refine br_et (by assumption) ?_); conv => whnf)
      | ((with_reducible refine br_ef (by assumption) ?_); conv => whnf)
      | ((with_reducible refine br_dec (fun h => ?_) (fun h => ?_)) <;> first | (exfalso; omega) | conv => whnf)
      | ((with_reducible refine br_ndec (fun h => ?_) (fun h => ?_)) <;> first | (exfalso; omega) | conv => whnf)
      | ((with_reducible refine br_ne (fun h => ?_) (fun h => ?_)) <;> first | (exfalso; omega) | conv => whnf)
      | ((with_reducible refine br_eq (fun h => ?_) (fun h => ?_)) <;> first | (exfalso; omega) | conv => whnf)
      | (refine br_intro (fun h => ?_) (fun h => ?_) <;> conv => whnf)
      | (refine need_in (by first | exact trivial | assumption | exact ⟨rfl, Nat.le_refl _⟩ | exact ⟨rfl, rfl⟩ | (simp only [inR]; omega) | omega | (simp only [roomP, true_and, and_true, List.length_take, List.length_drop, List.length_append, List.length_cons, List.length_nil, List.length_set, List.length_replicate]; omega) | (refine ⟨by first | exact trivial | rfl, by first | exact Nat.le_refl _ | omega, ?_⟩; change roomP _ _ 1; simp only [roomP]; omega) | (change roomP _ _ 1; simp only [roomP]; omega) | (simp; omega) | (simp [inR]; omega) | (simp [inR]; done) | (simp; done)) ?_; conv => whnf)
      | (refine idx_nat (by omega) (fun x hx => ?_); conv => whnf)
      | (refine frz_auto ?_; conv => whnf)
      | (refine idx_intro (by omega) (by omega) (fun x hx => ?_); conv => whnf)
      | (refine idx_intro (by first | omega | (simp; omega) | (simp; done)) (by first | omega | (simp; omega) | (simp; done)) (fun x hx => ?_); conv => whnf)
      | fail
    all_goals simp [*]
  · cases h
end Go.Proofs.Ytkjoofinfhdcaaa
