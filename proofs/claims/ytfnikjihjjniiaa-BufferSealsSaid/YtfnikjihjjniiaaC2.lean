/-
  Sealing of buffers.
-/
import Derived.Test.YtfnikjihjjniiaaC1
namespace Go.Proofs.Ytfnikjihjjniiaa
open Av Bk

theorem fnOk_clone : FnOk Try.prog 35 Try.f35 := ⟨by rfl, by kernel_rfl, by
  show okCode _ _ = true ∧ drawsOk _ = true
  exact ⟨by kernel_rfl, by kernel_rfl⟩⟩
def spClone : DSpec
  | [.lst (.st [.str, .str, .bool, .int .i64]) l] => some (0 < l.length ∧ l.length ≤ 100000, .lst entT l)
  | _ => none
set_option maxRecDepth 100000 in
set_option maxHeartbeats 2000000 in
theorem clone_ok : SpecOk Try.prog 35 spClone := by
  refine spec_body (C := cx0) mixed tbOk SpecsOk.nil (callN_ok (C := cx0) mixed tbOk SpecsOk.nil FnsOk.nil 0) fnOk_clone ?_
  intro ys p r h hp
  unfold spClone at h
  split at h
  · rename_i l
    cases h
    obtain ⟨h0, h1⟩ := hp
    conv => whnf
    repeat' first
      | (refine br_true (by first | with_reducible exact rfl | assumption | decide) ?_; conv => whnf)
      | (refine br_false (by first | with_reducible exact rfl | assumption | decide) ?_; conv => whnf)
      | ((with_reducible refine br_kt (by assumption) ?_); conv => whnf)
      | ((with_reducible refine br_kf (by assumption) ?_); conv => whnf)
      | ((with_reducible refine br_nt (by assumption) ?_); conv => whnf)
      | ((with_reducible refine br_nf (by assumption) ?_); conv => whnf)
      | ((with_reducible refine br_et (by assumption) ?_); conv => whnf)
      | ((with_reducible refine br_ef (by assumption) ?_); conv => whnf)
      | ((with_reducible refine br_dec (fun h => ?_) (fun h => ?_)) <;> first | (exfalso; omega) | conv => whnf)
      | ((with_reducible refine br_ndec (fun h => ?_) (fun h => ?_)) <;> first | (exfalso; omega) | conv => whnf)
      | ((with_reducible refine br_ne (fun h => ?_) (fun h => ?_)) <;> first | (exfalso; omega) | conv => whnf)
      | ((with_reducible refine br_eq (fun h => ?_) (fun h => ?_)) <;> first | (exfalso; omega) | conv => whnf)
      | (refine br_intro (fun h => ?_) (fun h => ?_) <;> conv => whnf)
      | (refine need_in (by first | exact trivial | assumption | exact ⟨rfl, Nat.le_refl _⟩ | exact ⟨rfl, rfl⟩ | (simp only [inR]; omega) | omega | (simp only [roomP, true_and, and_true, List.length_take, List.length_drop, List.length_append, List.length_cons, List.length_nil, List.length_set, List.length_replicate]; omega) | (refine ⟨by first | exact trivial | rfl, by first | exact Nat.le_refl _ | omega, ?_⟩; change roomP _ _ 1; simp only [roomP]; omega) | (change roomP _ _ 1; simp only [roomP]; omega) | (simp; omega) | (simp [inR]; omega) | (simp [inR]; done) | decide | (simp; done)) ?_; conv => whnf)
      | (refine idx_nat (by omega) (fun x hx => ?_); conv => whnf)
      | (refine frz_auto ?_; conv => whnf)
      | (refine draw_plain ?_; conv => whnf)
      | (refine idx_intro (by omega) (by omega) (fun x hx => ?_); conv => whnf)
      | (refine idx_intro (by first | omega | (simp; omega) | (simp; done)) (by first | omega | (simp; omega) | (simp; done)) (fun x hx => ?_); conv => whnf)
      | fail
    simp only [cast_self, Nat.zero_add, List.take_zero, List.nil_append, List.take_length]
  · cases h
theorem chB_len {m : Int} {l : List entT.El} (h : (chB m l).2 = 0) : l.length ≤ 16 := by
  unfold chB at h
  split at h
  · cases h
  · split at h
    · cases h
    · omega
def seE (m : Int) (l : List entT.El) (id : Int) : Int := if (chB m l).2 ≠ 0 then (chB m l).2 else if l.length = 0 then 9 else if id < 1 ∨ 1000000 < id then 7 else 0
def spSeal : DSpec
  | [.agg [.int .i64 m, .lst (.st [.str, .str, .bool, .int .i64]) l], .int .i64 id] => some (True, .tup [.agg [.int .i64 (if seE m l id = 0 then id else 0), .lst entT (if seE m l id = 0 then l else [])], .agg [.int .i64 (if seE m l id = 0 then m else 0), .lst entT []], .int .i64 (seE m l id)])
  | _ => none
theorem seal_eq {a b c : Int} {x : List entT.El} {m id : Int} {l : List entT.El} (h : (a, x, b, c) = (if seE m l id = 0 then id else 0, if seE m l id = 0 then l else [], if seE m l id = 0 then m else 0, seE m l id)) : AV.tup [.agg [.int .i64 a, .lst entT x], .agg [.int .i64 b, .lst entT []], .int .i64 c] = AV.tup [.agg [.int .i64 (if seE m l id = 0 then id else 0), .lst entT (if seE m l id = 0 then l else [])], .agg [.int .i64 (if seE m l id = 0 then m else 0), .lst entT []], .int .i64 (seE m l id)] := by
  injection h with h1 h2
  injection h2 with h2 h3
  injection h3 with h3 h4
  rw [h1, h2, h3, h4]
theorem fnOk_bSeal : FnOk Try.prog 19 Try.f19 := ⟨by rfl, by kernel_rfl, by
  show okCode _ _ = true ∧ drawsOk _ = true
  exact ⟨by kernel_rfl, by kernel_rfl⟩⟩
noncomputable def cx25 : Cx := ⟨tb, [], [(24, spChB), (35, spClone)]⟩
theorem specs25 : SpecsOk Try.prog cx25.specs := .cons bChk_ok (.cons clone_ok .nil)
set_option maxRecDepth 100000 in
set_option maxHeartbeats 2000000 in
theorem bSeal_ok : SpecOk Try.prog 19 spSeal := by
  refine spec_body (C := cx25) mixed tbOk specs25 (callN_ok (C := cx25) mixed tbOk specs25 FnsOk.nil 0) fnOk_bSeal ?_
  intro ys p r h hp
  unfold spSeal at h
  split at h
  · rename_i m l id
    cases h
    have hl := @chB_len m l
    conv => whnf
    repeat' first
      | (refine br_true (by first | with_reducible exact rfl | assumption | decide) ?_; conv => whnf)
      | (refine br_false (by first | with_reducible exact rfl | assumption | decide) ?_; conv => whnf)
      | ((with_reducible refine br_kt (by assumption) ?_); conv => whnf)
      | ((with_reducible refine br_kf (by assumption) ?_); conv => whnf)
      | ((with_reducible refine br_nt (by assumption) ?_); conv => whnf)
      | ((with_reducible refine br_nf (by assumption) ?_); conv => whnf)
      | ((with_reducible refine br_et (by assumption) ?_); conv => whnf)
      | ((with_reducible refine br_ef (by assumption) ?_); conv => whnf)
      | ((with_reducible refine br_dec (fun h => ?_) (fun h => ?_)) <;> first | (exfalso; omega) | conv => whnf)
      | ((with_reducible refine br_ndec (fun h => ?_) (fun h => ?_)) <;> first | (exfalso; omega) | conv => whnf)
      | ((with_reducible refine br_ne (fun h => ?_) (fun h => ?_)) <;> first | (exfalso; omega) | conv => whnf)
      | ((with_reducible refine br_eq (fun h => ?_) (fun h => ?_)) <;> first | (exfalso; omega) | conv => whnf)
      | (refine br_intro (fun h => ?_) (fun h => ?_) <;> conv => whnf)
      | (refine need_in (by first | exact trivial | assumption | exact ⟨rfl, Nat.le_refl _⟩ | exact ⟨rfl, rfl⟩ | (simp only [inR]; omega) | omega | (simp only [roomP, true_and, and_true, List.length_take, List.length_drop, List.length_append, List.length_cons, List.length_nil, List.length_set, List.length_replicate]; omega) | (refine ⟨by first | exact trivial | rfl, by first | exact Nat.le_refl _ | omega, ?_⟩; change roomP _ _ 1; simp only [roomP]; omega) | (change roomP _ _ 1; simp only [roomP]; omega) | (simp; omega) | (simp [inR]; omega) | (simp [inR]; done) | decide | (simp; done)) ?_; conv => whnf)
      | (refine idx_nat (by omega) (fun x hx => ?_); conv => whnf)
      | (refine frz_auto ?_; conv => whnf)
      | (refine draw_plain ?_; conv => whnf)
      | (refine idx_intro (by omega) (by omega) (fun x hx => ?_); conv => whnf)
      | (refine idx_intro (by first | omega | (simp; omega) | (simp; done)) (by first | omega | (simp; omega) | (simp; done)) (fun x hx => ?_); conv => whnf)
      | fail
    all_goals first
      | (refine seal_eq ?_; grind [seE])
      | skip
  · cases h
end Go.Proofs.Ytfnikjihjjniiaa
