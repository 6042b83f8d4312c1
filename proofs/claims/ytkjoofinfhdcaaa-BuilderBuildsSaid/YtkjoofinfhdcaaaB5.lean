/-
  The examples of the builder, and builders that are none.
-/
import Derived.Test.YtkjoofinfhdcaaaB3
namespace Go.Proofs.Ytkjoofinfhdcaaa
open Av Bk

theorem fnOk_lKn : FnOk Try.prog 4 Try.f4 := ⟨by rfl, by kernel_rfl, by
  show okCode _ _ = true ∧ drawsOk _ = true
  exact ⟨by kernel_rfl, by kernel_rfl⟩⟩
noncomputable def lKn_C : Cx := ⟨tb, cxB.fns, (10, spAwake) :: cxB.specs⟩
theorem lKn_D : SpecsOk Try.prog lKn_C.specs := .cons awake_ok specsB
theorem lKn_F : FnsOk Try.prog lKn_C.fns := fnsB
abbrev lKn_N : Nat := 4
abbrev lKn_T : List Ty := []
abbrev lKn_FN := fnOk_lKn
set_option maxRecDepth 100000 in
set_option maxHeartbeats 4000000 in
theorem lKn : ∀ es : Ty.Els lKn_T, tyOks lKn_T es → bodyA lKn_C (callN lKn_C lKn_N) Try.f4 (avTs lKn_T es) [] (fun v _ => v = .bool true) := by
  rintro _ -
  show bodyA _ _ _ [] [] _
  conv => whnf
  repeat' first
    | (refine br_true (by first | with_reducible exact rfl | decide | rfl) ?_; conv => whnf)
    | (refine br_false (by first | with_reducible exact rfl | decide | rfl) ?_; conv => whnf)
    | (refine need_in (by first | exact trivial | exact ⟨rfl, Nat.le_refl _⟩ | decide | (simp only [inR]; omega) | omega) ?_; conv => whnf)
    | (refine frz_auto ?_; conv => whnf)
    | (refine idx_cl ?_; (conv => whnf); refine ⟨by decide, ?_⟩; conv => whnf)
    | fail
  done
theorem fnOk_bFork : FnOk Try.prog 27 Try.f27 := ⟨by rfl, by kernel_rfl, by
  show okCode _ _ = true ∧ drawsOk _ = true
  exact ⟨by kernel_rfl, by kernel_rfl⟩⟩
theorem fnOk_lNo : FnOk Try.prog 8 Try.f8 := ⟨by rfl, by kernel_rfl, by
  show okCode _ _ = true ∧ drawsOk _ = true
  exact ⟨by kernel_rfl, by kernel_rfl⟩⟩
noncomputable def lNo_C : Cx := ⟨tb, (27, Try.f27) :: cxB.fns, (10, spAwake) :: cxB.specs⟩
theorem lNo_D : SpecsOk Try.prog lNo_C.specs := .cons awake_ok specsB
theorem lNo_F : FnsOk Try.prog lNo_C.fns := .cons fnOk_bFork fnsB
abbrev lNo_N : Nat := 4
abbrev lNo_T : List Ty := [.st [.int .u8, entT, .int .i64]]
abbrev lNo_FN := fnOk_lNo
set_option maxRecDepth 100000 in
set_option maxHeartbeats 4000000 in
theorem lNo : ∀ es : Ty.Els lNo_T, tyOks lNo_T es → bodyA lNo_C (callN lNo_C lNo_N) Try.f8 (avTs lNo_T es) [] (fun v _ => v = .bool true) := by
  rintro ⟨⟨wh, ⟨k, v, d, s, _⟩, id, _⟩, _⟩ -
  show bodyA _ _ _ [.agg [.int .u8 wh, .str k, .str v, .bool d, .int .i64 s, .int .i64 id]] [] _
  conv => whnf
  repeat' first
    | (refine br_true (by first | with_reducible exact rfl | assumption | decide) ?_; conv => whnf)
    | (refine br_false (by first | with_reducible exact rfl | assumption | decide) ?_; conv => whnf)
    | ((with_reducible refine br_kt (by assumption) ?_); conv => whnf)
    | ((with_reducible refine br_kf (by assumption) ?_); conv => whnf)
    | ((with_reducible refine br_nt (by assumption) ?_); conv => whnf)
    | ((with_reducible refine br_nf (by assumption) ?_); conv => whnf)
    | ((with_reducible refine br_et (by assumption) ?_); conv => whnf)
    | ((with_reducible refine br_ef (by assumption) ?_); conv => whnf)
    | ((with_reducible refine br_dec (fun h => ?_) (fun h => ?_)) <;> first | (exfalso; omega) | conv => whnf)
    | ((with_reducible refine br_ndec (fun h => ?_) (fun h => ?_)) <;> first | (exfalso; omega) | conv => whnf)
    | ((with_reducible refine br_ne (fun h => ?_) (fun h => ?_)) <;> first | (exfalso; omega) | conv => whnf)
    | ((with_reducible refine br_eq (fun h => ?_) (fun h => ?_)) <;> first | (exfalso; omega) | conv => whnf)
    | (refine br_intro (fun h => ?_) (fun h => ?_) <;> conv => whnf)
    | (refine need_in (by first | exact trivial | assumption | exact ⟨rfl, Nat.le_refl _⟩ | exact ⟨rfl, rfl⟩ | (simp only [inR]; omega) | omega | (simp only [roomP, true_and, and_true, List.length_take, List.length_drop, List.length_append, List.length_cons, List.length_nil, List.length_set, List.length_replicate]; omega) | (refine ⟨by first | exact trivial | rfl, by first | exact Nat.le_refl _ | omega, ?_⟩; change roomP _ _ 1; simp only [roomP]; omega) | (change roomP _ _ 1; simp only [roomP]; omega) | (simp; omega) | (simp [inR]; omega) | (simp [inR]; done) | (simp; done)) ?_; conv => whnf)
    | (refine idx_nat (by omega) (fun x hx => ?_); conv => whnf)
    | (refine frz_auto ?_; conv => whnf)
    | (refine idx_intro (by omega) (by omega) (fun x hx => ?_); conv => whnf)
    | (refine idx_intro (by first | omega | (simp; omega) | (simp; done)) (by first | omega | (simp; omega) | (simp; done)) (fun x hx => ?_); conv => whnf)
    | fail
  all_goals try (refine loop_turns 4 ?_)
  all_goals try (conv => whnf)
  repeat' first
    | (refine br_true (by first | with_reducible exact rfl | assumption | decide) ?_; conv => whnf)
    | (refine br_false (by first | with_reducible exact rfl | assumption | decide) ?_; conv => whnf)
    | ((with_reducible refine br_kt (by assumption) ?_); conv => whnf)
    | ((with_reducible refine br_kf (by assumption) ?_); conv => whnf)
    | ((with_reducible refine br_nt (by assumption) ?_); conv => whnf)
    | ((with_reducible refine br_nf (by assumption) ?_); conv => whnf)
    | ((with_reducible refine br_et (by assumption) ?_); conv => whnf)
    | ((with_reducible refine br_ef (by assumption) ?_); conv => whnf)
    | ((with_reducible refine br_dec (fun h => ?_) (fun h => ?_)) <;> first | (exfalso; omega) | conv => whnf)
    | ((with_reducible refine br_ndec (fun h => ?_) (fun h => ?_)) <;> first | (exfalso; omega) | conv => whnf)
    | ((with_reducible refine br_ne (fun h => ?_) (fun h => ?_)) <;> first | (exfalso; omega) | conv => whnf)
    | ((with_reducible refine br_eq (fun h => ?_) (fun h => ?_)) <;> first | (exfalso; omega) | conv => whnf)
    | (refine br_intro (fun h => ?_) (fun h => ?_) <;> conv => whnf)
    | (refine need_in (by first | exact trivial | assumption | exact ⟨rfl, Nat.le_refl _⟩ | exact ⟨rfl, rfl⟩ | (simp only [inR]; omega) | omega | (simp only [roomP, true_and, and_true, List.length_take, List.length_drop, List.length_append, List.length_cons, List.length_nil, List.length_set, List.length_replicate]; omega) | (refine ⟨by first | exact trivial | rfl, by first | exact Nat.le_refl _ | omega, ?_⟩; change roomP _ _ 1; simp only [roomP]; omega) | (change roomP _ _ 1; simp only [roomP]; omega) | (simp; omega) | (simp [inR]; omega) | (simp [inR]; done) | (simp; done)) ?_; conv => whnf)
    | (refine idx_nat (by omega) (fun x hx => ?_); conv => whnf)
    | (refine frz_auto ?_; conv => whnf)
    | (refine idx_intro (by omega) (by omega) (fun x hx => ?_); conv => whnf)
    | (refine idx_intro (by first | omega | (simp; omega) | (simp; done)) (by first | omega | (simp; omega) | (simp; done)) (fun x hx => ?_); conv => whnf)
    | fail
  done
end Go.Proofs.Ytkjoofinfhdcaaa
