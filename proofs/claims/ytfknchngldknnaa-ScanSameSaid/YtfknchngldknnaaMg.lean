/-
  The laws of beginnings and of moves.
-/
import Derived.Test.YtfknchngldknnaaMf
namespace Go.Proofs.Ytfknchngldknnaa
open Av Bk

abbrev cuT : Ty := .st [.st [.str, .str, .bool], .bool, .str, .bool]
def spFar27 : DSpec
  | [.agg [.lst (.st [.str, .str, .bool, .int .i64]) b, .lst (.st [.int .i64, .sl (.st [.str, .str, .bool, .int .i64])]) rs], .agg [.str lo, .str hi, .bool bd, .bool so, .str key, .bool af]] =>
    some (True, .bool (farB b rs || decide (200 < (lo.size : Int)) || decide (200 < (hi.size : Int)) || decide (200 < (key.size : Int))))
  | _ => none
set_option maxRecDepth 100000 in
theorem fnOk_far27 : FnOk Try.prog 9 Try.f9 := ⟨by rfl, by kernel_rfl, by
  show okCode _ _ = true ∧ drawsOk _ = true
  exact ⟨by kernel_rfl, by kernel_rfl⟩⟩
noncomputable def cmg1 : Cx := ⟨tb, [], [(17, spFar)]⟩
theorem smg1 : SpecsOk Try.prog cmg1.specs := .cons far_ok .nil
set_option maxRecDepth 100000 in
theorem far27_ok : SpecOk Try.prog 9 spFar27 := by
  refine spec_body (C := cmg1) mixed tbOk smg1 (callN_ok (C := cmg1) mixed tbOk smg1 FnsOk.nil 3) fnOk_far27 ?_
  intro ys p r h hp
  unfold spFar27 at h
  split at h
  · rename_i b rs lo hi bd so key af
    cases h
    conv => whnf
    repeat' first
      | (refine br_true (by first | with_reducible exact rfl | assumption | decide) ?_; conv => whnf)
      | (refine br_false (by first | with_reducible exact rfl | assumption | decide) ?_; conv => whnf)
      | ((with_reducible refine br_kt (by assumption) ?_); conv => whnf)
      | ((with_reducible refine br_kf (by assumption) ?_); conv => whnf)
      | ((with_reducible refine br_nt (by assumption) ?_); conv => whnf)
      | ((with_reducible refine br_nf (by assumption) ?_); conv => whnf)
      | ((with_reducible refine br_et (by assumption) ?_); conv => whnf)
      | ((with_reducible refine br_ef (by assumption) ?_); conv => whnf)
      | ((with_reducible refine br_dec (fun h => ?_) (fun h => ?_)) <;> first | (exfalso; omega) | conv => whnf)
      | ((with_reducible refine br_ndec (fun h => ?_) (fun h => ?_)) <;> first | (exfalso; omega) | conv => whnf)
      | ((with_reducible refine br_ne (fun h => ?_) (fun h => ?_)) <;> first | (exfalso; omega) | conv => whnf)
      | ((with_reducible refine br_eq (fun h => ?_) (fun h => ?_)) <;> first | (exfalso; omega) | conv => whnf)
      | (refine br_intro (fun h => ?_) (fun h => ?_) <;> conv => whnf)
      | (refine need_in (by first | exact trivial | assumption | exact ⟨rfl, Nat.le_refl _⟩ | exact ⟨rfl, rfl⟩ | (simp only [inR]; omega) | omega | (simp only [roomP, true_and, and_true, List.length_take, List.length_drop, List.length_append, List.length_cons, List.length_nil, List.length_set, List.length_replicate]; omega) | (refine ⟨by first | exact trivial | rfl, by first | exact Nat.le_refl _ | omega | (simp; omega), ?_⟩; change roomP _ _ 1; simp only [roomP]; omega) | (change roomP _ _ 1; simp only [roomP]; omega) | (simp; omega) | (simp [inR]; omega) | (simp [inR]; done) | decide | (simp; done)) ?_; conv => whnf)
      | (refine idx_nat (by omega) (fun x hx => ?_); conv => whnf)
      | (refine frz_auto ?_; conv => whnf)
      | (refine draw_plain ?_; conv => whnf)
      | (refine idx_intro (by omega) (by omega) (fun x hx => ?_); conv => whnf)
      | (refine idx_intro (by first | omega | (simp; omega) | (simp; done)) (by first | omega | (simp; omega) | (simp; done)) (fun x hx => ?_); conv => whnf)
      | fail
    all_goals (refine congrArg AV.bool ?_; simp [*])
  · cases h
noncomputable def lw_C : Cx := ⟨tb, [], [(10, spAwake), (9, spFar27), (17, spFar), (19, spBeg), (23, spBeg), (20, spCu), (24, spCu), (25, spEnd false), (26, spEnd false), (27, spEnd true), (28, spEnd true), (21, spLeft), (29, spLeft), (11, spMv true), (12, spMv true), (13, spMv false), (14, spMv false), (15, spSeek), (16, spSeek), (18, spPart), (22, spCount)]⟩
theorem lw_D : SpecsOk Try.prog lw_C.specs := .cons awake_ok (.cons far27_ok (.cons far_ok (.cons scBegin_ok (.cons rfBegin_ok (.cons scCheck_ok (.cons rfCheck_ok (.cons scFirst_ok (.cons rfFirst_ok (.cons scLast_ok (.cons rfLast_ok (.cons scLeft_ok (.cons rfLeft_ok (.cons scNext_ok (.cons rfNext_ok (.cons scPrev_ok (.cons rfPrev_ok (.cons scSeek_ok (.cons rfSeek_ok (.cons rfPart_ok (.cons rfCount_ok .nil))))))))))))))))))))
set_option maxRecDepth 100000 in
theorem fnOk_lBe : FnOk Try.prog 8 Try.f8 := ⟨by rfl, by kernel_rfl, by
  show okCode _ _ = true ∧ drawsOk _ = true
  exact ⟨by kernel_rfl, by kernel_rfl⟩⟩
noncomputable abbrev lBe_C : Cx := lw_C
abbrev lBe_D := lw_D
theorem lBe_F : FnsOk Try.prog lBe_C.fns := FnsOk.nil
abbrev lBe_N : Nat := 0
abbrev lBe_T : List Ty := [viewT, cuT]
abbrev lBe_FN := fnOk_lBe
theorem eqCu_refl (x : cuT.El) : eqT cuT x x = true := by
  show ((sEq x.1.1 x.1.1 && (sEq x.1.2.1 x.1.2.1 && (x.1.2.2.1 == x.1.2.2.1))) && ((x.2.1 == x.2.1) && (sEq x.2.2.1 x.2.2.1 && (x.2.2.2.1 == x.2.2.2.1)))) = true
  rw [sEq_refl, sEq_refl, sEq_refl, beq_self_eq_true, beq_self_eq_true, beq_self_eq_true]
  rfl
set_option maxRecDepth 100000 in
set_option maxHeartbeats 8000000 in
theorem lBe' (b : List entT.El) (rs : List runT.El) (lo hi : ByteArray) (bd so : Bool) (key : ByteArray) (af : Bool) : bodyA lBe_C (callN lBe_C lBe_N) Try.f8 [.agg [.lst entT b, .lst runT rs], .agg [.str lo, .str hi, .bool bd, .bool so, .str key, .bool af]] [] (fun v _ => v = .bool true) := by
  conv => whnf
  repeat' first
    | (refine br_true (by first | with_reducible exact rfl | assumption | decide) ?_; conv => whnf)
    | (refine br_false (by first | with_reducible exact rfl | assumption | decide) ?_; conv => whnf)
    | ((with_reducible refine br_kt (by assumption) ?_); conv => whnf)
    | ((with_reducible refine br_kf (by assumption) ?_); conv => whnf)
    | ((with_reducible refine br_nt (by assumption) ?_); conv => whnf)
    | ((with_reducible refine br_nf (by assumption) ?_); conv => whnf)
    | ((with_reducible refine br_et (by assumption) ?_); conv => whnf)
    | ((with_reducible refine br_ef (by assumption) ?_); conv => whnf)
    | ((with_reducible refine br_dec (fun h => ?_) (fun h => ?_)) <;> first | (exfalso; omega) | conv => whnf)
    | ((with_reducible refine br_ndec (fun h => ?_) (fun h => ?_)) <;> first | (exfalso; omega) | conv => whnf)
    | ((with_reducible refine br_ne (fun h => ?_) (fun h => ?_)) <;> first | (exfalso; omega) | conv => whnf)
    | ((with_reducible refine br_eq (fun h => ?_) (fun h => ?_)) <;> first | (exfalso; omega) | conv => whnf)
    | (refine br_intro (fun h => ?_) (fun h => ?_) <;> conv => whnf)
    | (refine need_in (by first | exact trivial | assumption | exact ⟨rfl, Nat.le_refl _⟩ | exact ⟨rfl, rfl⟩ | (simp only [inR]; omega) | omega | (simp only [roomP, true_and, and_true, List.length_take, List.length_drop, List.length_append, List.length_cons, List.length_nil, List.length_set, List.length_replicate]; omega) | (refine ⟨by first | exact trivial | rfl, by first | exact Nat.le_refl _ | omega | (simp; omega), ?_⟩; change roomP _ _ 1; simp only [roomP]; omega) | (change roomP _ _ 1; simp only [roomP]; omega) | (simp; omega) | (simp [inR]; omega) | (simp [inR]; done) | decide | (simp; done)) ?_; conv => whnf)
    | (refine idx_nat (by omega) (fun x hx => ?_); conv => whnf)
    | (refine frz_auto ?_; conv => whnf)
    | (refine draw_plain ?_; conv => whnf)
    | (refine idx_intro (by omega) (by omega) (fun x hx => ?_); conv => whnf)
    | (refine idx_intro (by first | omega | (simp; omega) | (simp; done)) (by first | omega | (simp; omega) | (simp; done)) (fun x hx => ?_); conv => whnf)
    | fail
  all_goals exact absurd h (by rw [eqCu_refl]; decide)
theorem lBe : ∀ es : Ty.Els lBe_T, tyOks lBe_T es → bodyA lBe_C (callN lBe_C lBe_N) Try.f8 (avTs lBe_T es) [] (fun v _ => v = .bool true) := by
  rintro ⟨⟨b, rs, _⟩, ⟨⟨lo, hi, bd, _⟩, so, key, af, _⟩, _⟩ _
  exact lBe' b rs lo hi bd so key af
set_option maxRecDepth 100000 in
theorem fnOk_lMo : FnOk Try.prog 3 Try.f3 := ⟨by rfl, by kernel_rfl, by
  show okCode _ _ = true ∧ drawsOk _ = true
  exact ⟨by kernel_rfl, by kernel_rfl⟩⟩
noncomputable abbrev lMo_C : Cx := lw_C
abbrev lMo_D := lw_D
theorem lMo_F : FnsOk Try.prog lMo_C.fns := FnsOk.nil
abbrev lMo_N : Nat := 0
abbrev lMo_T : List Ty := [viewT, cuT, .str]
abbrev lMo_FN := fnOk_lMo
set_option maxRecDepth 100000 in
set_option maxHeartbeats 8000000 in
theorem lMo' (b : List entT.El) (rs : List runT.El) (lo hi : ByteArray) (bd so : Bool) (key : ByteArray) (af : Bool) (k : ByteArray) : bodyA lMo_C (callN lMo_C lMo_N) Try.f3 [.agg [.lst entT b, .lst runT rs], .agg [.str lo, .str hi, .bool bd, .bool so, .str key, .bool af], .str k] [] (fun v _ => v = .bool true) := by
  conv => whnf
  repeat' first
    | (refine br_true (by first | with_reducible exact rfl | assumption | decide) ?_; conv => whnf)
    | (refine br_false (by first | with_reducible exact rfl | assumption | decide) ?_; conv => whnf)
    | ((with_reducible refine br_kt (by assumption) ?_); conv => whnf)
    | ((with_reducible refine br_kf (by assumption) ?_); conv => whnf)
    | ((with_reducible refine br_nt (by assumption) ?_); conv => whnf)
    | ((with_reducible refine br_nf (by assumption) ?_); conv => whnf)
    | ((with_reducible refine br_et (by assumption) ?_); conv => whnf)
    | ((with_reducible refine br_ef (by assumption) ?_); conv => whnf)
    | ((with_reducible refine br_dec (fun h => ?_) (fun h => ?_)) <;> first | (exfalso; omega) | conv => whnf)
    | ((with_reducible refine br_ndec (fun h => ?_) (fun h => ?_)) <;> first | (exfalso; omega) | conv => whnf)
    | ((with_reducible refine br_ne (fun h => ?_) (fun h => ?_)) <;> first | (exfalso; omega) | conv => whnf)
    | ((with_reducible refine br_eq (fun h => ?_) (fun h => ?_)) <;> first | (exfalso; omega) | conv => whnf)
    | (refine br_intro (fun h => ?_) (fun h => ?_) <;> conv => whnf)
    | (refine need_in (by first | exact trivial | assumption | exact ⟨rfl, Nat.le_refl _⟩ | exact ⟨rfl, rfl⟩ | (simp only [inR]; omega) | omega | (simp only [roomP, true_and, and_true, List.length_take, List.length_drop, List.length_append, List.length_cons, List.length_nil, List.length_set, List.length_replicate]; omega) | (refine ⟨by first | exact trivial | rfl, by first | exact Nat.le_refl _ | omega | (simp; omega), ?_⟩; change roomP _ _ 1; simp only [roomP]; omega) | (change roomP _ _ 1; simp only [roomP]; omega) | (simp; omega) | (simp [inR]; omega) | (simp [inR]; done) | decide | (simp; done)) ?_; conv => whnf)
    | (refine idx_nat (by omega) (fun x hx => ?_); conv => whnf)
    | (refine frz_auto ?_; conv => whnf)
    | (refine draw_plain ?_; conv => whnf)
    | (refine idx_intro (by omega) (by omega) (fun x hx => ?_); conv => whnf)
    | (refine idx_intro (by first | omega | (simp; omega) | (simp; done)) (by first | omega | (simp; omega) | (simp; done)) (fun x hx => ?_); conv => whnf)
    | fail
  all_goals first
    | exact absurd h (by rw [eqCu_refl]; decide)
    | exact absurd h (by rw [eqP_refl]; decide)
theorem lMo : ∀ es : Ty.Els lMo_T, tyOks lMo_T es → bodyA lMo_C (callN lMo_C lMo_N) Try.f3 (avTs lMo_T es) [] (fun v _ => v = .bool true) := by
  rintro ⟨⟨b, rs, _⟩, ⟨⟨lo, hi, bd, _⟩, so, key, af, _⟩, k, _⟩ _
  exact lMo' b rs lo hi bd so key af k
end Go.Proofs.Ytfknchngldknnaa
