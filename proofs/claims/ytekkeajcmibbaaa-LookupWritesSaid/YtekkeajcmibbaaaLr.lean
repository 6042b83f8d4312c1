/-
  The laws of gets, of near pairs and of parts.
-/
import Derived.Test.YtekkeajcmibbaaaLq
namespace Go.Proofs.Ytekkeajcmibbaaa
open Av Bk

set_option maxRecDepth 100000 in
theorem fnOk_lGe : FnOk Try.prog 3 Try.f3 := ⟨by rfl, by kernel_rfl, by
  show okCode _ _ = true ∧ drawsOk _ = true
  exact ⟨by kernel_rfl, by kernel_rfl⟩⟩
noncomputable def lGe_C : Cx := ⟨tb, [], [(12, spAwake), (11, spFar), (13, spNw), (14, spNw), (15, spGet), (16, spGet)]⟩
theorem lGe_D : SpecsOk Try.prog lGe_C.specs := .cons awake_ok (.cons far_ok (.cons lkNewest_ok (.cons rfNewest_ok (.cons lkGet_ok (.cons rfGet_ok .nil)))))
theorem lGe_F : FnsOk Try.prog lGe_C.fns := FnsOk.nil
abbrev lGe_N : Nat := 0
abbrev lGe_T : List Ty := [viewT, .str]
abbrev lGe_FN := fnOk_lGe
set_option maxRecDepth 100000 in
set_option maxHeartbeats 8000000 in
theorem lGe' (b : List entT.El) (rs : List runT.El) (k : ByteArray) : bodyA lGe_C (callN lGe_C lGe_N) Try.f3 [.agg [.lst entT b, .lst runT rs], .str k] [] (fun v _ => v = .bool true) := by
  conv => whnf
  repeat' first
    | (refine br_true (by first | with_reducible exact rfl | assumption | decide) ?_; conv => whnf)
    | (refine br_false (by first | with_reducible exact rfl | assumption | decide) ?_; conv => whnf)
    | ((with_reducible refine br_kt (by assumption) ?_); conv => whnf)
    | ((with_reducible refine br_kf (by assumption) ?_); conv => whnf)
    | ((with_reducible refine br_nt (by assumption) ?_); conv => whnf)
    | ((with_reducible refine br_nf (by assumption) ?_); conv => whnf)
    | ((with_reducible refine br_et (by assumption) ?_); conv => whnf)
    | ((with_reducible refine br_ef (by assumption) ?_); conv => whnf)
    | ((with_reducible refine br_dec (fun h => ?_) (fun h => ?_)) <;> first | (exfalso; omega) | conv => whnf)
    | ((with_reducible refine br_ndec (fun h => ?_) (fun h => ?_)) <;> first | (exfalso; omega) | conv => whnf)
    | ((with_reducible refine br_ne (fun h => ?_) (fun h => ?_)) <;> first | (exfalso; omega) | conv => whnf)
    | ((with_reducible refine br_eq (fun h => ?_) (fun h => ?_)) <;> first | (exfalso; omega) | conv => whnf)
    | (refine br_intro (fun h => ?_) (fun h => ?_) <;> conv => whnf)
    | (refine need_in (by first | exact trivial | assumption | exact ⟨rfl, Nat.le_refl _⟩ | exact ⟨rfl, rfl⟩ | (simp only [inR]; omega) | omega | (simp only [roomP, true_and, and_true, List.length_take, List.length_drop, List.length_append, List.length_cons, List.length_nil, List.length_set, List.length_replicate]; omega) | (refine ⟨by first | exact trivial | rfl, by first | exact Nat.le_refl _ | omega | (simp; omega), ?_⟩; change roomP _ _ 1; simp only [roomP]; omega) | (change roomP _ _ 1; simp only [roomP]; omega) | (simp; omega) | (simp [inR]; omega) | (simp [inR]; done) | decide | (simp; done)) ?_; conv => whnf)
    | (refine idx_nat (by omega) (fun x hx => ?_); conv => whnf)
    | (refine frz_auto ?_; conv => whnf)
    | (refine draw_plain ?_; conv => whnf)
    | (refine idx_intro (by omega) (by omega) (fun x hx => ?_); conv => whnf)
    | (refine idx_intro (by first | omega | (simp; omega) | (simp; done)) (by first | omega | (simp; omega) | (simp; done)) (fun x hx => ?_); conv => whnf)
    | fail
  all_goals first
    | exact absurd h (by rw [sEq_refl]; decide)
    | exact absurd h (by rw [eqT_refl]; decide)
theorem lGe : ∀ es : Ty.Els lGe_T, tyOks lGe_T es → bodyA lGe_C (callN lGe_C lGe_N) Try.f3 (avTs lGe_T es) [] (fun v _ => v = .bool true) := by
  rintro ⟨⟨b, rs, _⟩, k, _⟩ _
  exact lGe' b rs k
set_option maxRecDepth 100000 in
theorem fnOk_lNe : FnOk Try.prog 9 Try.f9 := ⟨by rfl, by kernel_rfl, by
  show okCode _ _ = true ∧ drawsOk _ = true
  exact ⟨by kernel_rfl, by kernel_rfl⟩⟩
noncomputable def lNe_C : Cx := ⟨tb, [], [(12, spAwake), (11, spFar), (34, spNr true false), (35, spNr true false), (36, spNr false true), (37, spNr false true), (38, spNr false false), (39, spNr false false), (40, spNr true true), (41, spNr true true)]⟩
theorem lNe_D : SpecsOk Try.prog lNe_C.specs := .cons awake_ok (.cons far_ok (.cons lkFloor_ok (.cons rfFloor_ok (.cons lkCeiling_ok (.cons rfCeiling_ok (.cons lkBefore_ok (.cons rfBefore_ok (.cons lkAfter_ok (.cons rfAfter_ok .nil)))))))))
theorem lNe_F : FnsOk Try.prog lNe_C.fns := FnsOk.nil
abbrev lNe_N : Nat := 0
abbrev lNe_T : List Ty := [viewT, .str]
abbrev lNe_FN := fnOk_lNe
set_option maxRecDepth 100000 in
set_option maxHeartbeats 8000000 in
theorem lNe' (b : List entT.El) (rs : List runT.El) (k : ByteArray) : bodyA lNe_C (callN lNe_C lNe_N) Try.f9 [.agg [.lst entT b, .lst runT rs], .str k] [] (fun v _ => v = .bool true) := by
  conv => whnf
  repeat' first
    | (refine br_true (by first | with_reducible exact rfl | assumption | decide) ?_; conv => whnf)
    | (refine br_false (by first | with_reducible exact rfl | assumption | decide) ?_; conv => whnf)
    | ((with_reducible refine br_kt (by assumption) ?_); conv => whnf)
    | ((with_reducible refine br_kf (by assumption) ?_); conv => whnf)
    | ((with_reducible refine br_nt (by assumption) ?_); conv => whnf)
    | ((with_reducible refine br_nf (by assumption) ?_); conv => whnf)
    | ((with_reducible refine br_et (by assumption) ?_); conv => whnf)
    | ((with_reducible refine br_ef (by assumption) ?_); conv => whnf)
    | ((with_reducible refine br_dec (fun h => ?_) (fun h => ?_)) <;> first | (exfalso; omega) | conv => whnf)
    | ((with_reducible refine br_ndec (fun h => ?_) (fun h => ?_)) <;> first | (exfalso; omega) | conv => whnf)
    | ((with_reducible refine br_ne (fun h => ?_) (fun h => ?_)) <;> first | (exfalso; omega) | conv => whnf)
    | ((with_reducible refine br_eq (fun h => ?_) (fun h => ?_)) <;> first | (exfalso; omega) | conv => whnf)
    | (refine br_intro (fun h => ?_) (fun h => ?_) <;> conv => whnf)
    | (refine need_in (by first | exact trivial | assumption | exact ⟨rfl, Nat.le_refl _⟩ | exact ⟨rfl, rfl⟩ | (simp only [inR]; omega) | omega | (simp only [roomP, true_and, and_true, List.length_take, List.length_drop, List.length_append, List.length_cons, List.length_nil, List.length_set, List.length_replicate]; omega) | (refine ⟨by first | exact trivial | rfl, by first | exact Nat.le_refl _ | omega | (simp; omega), ?_⟩; change roomP _ _ 1; simp only [roomP]; omega) | (change roomP _ _ 1; simp only [roomP]; omega) | (simp; omega) | (simp [inR]; omega) | (simp [inR]; done) | decide | (simp; done)) ?_; conv => whnf)
    | (refine idx_nat (by omega) (fun x hx => ?_); conv => whnf)
    | (refine frz_auto ?_; conv => whnf)
    | (refine draw_plain ?_; conv => whnf)
    | (refine idx_intro (by omega) (by omega) (fun x hx => ?_); conv => whnf)
    | (refine idx_intro (by first | omega | (simp; omega) | (simp; done)) (by first | omega | (simp; omega) | (simp; done)) (fun x hx => ?_); conv => whnf)
    | fail
  all_goals first
    | exact absurd h (by rw [sEq_refl]; decide)
    | exact absurd h (by rw [eqP_refl]; decide)
theorem lNe : ∀ es : Ty.Els lNe_T, tyOks lNe_T es → bodyA lNe_C (callN lNe_C lNe_N) Try.f9 (avTs lNe_T es) [] (fun v _ => v = .bool true) := by
  rintro ⟨⟨b, rs, _⟩, k, _⟩ _
  exact lNe' b rs k
set_option maxRecDepth 100000 in
theorem fnOk_lPa : FnOk Try.prog 4 Try.f4 := ⟨by rfl, by kernel_rfl, by
  show okCode _ _ = true ∧ drawsOk _ = true
  exact ⟨by kernel_rfl, by kernel_rfl⟩⟩
noncomputable def lPa_C : Cx := ⟨tb, [], [(12, spAwake), (11, spFar), (17, spPart), (18, spPart), (19, spCount), (20, spCount), (21, spSameP)]⟩
theorem lPa_D : SpecsOk Try.prog lPa_C.specs := .cons awake_ok (.cons far_ok (.cons lkPart_ok (.cons rfPart_ok (.cons lkCount_ok (.cons rfCount_ok (.cons same05_ok .nil))))))
theorem lPa_F : FnsOk Try.prog lPa_C.fns := FnsOk.nil
abbrev lPa_N : Nat := 0
abbrev lPa_T : List Ty := [viewT, .st [.str, .str, .bool]]
abbrev lPa_FN := fnOk_lPa
set_option maxRecDepth 100000 in
set_option maxHeartbeats 8000000 in
theorem lPa' (b : List entT.El) (rs : List runT.El) (lo hi : ByteArray) (bd : Bool) : bodyA lPa_C (callN lPa_C lPa_N) Try.f4 [.agg [.lst entT b, .lst runT rs], .agg [.str lo, .str hi, .bool bd]] [] (fun v _ => v = .bool true) := by
  have hpl := part_len b rs lo hi bd
  conv => whnf
  repeat' first
    | (refine br_true (by first | with_reducible exact rfl | assumption | decide) ?_; conv => whnf)
    | (refine br_false (by first | with_reducible exact rfl | assumption | decide) ?_; conv => whnf)
    | ((with_reducible refine br_kt (by assumption) ?_); conv => whnf)
    | ((with_reducible refine br_kf (by assumption) ?_); conv => whnf)
    | ((with_reducible refine br_nt (by assumption) ?_); conv => whnf)
    | ((with_reducible refine br_nf (by assumption) ?_); conv => whnf)
    | ((with_reducible refine br_et (by assumption) ?_); conv => whnf)
    | ((with_reducible refine br_ef (by assumption) ?_); conv => whnf)
    | ((with_reducible refine br_dec (fun h => ?_) (fun h => ?_)) <;> first | (exfalso; omega) | conv => whnf)
    | ((with_reducible refine br_ndec (fun h => ?_) (fun h => ?_)) <;> first | (exfalso; omega) | conv => whnf)
    | ((with_reducible refine br_ne (fun h => ?_) (fun h => ?_)) <;> first | (exfalso; omega) | conv => whnf)
    | ((with_reducible refine br_eq (fun h => ?_) (fun h => ?_)) <;> first | (exfalso; omega) | conv => whnf)
    | (refine br_intro (fun h => ?_) (fun h => ?_) <;> conv => whnf)
    | (refine need_in (by first | exact trivial | assumption | exact ⟨rfl, Nat.le_refl _⟩ | exact ⟨rfl, rfl⟩ | (simp only [inR]; omega) | omega | (simp only [roomP, true_and, and_true, List.length_take, List.length_drop, List.length_append, List.length_cons, List.length_nil, List.length_set, List.length_replicate]; omega) | (refine ⟨by first | exact trivial | rfl, by first | exact Nat.le_refl _ | omega | (simp; omega), ?_⟩; change roomP _ _ 1; simp only [roomP]; omega) | (change roomP _ _ 1; simp only [roomP]; omega) | (simp; omega) | (simp [inR]; omega) | (simp [inR]; done) | decide | (simp; done)) ?_; conv => whnf)
    | (refine idx_nat (by omega) (fun x hx => ?_); conv => whnf)
    | (refine frz_auto ?_; conv => whnf)
    | (refine draw_plain ?_; conv => whnf)
    | (refine idx_intro (by omega) (by omega) (fun x hx => ?_); conv => whnf)
    | (refine idx_intro (by first | omega | (simp; omega) | (simp; done)) (by first | omega | (simp; omega) | (simp; done)) (fun x hx => ?_); conv => whnf)
    | fail
  all_goals first
    | exact absurd h (by rw [sameP_refl]; decide)
theorem lPa : ∀ es : Ty.Els lPa_T, tyOks lPa_T es → bodyA lPa_C (callN lPa_C lPa_N) Try.f4 (avTs lPa_T es) [] (fun v _ => v = .bool true) := by
  rintro ⟨⟨b, rs, _⟩, ⟨lo, hi, bd, _⟩, _⟩ _
  exact lPa' b rs lo hi bd
end Go.Proofs.Ytekkeajcmibbaaa
