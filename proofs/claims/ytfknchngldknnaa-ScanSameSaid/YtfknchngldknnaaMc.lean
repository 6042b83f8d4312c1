/-
  Cursors: their faults, by both; the pairs before a place and behind it.
  What comes next to a cursor: plain Lean.
  Moves of a cursor, by the reference.
-/
import Derived.Test.YtfknchngldknnaaLs
import Derived.Test.YtfknchngldknnaaGP
namespace Go.Proofs.Ytfknchngldknnaa
open Av Bk

structure Cu where
  lo : ByteArray
  hi : ByteArray
  bd : Bool
  so : Bool
  key : ByteArray
  af : Bool
abbrev cuA (s : Cu) : AV := .agg [.str s.lo, .str s.hi, .bool s.bd, .bool s.so, .str s.key, .bool s.af]
abbrev zCu : Cu := ⟨⟨#[]⟩, ⟨#[]⟩, false, false, ⟨#[]⟩, false⟩
def riE (b : List entT.El) (rs : List runT.El) (lo hi : ByteArray) (bd : Bool) : Int := if (vcL b rs).2 ≠ 0 then (vcL b rs).2 else rgE lo hi bd
def badS (s : Cu) : Bool := (!s.so && !sEq s.key ⟨#[]⟩) || (s.so && !hasB s.lo s.hi s.bd s.key)
def cuE (b : List entT.El) (rs : List runT.El) (s : Cu) : Int :=
  if riE b rs s.lo s.hi s.bd ≠ 0 then riE b rs s.lo s.hi s.bd else if keyE s.key ≠ 0 then keyE s.key else if badS s = true then 6 else 0
theorem riE_zero {b : List entT.El} {rs : List runT.El} {lo hi : ByteArray} {bd : Bool} (h : riE b rs lo hi bd = 0) : (vcL b rs).2 = 0 ∧ rgE lo hi bd = 0 := by
  unfold riE at h
  split at h
  · rename_i h1; exact absurd h h1
  · rename_i h1; exact ⟨by simpa using h1, h⟩
theorem cuE_zero {b : List entT.El} {rs : List runT.El} {s : Cu} (h : cuE b rs s = 0) : (vcL b rs).2 = 0 ∧ rgE s.lo s.hi s.bd = 0 ∧ keyE s.key = 0 ∧ badS s = false := by
  unfold cuE at h
  split at h
  · rename_i h1; exact absurd h h1
  · rename_i h1
    obtain ⟨h2, h3⟩ := riE_zero (by simpa using h1)
    split at h
    · rename_i h4; exact absurd h h4
    · rename_i h4
      split at h
      · cases h
      · rename_i h5; exact ⟨h2, h3, by simpa using h4, by simpa using h5⟩
def spRi : DSpec
  | [.agg [.lst (.st [.str, .str, .bool, .int .i64]) b, .lst (.st [.int .i64, .sl (.st [.str, .str, .bool, .int .i64])]) rs], .agg [.str lo, .str hi, .bool bd]] => some (True, .int .i64 (riE b rs lo hi bd))
  | _ => none
set_option maxRecDepth 100000 in
theorem fnOk_scCheck0 : FnOk Try.prog 45 Try.f45 := ⟨by rfl, by kernel_rfl, by
  show okCode _ _ = true ∧ drawsOk _ = true
  exact ⟨by kernel_rfl, by kernel_rfl⟩⟩
set_option maxRecDepth 100000 in
theorem fnOk_rfRight : FnOk Try.prog 48 Try.f48 := ⟨by rfl, by kernel_rfl, by
  show okCode _ _ = true ∧ drawsOk _ = true
  exact ⟨by kernel_rfl, by kernel_rfl⟩⟩
noncomputable def cma1 : Cx := ⟨tb, [], [(63, spVC), (56, spRg)]⟩
theorem sma1 : SpecsOk Try.prog cma1.specs := .cons verC_ok (.cons keysRg_ok .nil)
noncomputable def cma2 : Cx := ⟨tb, [], [(42, spVC), (43, spRg)]⟩
theorem sma2 : SpecsOk Try.prog cma2.specs := .cons ref25C_ok (.cons ref02Rg_ok .nil)
set_option maxRecDepth 100000 in
theorem scCheck0_ok : SpecOk Try.prog 45 spRi := by
  refine spec_body (C := cma1) mixed tbOk sma1 (callN_ok (C := cma1) mixed tbOk sma1 FnsOk.nil 3) fnOk_scCheck0 ?_
  intro ys p r h hp
  unfold spRi at h
  split at h
  · rename_i b rs lo hi bd
    cases h
    conv => whnf
    repeat' first
      | (refine br_true (by first | with_reducible exact rfl | assumption | decide) ?_; conv => whnf)
      | (refine br_false (by first | with_reducible exact rfl | assumption | decide) ?_; conv => whnf)
      | ((with_reducible refine br_kt (by assumption) ?_); conv => whnf)
      | ((with_reducible refine br_kf (by assumption) ?_); conv => whnf)
      | ((with_reducible refine br_nt (by assumption) ?_); conv => whnf)
      | ((with_reducible refine br_nf (by assumption) ?_); conv => whnf)
      | ((with_reducible refine br_et (by assumption) ?_); conv => whnf)
      | ((with_reducible refine br_ef (by assumption) ?_); conv => whnf)
      | ((with_reducible refine br_dec (fun h => ?_) (fun h => ?_)) <;> first | (exfalso; omega) | conv => whnf)
      | ((with_reducible refine br_ndec (fun h => ?_) (fun h => ?_)) <;> first | (exfalso; omega) | conv => whnf)
      | ((with_reducible refine br_ne (fun h => ?_) (fun h => ?_)) <;> first | (exfalso; omega) | conv => whnf)
      | ((with_reducible refine br_eq (fun h => ?_) (fun h => ?_)) <;> first | (exfalso; omega) | conv => whnf)
      | (refine br_intro (fun h => ?_) (fun h => ?_) <;> conv => whnf)
      | (refine need_in (by first | exact trivial | assumption | exact ⟨rfl, Nat.le_refl _⟩ | exact ⟨rfl, rfl⟩ | (simp only [inR]; omega) | omega | (simp only [roomP, true_and, and_true, List.length_take, List.length_drop, List.length_append, List.length_cons, List.length_nil, List.length_set, List.length_replicate]; omega) | (refine ⟨by first | exact trivial | rfl, by first | exact Nat.le_refl _ | omega | (simp; omega), ?_⟩; change roomP _ _ 1; simp only [roomP]; omega) | (change roomP _ _ 1; simp only [roomP]; omega) | (simp; omega) | (simp [inR]; omega) | (simp [inR]; done) | decide | (simp; done)) ?_; conv => whnf)
      | (refine idx_nat (by omega) (fun x hx => ?_); conv => whnf)
      | (refine frz_auto ?_; conv => whnf)
      | (refine draw_plain ?_; conv => whnf)
      | (refine idx_intro (by omega) (by omega) (fun x hx => ?_); conv => whnf)
      | (refine idx_intro (by first | omega | (simp; omega) | (simp; done)) (by first | omega | (simp; omega) | (simp; done)) (fun x hx => ?_); conv => whnf)
      | fail
    all_goals (refine congrArg (AV.int .i64) ?_; simp [riE, *])
  · cases h
set_option maxRecDepth 100000 in
theorem rfRight_ok : SpecOk Try.prog 48 spRi := by
  refine spec_body (C := cma2) mixed tbOk sma2 (callN_ok (C := cma2) mixed tbOk sma2 FnsOk.nil 3) fnOk_rfRight ?_
  intro ys p r h hp
  unfold spRi at h
  split at h
  · rename_i b rs lo hi bd
    cases h
    conv => whnf
    repeat' first
      | (refine br_true (by first | with_reducible exact rfl | assumption | decide) ?_; conv => whnf)
      | (refine br_false (by first | with_reducible exact rfl | assumption | decide) ?_; conv => whnf)
      | ((with_reducible refine br_kt (by assumption) ?_); conv => whnf)
      | ((with_reducible refine br_kf (by assumption) ?_); conv => whnf)
      | ((with_reducible refine br_nt (by assumption) ?_); conv => whnf)
      | ((with_reducible refine br_nf (by assumption) ?_); conv => whnf)
      | ((with_reducible refine br_et (by assumption) ?_); conv => whnf)
      | ((with_reducible refine br_ef (by assumption) ?_); conv => whnf)
      | ((with_reducible refine br_dec (fun h => ?_) (fun h => ?_)) <;> first | (exfalso; omega) | conv => whnf)
      | ((with_reducible refine br_ndec (fun h => ?_) (fun h => ?_)) <;> first | (exfalso; omega) | conv => whnf)
      | ((with_reducible refine br_ne (fun h => ?_) (fun h => ?_)) <;> first | (exfalso; omega) | conv => whnf)
      | ((with_reducible refine br_eq (fun h => ?_) (fun h => ?_)) <;> first | (exfalso; omega) | conv => whnf)
      | (refine br_intro (fun h => ?_) (fun h => ?_) <;> conv => whnf)
      | (refine need_in (by first | exact trivial | assumption | exact ⟨rfl, Nat.le_refl _⟩ | exact ⟨rfl, rfl⟩ | (simp only [inR]; omega) | omega | (simp only [roomP, true_and, and_true, List.length_take, List.length_drop, List.length_append, List.length_cons, List.length_nil, List.length_set, List.length_replicate]; omega) | (refine ⟨by first | exact trivial | rfl, by first | exact Nat.le_refl _ | omega | (simp; omega), ?_⟩; change roomP _ _ 1; simp only [roomP]; omega) | (change roomP _ _ 1; simp only [roomP]; omega) | (simp; omega) | (simp [inR]; omega) | (simp [inR]; done) | decide | (simp; done)) ?_; conv => whnf)
      | (refine idx_nat (by omega) (fun x hx => ?_); conv => whnf)
      | (refine frz_auto ?_; conv => whnf)
      | (refine draw_plain ?_; conv => whnf)
      | (refine idx_intro (by omega) (by omega) (fun x hx => ?_); conv => whnf)
      | (refine idx_intro (by first | omega | (simp; omega) | (simp; done)) (by first | omega | (simp; omega) | (simp; done)) (fun x hx => ?_); conv => whnf)
      | fail
    all_goals (refine congrArg (AV.int .i64) ?_; simp [riE, *])
  · cases h
def spCu : DSpec
  | [.agg [.lst (.st [.str, .str, .bool, .int .i64]) b, .lst (.st [.int .i64, .sl (.st [.str, .str, .bool, .int .i64])]) rs], .agg [.str lo, .str hi, .bool bd, .bool so, .str key, .bool af]] => some (True, .int .i64 (cuE b rs ⟨lo, hi, bd, so, key, af⟩))
  | _ => none
set_option maxRecDepth 100000 in
theorem fnOk_scCheck : FnOk Try.prog 20 Try.f20 := ⟨by rfl, by kernel_rfl, by
  show okCode _ _ = true ∧ drawsOk _ = true
  exact ⟨by kernel_rfl, by kernel_rfl⟩⟩
set_option maxRecDepth 100000 in
theorem fnOk_rfCheck : FnOk Try.prog 24 Try.f24 := ⟨by rfl, by kernel_rfl, by
  show okCode _ _ = true ∧ drawsOk _ = true
  exact ⟨by kernel_rfl, by kernel_rfl⟩⟩
noncomputable def cma3 : Cx := ⟨tb, [], [(45, spRi), (46, spKey), (39, spIn)]⟩
theorem sma3 : SpecsOk Try.prog cma3.specs := .cons scCheck0_ok (.cons keysCheck_ok (.cons keysIn_ok .nil))
noncomputable def cma4 : Cx := ⟨tb, [], [(48, spRi), (40, spKey), (41, spHas)]⟩
theorem sma4 : SpecsOk Try.prog cma4.specs := .cons rfRight_ok (.cons ref02C_ok (.cons ref02Has_ok .nil))
theorem inE_of {lo hi k : ByteArray} {bd : Bool} (h : rgE lo hi bd = 0) (hk : keyE k = 0) : inE lo hi bd k = 0 := by unfold inE; rw [if_neg (by simp [h]), hk]
set_option maxRecDepth 100000 in
theorem scCheck_ok : SpecOk Try.prog 20 spCu := by
  refine spec_body (C := cma3) mixed tbOk sma3 (callN_ok (C := cma3) mixed tbOk sma3 FnsOk.nil 3) fnOk_scCheck ?_
  intro ys p r h hp
  unfold spCu at h
  split at h
  · rename_i b rs lo hi bd so key af
    cases h
    by_cases hr : riE b rs lo hi bd = 0
    · by_cases hk : keyE key = 0
      · have hc : cuE b rs ⟨lo, hi, bd, so, key, af⟩ = if badS ⟨lo, hi, bd, so, key, af⟩ = true then 6 else 0 := by unfold cuE; rw [if_neg (by simp [hr]), if_neg (by simp [hk])]
        have hk2 : (bif decide (32 < (key.size : Int)) then (3 : Int) else 0) = 0 := hk
        have hi0 := inE_of (riE_zero hr).2 hk
        rw [hc]
        conv => whnf
        repeat' first
          | (refine br_true (by first | with_reducible exact rfl | assumption | decide) ?_; conv => whnf)
          | (refine br_false (by first | with_reducible exact rfl | assumption | decide) ?_; conv => whnf)
          | ((with_reducible refine br_kt (by assumption) ?_); conv => whnf)
          | ((with_reducible refine br_kf (by assumption) ?_); conv => whnf)
          | ((with_reducible refine br_nt (by assumption) ?_); conv => whnf)
          | ((with_reducible refine br_nf (by assumption) ?_); conv => whnf)
          | ((with_reducible refine br_et (by assumption) ?_); conv => whnf)
          | ((with_reducible refine br_ef (by assumption) ?_); conv => whnf)
          | ((with_reducible refine br_dec (fun h => ?_) (fun h => ?_)) <;> first | (exfalso; omega) | conv => whnf)
          | ((with_reducible refine br_ndec (fun h => ?_) (fun h => ?_)) <;> first | (exfalso; omega) | conv => whnf)
          | ((with_reducible refine br_ne (fun h => ?_) (fun h => ?_)) <;> first | (exfalso; omega) | conv => whnf)
          | ((with_reducible refine br_eq (fun h => ?_) (fun h => ?_)) <;> first | (exfalso; omega) | conv => whnf)
          | (refine br_intro (fun h => ?_) (fun h => ?_) <;> conv => whnf)
          | (refine need_in (by first | exact trivial | assumption | exact ⟨rfl, Nat.le_refl _⟩ | exact ⟨rfl, rfl⟩ | (simp only [inR]; omega) | omega | (simp only [roomP, true_and, and_true, List.length_take, List.length_drop, List.length_append, List.length_cons, List.length_nil, List.length_set, List.length_replicate]; omega) | (refine ⟨by first | exact trivial | rfl, by first | exact Nat.le_refl _ | omega | (simp; omega), ?_⟩; change roomP _ _ 1; simp only [roomP]; omega) | (change roomP _ _ 1; simp only [roomP]; omega) | (simp; omega) | (simp [inR]; omega) | (simp [inR]; done) | decide | (simp; done)) ?_; conv => whnf)
          | (refine idx_nat (by omega) (fun x hx => ?_); conv => whnf)
          | (refine frz_auto ?_; conv => whnf)
          | (refine draw_plain ?_; conv => whnf)
          | (refine idx_intro (by omega) (by omega) (fun x hx => ?_); conv => whnf)
          | (refine idx_intro (by first | omega | (simp; omega) | (simp; done)) (by first | omega | (simp; omega) | (simp; done)) (fun x hx => ?_); conv => whnf)
          | fail
        all_goals (refine congrArg (AV.int .i64) ?_; cases so <;> simp_all [badS])
      · have hc : cuE b rs ⟨lo, hi, bd, so, key, af⟩ = keyE key := by unfold cuE; rw [if_neg (by simp [hr]), if_pos hk]
        have hk2 : (bif decide (32 < (key.size : Int)) then (3 : Int) else 0) ≠ 0 := hk
        rw [hc]
        conv => whnf
        repeat' first
          | (refine br_true (by first | with_reducible exact rfl | assumption | decide) ?_; conv => whnf)
          | (refine br_false (by first | with_reducible exact rfl | assumption | decide) ?_; conv => whnf)
          | ((with_reducible refine br_kt (by assumption) ?_); conv => whnf)
          | ((with_reducible refine br_kf (by assumption) ?_); conv => whnf)
          | ((with_reducible refine br_nt (by assumption) ?_); conv => whnf)
          | ((with_reducible refine br_nf (by assumption) ?_); conv => whnf)
          | ((with_reducible refine br_et (by assumption) ?_); conv => whnf)
          | ((with_reducible refine br_ef (by assumption) ?_); conv => whnf)
          | ((with_reducible refine br_dec (fun h => ?_) (fun h => ?_)) <;> first | (exfalso; omega) | conv => whnf)
          | ((with_reducible refine br_ndec (fun h => ?_) (fun h => ?_)) <;> first | (exfalso; omega) | conv => whnf)
          | ((with_reducible refine br_ne (fun h => ?_) (fun h => ?_)) <;> first | (exfalso; omega) | conv => whnf)
          | ((with_reducible refine br_eq (fun h => ?_) (fun h => ?_)) <;> first | (exfalso; omega) | conv => whnf)
          | (refine br_intro (fun h => ?_) (fun h => ?_) <;> conv => whnf)
          | (refine need_in (by first | exact trivial | assumption | exact ⟨rfl, Nat.le_refl _⟩ | exact ⟨rfl, rfl⟩ | (simp only [inR]; omega) | omega | (simp only [roomP, true_and, and_true, List.length_take, List.length_drop, List.length_append, List.length_cons, List.length_nil, List.length_set, List.length_replicate]; omega) | (refine ⟨by first | exact trivial | rfl, by first | exact Nat.le_refl _ | omega | (simp; omega), ?_⟩; change roomP _ _ 1; simp only [roomP]; omega) | (change roomP _ _ 1; simp only [roomP]; omega) | (simp; omega) | (simp [inR]; omega) | (simp [inR]; done) | decide | (simp; done)) ?_; conv => whnf)
          | (refine idx_nat (by omega) (fun x hx => ?_); conv => whnf)
          | (refine frz_auto ?_; conv => whnf)
          | (refine draw_plain ?_; conv => whnf)
          | (refine idx_intro (by omega) (by omega) (fun x hx => ?_); conv => whnf)
          | (refine idx_intro (by first | omega | (simp; omega) | (simp; done)) (by first | omega | (simp; omega) | (simp; done)) (fun x hx => ?_); conv => whnf)
          | fail
        all_goals rfl
    · have hc : cuE b rs ⟨lo, hi, bd, so, key, af⟩ = riE b rs lo hi bd := by unfold cuE; rw [if_pos hr]
      rw [hc]
      conv => whnf
      repeat' first
        | (refine br_true (by first | with_reducible exact rfl | assumption | decide) ?_; conv => whnf)
        | (refine br_false (by first | with_reducible exact rfl | assumption | decide) ?_; conv => whnf)
        | ((with_reducible refine br_kt (by assumption) ?_); conv => whnf)
        | ((with_reducible refine br_kf (by assumption) ?_); conv => whnf)
        | ((with_reducible refine br_nt (by assumption) ?_); conv => whnf)
        | ((with_reducible refine br_nf (by assumption) ?_); conv => whnf)
        | ((with_reducible refine br_et (by assumption) ?_); conv => whnf)
        | ((with_reducible refine br_ef (by assumption) ?_); conv => whnf)
        | ((with_reducible refine br_dec (fun h => ?_) (fun h => ?_)) <;> first | (exfalso; omega) | conv => whnf)
        | ((with_reducible refine br_ndec (fun h => ?_) (fun h => ?_)) <;> first | (exfalso; omega) | conv => whnf)
        | ((with_reducible refine br_ne (fun h => ?_) (fun h => ?_)) <;> first | (exfalso; omega) | conv => whnf)
        | ((with_reducible refine br_eq (fun h => ?_) (fun h => ?_)) <;> first | (exfalso; omega) | conv => whnf)
        | (refine br_intro (fun h => ?_) (fun h => ?_) <;> conv => whnf)
        | (refine need_in (by first | exact trivial | assumption | exact ⟨rfl, Nat.le_refl _⟩ | exact ⟨rfl, rfl⟩ | (simp only [inR]; omega) | omega | (simp only [roomP, true_and, and_true, List.length_take, List.length_drop, List.length_append, List.length_cons, List.length_nil, List.length_set, List.length_replicate]; omega) | (refine ⟨by first | exact trivial | rfl, by first | exact Nat.le_refl _ | omega | (simp; omega), ?_⟩; change roomP _ _ 1; simp only [roomP]; omega) | (change roomP _ _ 1; simp only [roomP]; omega) | (simp; omega) | (simp [inR]; omega) | (simp [inR]; done) | decide | (simp; done)) ?_; conv => whnf)
        | (refine idx_nat (by omega) (fun x hx => ?_); conv => whnf)
        | (refine frz_auto ?_; conv => whnf)
        | (refine draw_plain ?_; conv => whnf)
        | (refine idx_intro (by omega) (by omega) (fun x hx => ?_); conv => whnf)
        | (refine idx_intro (by first | omega | (simp; omega) | (simp; done)) (by first | omega | (simp; omega) | (simp; done)) (fun x hx => ?_); conv => whnf)
        | fail
  · cases h
set_option maxRecDepth 100000 in
theorem rfCheck_ok : SpecOk Try.prog 24 spCu := by
  refine spec_body (C := cma4) mixed tbOk sma4 (callN_ok (C := cma4) mixed tbOk sma4 FnsOk.nil 3) fnOk_rfCheck ?_
  intro ys p r h hp
  unfold spCu at h
  split at h
  · rename_i b rs lo hi bd so key af
    cases h
    by_cases hr : riE b rs lo hi bd = 0
    · by_cases hk : keyE key = 0
      · have hc : cuE b rs ⟨lo, hi, bd, so, key, af⟩ = if badS ⟨lo, hi, bd, so, key, af⟩ = true then 6 else 0 := by unfold cuE; rw [if_neg (by simp [hr]), if_neg (by simp [hk])]
        have hk2 : (bif decide (32 < (key.size : Int)) then (3 : Int) else 0) = 0 := hk
        have hks := keyE_sz hk
        rw [hc]
        cases so
        all_goals
          conv => whnf
          repeat' first
            | (refine br_true (by first | with_reducible exact rfl | assumption | decide) ?_; conv => whnf)
            | (refine br_false (by first | with_reducible exact rfl | assumption | decide) ?_; conv => whnf)
            | ((with_reducible refine br_kt (by assumption) ?_); conv => whnf)
            | ((with_reducible refine br_kf (by assumption) ?_); conv => whnf)
            | ((with_reducible refine br_nt (by assumption) ?_); conv => whnf)
            | ((with_reducible refine br_nf (by assumption) ?_); conv => whnf)
            | ((with_reducible refine br_et (by assumption) ?_); conv => whnf)
            | ((with_reducible refine br_ef (by assumption) ?_); conv => whnf)
            | ((with_reducible refine br_dec (fun h => ?_) (fun h => ?_)) <;> first | (exfalso; omega) | conv => whnf)
            | ((with_reducible refine br_ndec (fun h => ?_) (fun h => ?_)) <;> first | (exfalso; omega) | conv => whnf)
            | ((with_reducible refine br_ne (fun h => ?_) (fun h => ?_)) <;> first | (exfalso; omega) | conv => whnf)
            | ((with_reducible refine br_eq (fun h => ?_) (fun h => ?_)) <;> first | (exfalso; omega) | conv => whnf)
            | (refine br_intro (fun h => ?_) (fun h => ?_) <;> conv => whnf)
            | (refine need_in (by first | exact trivial | assumption | exact ⟨rfl, Nat.le_refl _⟩ | exact ⟨rfl, rfl⟩ | (simp only [inR]; omega) | omega | (simp only [roomP, true_and, and_true, List.length_take, List.length_drop, List.length_append, List.length_cons, List.length_nil, List.length_set, List.length_replicate]; omega) | (refine ⟨by first | exact trivial | rfl, by first | exact Nat.le_refl _ | omega | (simp; omega), ?_⟩; change roomP _ _ 1; simp only [roomP]; omega) | (change roomP _ _ 1; simp only [roomP]; omega) | (simp; omega) | (simp [inR]; omega) | (simp [inR]; done) | decide | (simp; done)) ?_; conv => whnf)
            | (refine idx_nat (by omega) (fun x hx => ?_); conv => whnf)
            | (refine frz_auto ?_; conv => whnf)
            | (refine draw_plain ?_; conv => whnf)
            | (refine idx_intro (by omega) (by omega) (fun x hx => ?_); conv => whnf)
            | (refine idx_intro (by first | omega | (simp; omega) | (simp; done)) (by first | omega | (simp; omega) | (simp; done)) (fun x hx => ?_); conv => whnf)
            | fail
        all_goals (refine congrArg (AV.int .i64) ?_; simp_all [badS])
      · have hc : cuE b rs ⟨lo, hi, bd, so, key, af⟩ = keyE key := by unfold cuE; rw [if_neg (by simp [hr]), if_pos hk]
        have hk2 : (bif decide (32 < (key.size : Int)) then (3 : Int) else 0) ≠ 0 := hk
        rw [hc]
        conv => whnf
        repeat' first
          | (refine br_true (by first | with_reducible exact rfl | assumption | decide) ?_; conv => whnf)
          | (refine br_false (by first | with_reducible exact rfl | assumption | decide) ?_; conv => whnf)
          | ((with_reducible refine br_kt (by assumption) ?_); conv => whnf)
          | ((with_reducible refine br_kf (by assumption) ?_); conv => whnf)
          | ((with_reducible refine br_nt (by assumption) ?_); conv => whnf)
          | ((with_reducible refine br_nf (by assumption) ?_); conv => whnf)
          | ((with_reducible refine br_et (by assumption) ?_); conv => whnf)
          | ((with_reducible refine br_ef (by assumption) ?_); conv => whnf)
          | ((with_reducible refine br_dec (fun h => ?_) (fun h => ?_)) <;> first | (exfalso; omega) | conv => whnf)
          | ((with_reducible refine br_ndec (fun h => ?_) (fun h => ?_)) <;> first | (exfalso; omega) | conv => whnf)
          | ((with_reducible refine br_ne (fun h => ?_) (fun h => ?_)) <;> first | (exfalso; omega) | conv => whnf)
          | ((with_reducible refine br_eq (fun h => ?_) (fun h => ?_)) <;> first | (exfalso; omega) | conv => whnf)
          | (refine br_intro (fun h => ?_) (fun h => ?_) <;> conv => whnf)
          | (refine need_in (by first | exact trivial | assumption | exact ⟨rfl, Nat.le_refl _⟩ | exact ⟨rfl, rfl⟩ | (simp only [inR]; omega) | omega | (simp only [roomP, true_and, and_true, List.length_take, List.length_drop, List.length_append, List.length_cons, List.length_nil, List.length_set, List.length_replicate]; omega) | (refine ⟨by first | exact trivial | rfl, by first | exact Nat.le_refl _ | omega | (simp; omega), ?_⟩; change roomP _ _ 1; simp only [roomP]; omega) | (change roomP _ _ 1; simp only [roomP]; omega) | (simp; omega) | (simp [inR]; omega) | (simp [inR]; done) | decide | (simp; done)) ?_; conv => whnf)
          | (refine idx_nat (by omega) (fun x hx => ?_); conv => whnf)
          | (refine frz_auto ?_; conv => whnf)
          | (refine draw_plain ?_; conv => whnf)
          | (refine idx_intro (by omega) (by omega) (fun x hx => ?_); conv => whnf)
          | (refine idx_intro (by first | omega | (simp; omega) | (simp; done)) (by first | omega | (simp; omega) | (simp; done)) (fun x hx => ?_); conv => whnf)
          | fail
        all_goals rfl
    · have hc : cuE b rs ⟨lo, hi, bd, so, key, af⟩ = riE b rs lo hi bd := by unfold cuE; rw [if_pos hr]
      rw [hc]
      conv => whnf
      repeat' first
        | (refine br_true (by first | with_reducible exact rfl | assumption | decide) ?_; conv => whnf)
        | (refine br_false (by first | with_reducible exact rfl | assumption | decide) ?_; conv => whnf)
        | ((with_reducible refine br_kt (by assumption) ?_); conv => whnf)
        | ((with_reducible refine br_kf (by assumption) ?_); conv => whnf)
        | ((with_reducible refine br_nt (by assumption) ?_); conv => whnf)
        | ((with_reducible refine br_nf (by assumption) ?_); conv => whnf)
        | ((with_reducible refine br_et (by assumption) ?_); conv => whnf)
        | ((with_reducible refine br_ef (by assumption) ?_); conv => whnf)
        | ((with_reducible refine br_dec (fun h => ?_) (fun h => ?_)) <;> first | (exfalso; omega) | conv => whnf)
        | ((with_reducible refine br_ndec (fun h => ?_) (fun h => ?_)) <;> first | (exfalso; omega) | conv => whnf)
        | ((with_reducible refine br_ne (fun h => ?_) (fun h => ?_)) <;> first | (exfalso; omega) | conv => whnf)
        | ((with_reducible refine br_eq (fun h => ?_) (fun h => ?_)) <;> first | (exfalso; omega) | conv => whnf)
        | (refine br_intro (fun h => ?_) (fun h => ?_) <;> conv => whnf)
        | (refine need_in (by first | exact trivial | assumption | exact ⟨rfl, Nat.le_refl _⟩ | exact ⟨rfl, rfl⟩ | (simp only [inR]; omega) | omega | (simp only [roomP, true_and, and_true, List.length_take, List.length_drop, List.length_append, List.length_cons, List.length_nil, List.length_set, List.length_replicate]; omega) | (refine ⟨by first | exact trivial | rfl, by first | exact Nat.le_refl _ | omega | (simp; omega), ?_⟩; change roomP _ _ 1; simp only [roomP]; omega) | (change roomP _ _ 1; simp only [roomP]; omega) | (simp; omega) | (simp [inR]; omega) | (simp [inR]; done) | decide | (simp; done)) ?_; conv => whnf)
        | (refine idx_nat (by omega) (fun x hx => ?_); conv => whnf)
        | (refine frz_auto ?_; conv => whnf)
        | (refine draw_plain ?_; conv => whnf)
        | (refine idx_intro (by omega) (by omega) (fun x hx => ?_); conv => whnf)
        | (refine idx_intro (by first | omega | (simp; omega) | (simp; done)) (by first | omega | (simp; omega) | (simp; done)) (fun x hx => ?_); conv => whnf)
        | fail
  · cases h
end Go.Proofs.Ytfknchngldknnaa
namespace Go.Proofs.Ytfknchngldknnaa
open Av Bk

def befB (s : Cu) (p : pairT.El) : Bool := match s.so with | true => sLt p.1 s.key || (s.af && sEq p.1 s.key) | false => s.af
def hasP (s : Cu) (p : pairT.El) : Bool := hasB s.lo s.hi s.bd p.1
def rgL (b : List entT.El) (rs : List runT.El) (s : Cu) : List pairT.El := (mapL (allE b rs)).filter (hasP s)
def atS (s : Cu) (k : ByteArray) (af : Bool) : Cu := ⟨s.lo, s.hi, s.bd, true, k, af⟩
/-- What a move gives: the pair, the cursor behind it, the error. -/
structure Mv where
  p : pairT.El
  s : Cu
  e : Int
def mvOf (s : Cu) (fw : Bool) (o : Option pairT.El) : Mv := match o with
  | some p => ⟨p, atS s p.1 fw, 0⟩
  | none => ⟨zP, zCu, 12⟩
def nxO (l : List pairT.El) (s : Cu) : Option pairT.El := l.find? (fun p => !befB s p)
def pvO (l : List pairT.El) (s : Cu) : Option pairT.El := lastQ (befB s) l
def nbO (fw : Bool) (l : List pairT.El) (s : Cu) : Option pairT.El := match fw with | true => nxO l s | false => pvO l s
def mvR (b : List entT.El) (rs : List runT.El) (s : Cu) (fw : Bool) : Mv :=
  if cuE b rs s ≠ 0 then ⟨zP, zCu, cuE b rs s⟩ else mvOf s fw (nbO fw (rgL b rs s) s)
theorem bef_down (s : Cu) : downQ (befB s) := by
  intro x y h hy
  unfold befB at hy ⊢
  cases hs : s.so with
  | false => rw [hs] at hy; exact hy
  | true =>
    rw [hs] at hy
    simp only at hy ⊢
    rw [Bool.or_eq_true] at hy
    rcases hy with hy | hy
    · rw [sLt_trans h hy]; rfl
    · rw [Bool.and_eq_true, sEq_iff] at hy
      rw [← hy.2, h]; rfl
theorem rgL_asc (b : List entT.El) (rs : List runT.El) (s : Cu) : ascP (rgL b rs s) := (mapL_asc _).filter _
theorem flt_pos {lo hi : ByteArray} {bd : Bool} {x : pairT.El} {m : List pairT.El} (h : hasB lo hi bd x.1 = true) : (x :: m).filter (fun p : pairT.El => hasB lo hi bd p.1) = x :: m.filter (fun p : pairT.El => hasB lo hi bd p.1) := List.filter_cons_of_pos (p := fun p : pairT.El => hasB lo hi bd p.1) h
theorem flt_neg {lo hi : ByteArray} {bd : Bool} {x : pairT.El} {m : List pairT.El} (h : ¬ hasB lo hi bd x.1 = true) : (x :: m).filter (fun p : pairT.El => hasB lo hi bd p.1) = m.filter (fun p : pairT.El => hasB lo hi bd p.1) := List.filter_cons_of_neg (p := fun p : pairT.El => hasB lo hi bd p.1) h
theorem find_up {m : List pairT.El} (ha : ascP m) {lo hi : ByteArray} {bd : Bool} {q : pairT.El → Bool} (hq : ∀ x y : pairT.El, sLt x.1 y.1 = true → q x = true → q y = true) (hlo : ∀ p, q p = true → sLt p.1 lo = false) :
    (m.filter (fun p => hasB lo hi bd p.1)).find? q = match m.find? q with | some p => if hasB lo hi bd p.1 = true then some p else none | none => none := by
  induction m with
  | nil => rfl
  | cons x m ih =>
    have ha' := List.pairwise_cons.1 ha
    by_cases hx : q x = true
    · rw [List.find?_cons_of_pos hx]
      simp only
      by_cases hb : hasB lo hi bd x.1 = true
      · rw [flt_pos hb, List.find?_cons_of_pos hx, if_pos hb]
      · rw [flt_neg hb, if_neg hb, List.find?_eq_none]
        intro y hy hqy
        have hy := List.mem_filter.1 hy
        have h1 := hlo x hx
        have h2 : hasB lo hi bd y.1 = true := hy.2
        have h3 := ha'.1 y hy.1
        unfold hasB at hb h2
        rw [h1] at hb
        rw [Bool.and_eq_true] at h2
        cases bd with
        | false => simp at hb
        | true =>
          have hxh : sLt x.1 hi = false := by simpa using hb
          have hyh : sLt y.1 hi = true := by simpa using h2.2
          rw [sLt_trans h3 hyh] at hxh
          cases hxh
    · have hn : ¬ q x = true := hx
      rw [List.find?_cons_of_neg hn, ← ih ha'.2]
      by_cases hb : hasB lo hi bd x.1 = true
      · rw [flt_pos hb, List.find?_cons_of_neg hn]
      · rw [flt_neg hb]
theorem last_down {lo hi : ByteArray} {bd : Bool} {q : pairT.El → Bool} (hq : downQ q) (hhi : ∀ p, q p = true → bd = true → sLt p.1 hi = true) : ∀ (m : List pairT.El), ascP m →
    lastQ q (m.filter (fun p => hasB lo hi bd p.1)) = match lastQ q m with | some p => if hasB lo hi bd p.1 = true then some p else none | none => none := by
  refine list_snoc ?_ ?_
  · intro _; rfl
  · intro m x ih ha
    have ha' := List.pairwise_append.1 ha
    have ih := ih ha'.1
    rw [List.filter_append, lastQ_snoc]
    by_cases hx : q x = true
    · rw [if_pos hx]
      simp only
      by_cases hb : hasB lo hi bd x.1 = true
      · rw [if_pos hb, flt_pos hb]
        rw [show List.filter (fun p : pairT.El => hasB lo hi bd p.1) [] = [] from rfl, lastQ_snoc, if_pos hx]
      · rw [if_neg hb, flt_neg hb, show List.filter (fun p : pairT.El => hasB lo hi bd p.1) [] = [] from rfl, List.append_nil]
        cases hl : lastQ q (m.filter (fun p => hasB lo hi bd p.1)) with
        | none => rfl
        | some y =>
          exfalso
          obtain ⟨h1, h2⟩ := lastQ_some _ _ hl
          have h1 := List.mem_filter.1 h1
          have h3 := ha'.2.2 y h1.1 x (by simp)
          have h4 : hasB lo hi bd y.1 = true := h1.2
          unfold hasB at hb h4
          rw [Bool.and_eq_true] at h4
          have hxb : (!bd || sLt x.1 hi) = true := by
            cases bd with
            | false => rfl
            | true => rw [hhi x hx rfl]; rfl
          rw [hxb, Bool.and_true] at hb
          have hxl : sLt x.1 lo = true := by simpa using hb
          have hyl : sLt y.1 lo = false := by simpa using h4.1
          rw [sLt_trans h3 hxl] at hyl
          cases hyl
    · rw [if_neg hx, ← ih]
      by_cases hb : hasB lo hi bd x.1 = true
      · rw [flt_pos hb, show List.filter (fun p : pairT.El => hasB lo hi bd p.1) [] = [] from rfl, lastQ_snoc, if_neg hx]
      · rw [flt_neg hb, show List.filter (fun p : pairT.El => hasB lo hi bd p.1) [] = [] from rfl, List.append_nil]
/-- The nearest pair of the whole map, as the code asks for it. -/
def nearS (m : List pairT.El) (s : Cu) : Bool → Option pairT.El
  | true => match s.so, s.af with
    | true, true => m.find? (fun p => !plcW true s.key p)
    | true, false => m.find? (fun p => !plcW false s.key p)
    | false, true => none
    | false, false => m.find? (fun p => !plcW false s.lo p)
  | false => match s.so, s.af with
    | true, false => lastQ (plcW false s.key) m
    | true, true => lastQ (plcW true s.key) m
    | false, false => none
    | false, true => match s.bd with
      | true => lastQ (plcW false s.hi) m
      | false => lastQ (fun _ => true) (m.filter (hasP s))
theorem find_cong {α : Type} {p q : α → Bool} : ∀ {l : List α}, (∀ x ∈ l, p x = q x) → l.find? p = l.find? q
  | [], _ => rfl
  | x :: l, h => by
    rw [List.find?_cons, List.find?_cons, h x (by simp), find_cong (l := l) (fun y hy => h y (by simp [hy]))]
theorem last_cong {p q : pairT.El → Bool} : ∀ (l : List pairT.El), (∀ x ∈ l, p x = q x) → lastQ p l = lastQ q l := by
  refine list_snoc ?_ ?_
  · intro _; rfl
  · intro l x ih h
    rw [lastQ_snoc, lastQ_snoc, h x (by simp), ih (fun y hy => h y (by simp [hy]))]
theorem bef_so {s : Cu} (h : s.so = true) (p : pairT.El) : befB s p = plcW s.af s.key p := by
  unfold befB
  rw [h]
  cases s.af with
  | false => simp [plcW]
  | true =>
    show (sLt p.1 s.key || (true && sEq p.1 s.key)) = !sLt s.key p.1
    rw [Bool.true_and]
    cases h1 : sLt p.1 s.key with
    | true => rw [sLt_asym h1]; rfl
    | false =>
      cases h2 : sEq p.1 s.key with
      | true => rw [sEq_iff.1 h2, sLt_irrefl]; rfl
      | false => rw [sLt_of h1 (sEq_no.1 h2)]; rfl
theorem plc_up (w : Bool) (k : ByteArray) : ∀ x y : pairT.El, sLt x.1 y.1 = true → (!plcW w k x) = true → (!plcW w k y) = true := by
  intro x y h hx
  cases hy : plcW w k y with
  | false => rfl
  | true => rw [plc_down w k x y h hy] at hx; cases hx
theorem not_plc {w : Bool} {k : ByteArray} {p : pairT.El} (h : (!plcW w k p) = true) : sLt p.1 k = false := by
  cases w with
  | false => simpa [plcW] using h
  | true =>
    have : sLt k p.1 = true := by simpa [plcW] using h
    exact sLt_asym this
theorem near_nx {m : List pairT.El} (ha : ascP m) {s : Cu} (hb : badS s = false) : nxO (m.filter (hasP s)) s = match nearS m s true with | some p => if hasP s p = true then some p else none | none => none := by
  unfold nxO
  have hb2 := hb
  unfold badS at hb
  rw [Bool.or_eq_false_iff] at hb
  cases hs : s.so with
  | true =>
    rw [hs] at hb
    have hk : hasB s.lo s.hi s.bd s.key = true := by simpa using hb.2
    have hkl : sLt s.key s.lo = false := by
      unfold hasB at hk
      rw [Bool.and_eq_true] at hk
      simpa using hk.1
    have h1 : (fun p => !befB s p) = (fun p => !plcW s.af s.key p) := funext fun p => by rw [bef_so hs]
    rw [h1]
    have h2 := find_up ha (lo := s.lo) (hi := s.hi) (bd := s.bd) (plc_up s.af s.key) (fun p hp => bl_ge_trans (not_plc hp) hkl)
    refine Eq.trans h2 ?_
    cases haf : s.af <;> simp only [nearS, hs, haf] <;> rfl
  | false =>
    have h1 : (fun p => !befB s p) = (fun _ : pairT.El => !s.af) := funext fun p => by unfold befB; rw [hs]
    rw [h1]
    cases haf : s.af with
    | true =>
      simp only [nearS, hs, haf]
      rw [List.find?_eq_none]
      intro x _
      decide
    | false =>
      simp only [nearS, hs, haf]
      have h2 := find_up ha (lo := s.lo) (hi := s.hi) (bd := s.bd) (plc_up false s.lo) (fun p hp => not_plc hp)
      refine Eq.trans (find_cong (fun x hx => ?_)) h2
      have hx2 : hasB s.lo s.hi s.bd x.1 = true := (List.mem_filter.1 hx).2
      unfold hasB at hx2
      rw [Bool.and_eq_true] at hx2
      show true = !sLt x.1 s.lo
      exact hx2.1.symm
theorem plc_hi {w : Bool} {k hi : ByteArray} {p : pairT.El} (h : plcW w k p = true) (hk : sLt k hi = true) : sLt p.1 hi = true := by
  cases w with
  | false => exact sLt_trans h hk
  | true =>
    have : sLt k p.1 = false := by simpa [plcW] using h
    cases h2 : sLt p.1 hi with
    | true => rfl
    | false => rw [show sLt k hi = false from bl_ge_trans this h2] at hk; cases hk
theorem near_pv {m : List pairT.El} (ha : ascP m) {s : Cu} (hb : badS s = false) : pvO (m.filter (hasP s)) s = match nearS m s false with | some p => if hasP s p = true then some p else none | none => none := by
  unfold pvO
  unfold badS at hb
  rw [Bool.or_eq_false_iff] at hb
  cases hs : s.so with
  | true =>
    rw [hs] at hb
    have hk : hasB s.lo s.hi s.bd s.key = true := by simpa using hb.2
    have hkh : s.bd = true → sLt s.key s.hi = true := by
      intro hbd
      unfold hasB at hk
      rw [Bool.and_eq_true, hbd] at hk
      simpa using hk.2
    have h1 : befB s = plcW s.af s.key := funext fun p => bef_so hs p
    rw [h1]
    have h2 := last_down (lo := s.lo) (hi := s.hi) (bd := s.bd) (plc_down s.af s.key) (fun p hp hbd => plc_hi hp (hkh hbd)) m ha
    refine Eq.trans h2 ?_
    cases haf : s.af <;> simp only [nearS, hs, haf] <;> rfl
  | false =>
    have h1 : befB s = (fun _ : pairT.El => s.af) := funext fun p => by unfold befB; rw [hs]
    rw [h1]
    cases haf : s.af with
    | false =>
      simp only [nearS, hs, haf]
      cases hl : lastQ (fun _ => false) (m.filter (hasP s)) with
      | none => rfl
      | some p => have := (lastQ_some _ _ hl).2; cases this
    | true =>
      simp only [nearS, hs, haf]
      cases hbd : s.bd with
      | true =>
        simp only
        have h2 := last_down (lo := s.lo) (hi := s.hi) (bd := s.bd) (plc_down false s.hi) (fun p hp _ => hp) m ha
        refine Eq.trans (last_cong _ (fun x hx => ?_)) h2
        have hx2 : hasB s.lo s.hi s.bd x.1 = true := (List.mem_filter.1 hx).2
        unfold hasB at hx2
        rw [Bool.and_eq_true, hbd] at hx2
        show true = sLt x.1 s.hi
        exact (show sLt x.1 s.hi = true by simpa using hx2.2).symm
      | false =>
        simp only
        cases hl : lastQ (fun _ => true) (m.filter (hasP s)) with
        | none => rfl
        | some p =>
          have := (List.mem_filter.1 (lastQ_some _ _ hl).1).2
          simp only
          rw [if_pos this]
end Go.Proofs.Ytfknchngldknnaa
namespace Go.Proofs.Ytfknchngldknnaa
open Av Bk

theorem rgL_part {b : List entT.El} {rs : List runT.El} {s : Cu} (h : riE b rs s.lo s.hi s.bd = 0) : partR b rs s.lo s.hi s.bd = (rgL b rs s, 0) := by
  obtain ⟨h1, h2⟩ := riE_zero h
  exact part_g h1 h2
theorem rgL_len {b : List entT.El} {rs : List runT.El} {s : Cu} (h : riE b rs s.lo s.hi s.bd = 0) : (rgL b rs s).length ≤ 1000000000 := by
  have h1 := (all_len (vcL_zero (riE_zero h).1)).2
  have h2 := mapL_len (allE b rs)
  have h3 := List.length_filter_le (hasP s) (mapL (allE b rs))
  unfold rgL
  omega
def spSplit : DSpec
  | [.agg [.lst (.st [.str, .str, .bool, .int .i64]) b, .lst (.st [.int .i64, .sl (.st [.str, .str, .bool, .int .i64])]) rs], .agg [.str lo, .str hi, .bool bd, .bool so, .str key, .bool af]] =>
    some (riE b rs lo hi bd = 0, .tup [.lst pairT ((rgL b rs ⟨lo, hi, bd, so, key, af⟩).take (nP (befB ⟨lo, hi, bd, so, key, af⟩) (rgL b rs ⟨lo, hi, bd, so, key, af⟩))), .lst pairT ((rgL b rs ⟨lo, hi, bd, so, key, af⟩).drop (nP (befB ⟨lo, hi, bd, so, key, af⟩) (rgL b rs ⟨lo, hi, bd, so, key, af⟩)))])
  | _ => none
set_option maxRecDepth 100000 in
theorem fnOk_rfSplit : FnOk Try.prog 35 Try.f35 := ⟨by rfl, by kernel_rfl, by
  show okCode _ _ = true ∧ drawsOk _ = true
  exact ⟨by kernel_rfl, by kernel_rfl⟩⟩
noncomputable def cmc1 : Cx := ⟨tb, [], [(18, spPart)]⟩
theorem smc1 : SpecsOk Try.prog cmc1.specs := .cons rfPart_ok .nil
theorem two_lst {a b c d : List pairT.El} (h1 : a = c) (h2 : b = d) : AV.tup [.lst pairT a, .lst pairT b] = AV.tup [.lst pairT c, .lst pairT d] := by rw [h1, h2]
theorem split_eq {m : List pairT.El} {i : Nat} : AV.tup [.lst pairT (List.take ((i : Int).toNat - Int.toNat 0) (List.drop (Int.toNat 0) m)), .lst pairT (List.take ((m.length : Int).toNat - (i : Int).toNat) (List.drop (i : Int).toNat m))] = AV.tup [.lst pairT (m.take i), .lst pairT (m.drop i)] := by
  refine two_lst ?_ ?_
  · simp only [Int.toNat_natCast, show Int.toNat 0 = 0 from rfl, Nat.sub_zero, List.drop_zero]
  · simp only [Int.toNat_natCast]
    exact List.take_of_length_le (by simp)
set_option maxRecDepth 100000 in
set_option maxHeartbeats 4000000 in
theorem rfSplit_ok : SpecOk Try.prog 35 spSplit := by
  refine spec_body (C := cmc1) mixed tbOk smc1 (callN_ok (C := cmc1) mixed tbOk smc1 FnsOk.nil 3) fnOk_rfSplit ?_
  intro ys p r h hp
  unfold spSplit at h
  split at h
  · rename_i b rs lo hi bd so key af
    cases h
    have hpr := rgL_part (s := ⟨lo, hi, bd, so, key, af⟩) hp
    have hll := rgL_len (s := ⟨lo, hi, bd, so, key, af⟩) hp
    have hpl : (partR b rs lo hi bd).1 = rgL b rs ⟨lo, hi, bd, so, key, af⟩ := by rw [show partR b rs lo hi bd = _ from hpr]
    rw [← hpl] at hll ⊢
    conv => whnf
    repeat' first
      | (refine br_true (by first | with_reducible exact rfl | assumption | decide) ?_; conv => whnf)
      | (refine br_false (by first | with_reducible exact rfl | assumption | decide) ?_; conv => whnf)
      | ((with_reducible refine br_kt (by assumption) ?_); conv => whnf)
      | ((with_reducible refine br_kf (by assumption) ?_); conv => whnf)
      | ((with_reducible refine br_nt (by assumption) ?_); conv => whnf)
      | ((with_reducible refine br_nf (by assumption) ?_); conv => whnf)
      | ((with_reducible refine br_et (by assumption) ?_); conv => whnf)
      | ((with_reducible refine br_ef (by assumption) ?_); conv => whnf)
      | ((with_reducible refine br_dec (fun h => ?_) (fun h => ?_)) <;> first | (exfalso; omega) | conv => whnf)
      | ((with_reducible refine br_ndec (fun h => ?_) (fun h => ?_)) <;> first | (exfalso; omega) | conv => whnf)
      | ((with_reducible refine br_ne (fun h => ?_) (fun h => ?_)) <;> first | (exfalso; omega) | conv => whnf)
      | ((with_reducible refine br_eq (fun h => ?_) (fun h => ?_)) <;> first | (exfalso; omega) | conv => whnf)
      | (refine br_intro (fun h => ?_) (fun h => ?_) <;> conv => whnf)
      | (refine need_in (by first | exact trivial | assumption | exact ⟨rfl, Nat.le_refl _⟩ | exact ⟨rfl, rfl⟩ | (simp only [inR]; omega) | omega | (simp only [roomP, true_and, and_true, List.length_take, List.length_drop, List.length_append, List.length_cons, List.length_nil, List.length_set, List.length_replicate]; omega) | (refine ⟨by first | exact trivial | rfl, by first | exact Nat.le_refl _ | omega | (simp; omega), ?_⟩; change roomP _ _ 1; simp only [roomP]; omega) | (change roomP _ _ 1; simp only [roomP]; omega) | (simp; omega) | (simp [inR]; omega) | (simp [inR]; done) | decide | (simp; done)) ?_; conv => whnf)
      | (refine idx_nat (by omega) (fun x hx => ?_); conv => whnf)
      | (refine frz_auto ?_; conv => whnf)
      | (refine draw_plain ?_; conv => whnf)
      | (refine idx_intro (by omega) (by omega) (fun x hx => ?_); conv => whnf)
      | (refine idx_intro (by first | omega | (simp; omega) | (simp; done)) (by first | omega | (simp; omega) | (simp; done)) (fun x hx => ?_); conv => whnf)
      | fail
    generalize (partR b rs lo hi bd).1 = m at hll ⊢
    refine loop_inv [] [8] (fun vs h => ∃ i : Nat, vs = [.int .i64 (i : Int)] ∧ h = [.cells 25 [.lst entT b, .lst runT rs], .cells 29 [.str lo, .str hi, .bool bd, .bool so, .str key, .bool af], .arr 33 pairT [] false 0, .arr 33 pairT [] false 0] ∧ i ≤ m.length ∧ ∀ p ∈ m.take i, befB ⟨lo, hi, bd, so, key, af⟩ p = true) (fun vs _ => match vs with | [.int _ k] => m.length - k.toNat | _ => 0) ?_
    conv => whnf
    refine ⟨⟨0, rfl, rfl, by omega, by simp⟩, ?_⟩
    rintro vs h' - ⟨i, rfl, rfl, hi0, hall⟩
    have hfin := nP_at (q := befB ⟨lo, hi, bd, so, key, af⟩) hall hi0
    by_cases hil : i < m.length
    · obtain ⟨x, hx⟩ : ∃ x, m[i]? = some x := ⟨_, List.getElem?_eq_getElem hil⟩
      have hst : befB ⟨lo, hi, bd, so, key, af⟩ x = false → nP (befB ⟨lo, hi, bd, so, key, af⟩) m = i := fun h => hfin (.inr ⟨x, hx, h⟩)
      have hbk : befB ⟨lo, hi, bd, so, key, af⟩ x = true → ∀ p ∈ m.take (i + 1), befB ⟨lo, hi, bd, so, key, af⟩ p = true := fun h => take_succ_all hall hx h
      cases so <;> cases af
      all_goals
        conv => whnf
        repeat' first
          | (refine idx_kn (by assumption) ?_; conv => whnf)
          | (refine idx_ki (by assumption) (by omega) ?_; conv => whnf)
          | (refine br_true (by first | with_reducible exact rfl | assumption | decide) ?_; conv => whnf)
          | (refine br_false (by first | with_reducible exact rfl | assumption | decide) ?_; conv => whnf)
          | ((with_reducible refine br_kt (by assumption) ?_); conv => whnf)
          | ((with_reducible refine br_kf (by assumption) ?_); conv => whnf)
          | ((with_reducible refine br_nt (by assumption) ?_); conv => whnf)
          | ((with_reducible refine br_nf (by assumption) ?_); conv => whnf)
          | ((with_reducible refine br_et (by assumption) ?_); conv => whnf)
          | ((with_reducible refine br_ef (by assumption) ?_); conv => whnf)
          | ((with_reducible refine br_dec (fun h => ?_) (fun h => ?_)) <;> first | (exfalso; omega) | conv => whnf)
          | ((with_reducible refine br_ndec (fun h => ?_) (fun h => ?_)) <;> first | (exfalso; omega) | conv => whnf)
          | ((with_reducible refine br_ne (fun h => ?_) (fun h => ?_)) <;> first | (exfalso; omega) | conv => whnf)
          | ((with_reducible refine br_eq (fun h => ?_) (fun h => ?_)) <;> first | (exfalso; omega) | conv => whnf)
          | (refine br_intro (fun h => ?_) (fun h => ?_) <;> conv => whnf)
          | (refine need_in (by first | exact trivial | assumption | exact ⟨rfl, Nat.le_refl _⟩ | exact ⟨rfl, rfl⟩ | (simp only [inR]; omega) | omega | (simp only [roomP, true_and, and_true, List.length_take, List.length_drop, List.length_append, List.length_cons, List.length_nil, List.length_set, List.length_replicate]; omega) | (refine ⟨by first | exact trivial | rfl, by first | exact Nat.le_refl _ | omega | (simp; omega), ?_⟩; change roomP _ _ 1; simp only [roomP]; omega) | (change roomP _ _ 1; simp only [roomP]; omega) | (simp; omega) | (simp [inR]; omega) | (simp [inR]; done) | decide | (simp; done)) ?_; conv => whnf)
          | (refine idx_nat (by omega) (fun x hx => ?_); conv => whnf)
          | (refine frz_auto ?_; conv => whnf)
          | (refine draw_plain ?_; conv => whnf)
          | (refine idx_intro (by omega) (by omega) (fun x hx => ?_); conv => whnf)
          | (refine idx_intro (by first | omega | (simp; omega) | (simp; done)) (by first | omega | (simp; omega) | (simp; done)) (fun x hx => ?_); conv => whnf)
          | fail
      all_goals first
        | (refine back_intro (by conv => whnf) rfl ⟨i + 1, rfl, rfl, by omega, hbk (by simp_all [befB])⟩ ?_
           show m.length - ((i : Int) + 1).toNat < m.length - (i : Int).toNat
           omega)
        | (rw [hst (by simp_all [befB])]; exact split_eq)
        | skip
    · have hn := hfin (.inl (by omega))
      rw [hn]
      conv => whnf
      repeat' first
        | (refine idx_kn (by assumption) ?_; conv => whnf)
        | (refine idx_ki (by assumption) (by omega) ?_; conv => whnf)
        | (refine br_true (by first | with_reducible exact rfl | assumption | decide) ?_; conv => whnf)
        | (refine br_false (by first | with_reducible exact rfl | assumption | decide) ?_; conv => whnf)
        | ((with_reducible refine br_kt (by assumption) ?_); conv => whnf)
        | ((with_reducible refine br_kf (by assumption) ?_); conv => whnf)
        | ((with_reducible refine br_nt (by assumption) ?_); conv => whnf)
        | ((with_reducible refine br_nf (by assumption) ?_); conv => whnf)
        | ((with_reducible refine br_et (by assumption) ?_); conv => whnf)
        | ((with_reducible refine br_ef (by assumption) ?_); conv => whnf)
        | ((with_reducible refine br_dec (fun h => ?_) (fun h => ?_)) <;> first | (exfalso; omega) | conv => whnf)
        | ((with_reducible refine br_ndec (fun h => ?_) (fun h => ?_)) <;> first | (exfalso; omega) | conv => whnf)
        | ((with_reducible refine br_ne (fun h => ?_) (fun h => ?_)) <;> first | (exfalso; omega) | conv => whnf)
        | ((with_reducible refine br_eq (fun h => ?_) (fun h => ?_)) <;> first | (exfalso; omega) | conv => whnf)
        | (refine br_intro (fun h => ?_) (fun h => ?_) <;> conv => whnf)
        | (refine need_in (by first | exact trivial | assumption | exact ⟨rfl, Nat.le_refl _⟩ | exact ⟨rfl, rfl⟩ | (simp only [inR]; omega) | omega | (simp only [roomP, true_and, and_true, List.length_take, List.length_drop, List.length_append, List.length_cons, List.length_nil, List.length_set, List.length_replicate]; omega) | (refine ⟨by first | exact trivial | rfl, by first | exact Nat.le_refl _ | omega | (simp; omega), ?_⟩; change roomP _ _ 1; simp only [roomP]; omega) | (change roomP _ _ 1; simp only [roomP]; omega) | (simp; omega) | (simp [inR]; omega) | (simp [inR]; done) | decide | (simp; done)) ?_; conv => whnf)
        | (refine idx_nat (by omega) (fun x hx => ?_); conv => whnf)
        | (refine frz_auto ?_; conv => whnf)
        | (refine draw_plain ?_; conv => whnf)
        | (refine idx_intro (by omega) (by omega) (fun x hx => ?_); conv => whnf)
        | (refine idx_intro (by first | omega | (simp; omega) | (simp; done)) (by first | omega | (simp; omega) | (simp; done)) (fun x hx => ?_); conv => whnf)
        | fail
      exact split_eq
  · cases h
def spAt : DSpec
  | [.agg [.str lo, .str hi, .bool bd, .bool _, .str _, .bool _], .str k, .bool af] => some (True, cuA ⟨lo, hi, bd, true, k, af⟩)
  | _ => none
set_option maxRecDepth 100000 in
theorem fnOk_rfAt : FnOk Try.prog 36 Try.f36 := ⟨by rfl, by kernel_rfl, by
  show okCode _ _ = true ∧ drawsOk _ = true
  exact ⟨by kernel_rfl, by kernel_rfl⟩⟩
theorem rfAt_ok : SpecOk Try.prog 36 spAt := by
  refine spec_body (C := cx0) mixed tbOk SpecsOk.nil (callN_ok (C := cx0) mixed tbOk SpecsOk.nil FnsOk.nil 0) fnOk_rfAt ?_
  intro ys p r h hp
  unfold spAt at h
  split at h
  · cases h
    conv => whnf
    repeat' first
      | (refine br_true (by first | with_reducible exact rfl | assumption | decide) ?_; conv => whnf)
      | (refine br_false (by first | with_reducible exact rfl | assumption | decide) ?_; conv => whnf)
      | ((with_reducible refine br_kt (by assumption) ?_); conv => whnf)
      | ((with_reducible refine br_kf (by assumption) ?_); conv => whnf)
      | ((with_reducible refine br_nt (by assumption) ?_); conv => whnf)
      | ((with_reducible refine br_nf (by assumption) ?_); conv => whnf)
      | ((with_reducible refine br_et (by assumption) ?_); conv => whnf)
      | ((with_reducible refine br_ef (by assumption) ?_); conv => whnf)
      | ((with_reducible refine br_dec (fun h => ?_) (fun h => ?_)) <;> first | (exfalso; omega) | conv => whnf)
      | ((with_reducible refine br_ndec (fun h => ?_) (fun h => ?_)) <;> first | (exfalso; omega) | conv => whnf)
      | ((with_reducible refine br_ne (fun h => ?_) (fun h => ?_)) <;> first | (exfalso; omega) | conv => whnf)
      | ((with_reducible refine br_eq (fun h => ?_) (fun h => ?_)) <;> first | (exfalso; omega) | conv => whnf)
      | (refine br_intro (fun h => ?_) (fun h => ?_) <;> conv => whnf)
      | (refine need_in (by first | exact trivial | assumption | exact ⟨rfl, Nat.le_refl _⟩ | exact ⟨rfl, rfl⟩ | (simp only [inR]; omega) | omega | (simp only [roomP, true_and, and_true, List.length_take, List.length_drop, List.length_append, List.length_cons, List.length_nil, List.length_set, List.length_replicate]; omega) | (refine ⟨by first | exact trivial | rfl, by first | exact Nat.le_refl _ | omega | (simp; omega), ?_⟩; change roomP _ _ 1; simp only [roomP]; omega) | (change roomP _ _ 1; simp only [roomP]; omega) | (simp; omega) | (simp [inR]; omega) | (simp [inR]; done) | decide | (simp; done)) ?_; conv => whnf)
      | (refine idx_nat (by omega) (fun x hx => ?_); conv => whnf)
      | (refine frz_auto ?_; conv => whnf)
      | (refine draw_plain ?_; conv => whnf)
      | (refine idx_intro (by omega) (by omega) (fun x hx => ?_); conv => whnf)
      | (refine idx_intro (by first | omega | (simp; omega) | (simp; done)) (by first | omega | (simp; omega) | (simp; done)) (fun x hx => ?_); conv => whnf)
      | fail
  · cases h
abbrev mvA (r : Mv) : AV := .tup [pairA r.p, cuA r.s, .int .i64 r.e]
def spMv (fw : Bool) : DSpec
  | [.agg [.lst (.st [.str, .str, .bool, .int .i64]) b, .lst (.st [.int .i64, .sl (.st [.str, .str, .bool, .int .i64])]) rs], .agg [.str lo, .str hi, .bool bd, .bool so, .str key, .bool af]] => some (True, mvA (mvR b rs ⟨lo, hi, bd, so, key, af⟩ fw))
  | _ => none
theorem mv_eq {r r' : Mv} (h : r = r') : mvA r = mvA r' := by rw [h]
theorem mv_err {b : List entT.El} {rs : List runT.El} {s : Cu} {fw : Bool} (h : cuE b rs s ≠ 0) : mvR b rs s fw = ⟨zP, zCu, cuE b rs s⟩ := by unfold mvR; rw [if_pos h]
theorem mv_ok {b : List entT.El} {rs : List runT.El} {s : Cu} {fw : Bool} (h : cuE b rs s = 0) : mvR b rs s fw = mvOf s fw (nbO fw (rgL b rs s) s) := by unfold mvR; rw [if_neg (by simp [h])]
theorem cuE_ri {b : List entT.El} {rs : List runT.El} {s : Cu} (h : cuE b rs s = 0) : riE b rs s.lo s.hi s.bd = 0 := by
  obtain ⟨h1, h2, _⟩ := cuE_zero h
  unfold riE
  rw [if_neg (by simp [h1]), h2]
theorem mv_none {s : Cu} {fw : Bool} {o : Option pairT.El} (h : o = none) : mvA ⟨zP, zCu, 12⟩ = mvA (mvOf s fw o) := by rw [h]; rfl
theorem mv_some {s : Cu} {fw : Bool} {o : Option pairT.El} {x : pairT.El} (h : o = some x) : mvA ⟨x, atS s x.1 fw, 0⟩ = mvA (mvOf s fw o) := by rw [h]; rfl
theorem nx_drop (l : List pairT.El) (s : Cu) : (l.drop (nP (befB s) l))[0]? = nbO true l s := by
  rw [List.getElem?_drop, Nat.add_zero]
  exact nP_find (befB s) l
theorem pv_take {l : List pairT.El} (ha : ascP l) (s : Cu) : nbO false l s = if nP (befB s) l = 0 then none else l[nP (befB s) l - 1]? := nP_last (bef_down s) l ha
set_option maxRecDepth 100000 in
theorem fnOk_rfNext : FnOk Try.prog 12 Try.f12 := ⟨by rfl, by kernel_rfl, by
  show okCode _ _ = true ∧ drawsOk _ = true
  exact ⟨by kernel_rfl, by kernel_rfl⟩⟩
set_option maxRecDepth 100000 in
theorem fnOk_rfPrev : FnOk Try.prog 14 Try.f14 := ⟨by rfl, by kernel_rfl, by
  show okCode _ _ = true ∧ drawsOk _ = true
  exact ⟨by kernel_rfl, by kernel_rfl⟩⟩
noncomputable def cmc2 : Cx := ⟨tb, [], [(24, spCu), (35, spSplit), (36, spAt)]⟩
theorem smc2 : SpecsOk Try.prog cmc2.specs := .cons rfCheck_ok (.cons rfSplit_ok (.cons rfAt_ok .nil))
set_option maxRecDepth 100000 in
set_option maxHeartbeats 4000000 in
theorem rfNext_ok : SpecOk Try.prog 12 (spMv true) := by
  refine spec_body (C := cmc2) mixed tbOk smc2 (callN_ok (C := cmc2) mixed tbOk smc2 FnsOk.nil 3) fnOk_rfNext ?_
  intro ys p r h hp
  unfold spMv at h
  split at h
  · rename_i b rs lo hi bd so key af
    cases h
    by_cases hc : cuE b rs ⟨lo, hi, bd, so, key, af⟩ = 0
    · have hri : riE b rs lo hi bd = 0 := cuE_ri hc
      have hll := rgL_len (s := ⟨lo, hi, bd, so, key, af⟩) hri
      have hd := nx_drop (rgL b rs ⟨lo, hi, bd, so, key, af⟩) ⟨lo, hi, bd, so, key, af⟩
      rw [mv_ok (fw := true) hc]
      conv => whnf
      repeat' first
        | (refine idx_kn (by assumption) ?_; conv => whnf)
        | (refine idx_ki (by assumption) (by omega) ?_; conv => whnf)
        | (refine br_true (by first | with_reducible exact rfl | assumption | decide) ?_; conv => whnf)
        | (refine br_false (by first | with_reducible exact rfl | assumption | decide) ?_; conv => whnf)
        | ((with_reducible refine br_kt (by assumption) ?_); conv => whnf)
        | ((with_reducible refine br_kf (by assumption) ?_); conv => whnf)
        | ((with_reducible refine br_nt (by assumption) ?_); conv => whnf)
        | ((with_reducible refine br_nf (by assumption) ?_); conv => whnf)
        | ((with_reducible refine br_et (by assumption) ?_); conv => whnf)
        | ((with_reducible refine br_ef (by assumption) ?_); conv => whnf)
        | ((with_reducible refine br_dec (fun h => ?_) (fun h => ?_)) <;> first | (exfalso; omega) | conv => whnf)
        | ((with_reducible refine br_ndec (fun h => ?_) (fun h => ?_)) <;> first | (exfalso; omega) | conv => whnf)
        | ((with_reducible refine br_ne (fun h => ?_) (fun h => ?_)) <;> first | (exfalso; omega) | conv => whnf)
        | ((with_reducible refine br_eq (fun h => ?_) (fun h => ?_)) <;> first | (exfalso; omega) | conv => whnf)
        | (refine br_intro (fun h => ?_) (fun h => ?_) <;> conv => whnf)
        | (refine need_in (by first | exact trivial | assumption | exact ⟨rfl, Nat.le_refl _⟩ | exact ⟨rfl, rfl⟩ | (simp only [inR]; omega) | omega | (simp only [roomP, true_and, and_true, List.length_take, List.length_drop, List.length_append, List.length_cons, List.length_nil, List.length_set, List.length_replicate]; omega) | (refine ⟨by first | exact trivial | rfl, by first | exact Nat.le_refl _ | omega | (simp; omega), ?_⟩; change roomP _ _ 1; simp only [roomP]; omega) | (change roomP _ _ 1; simp only [roomP]; omega) | (simp; omega) | (simp [inR]; omega) | (simp [inR]; done) | decide | (simp; done)) ?_; conv => whnf)
        | (refine idx_nat (by omega) (fun x hx => ?_); conv => whnf)
        | (refine frz_auto ?_; conv => whnf)
        | (refine draw_plain ?_; conv => whnf)
        | (refine idx_intro (by omega) (by omega) (fun x hx => ?_); conv => whnf)
        | (refine idx_intro (by first | omega | (simp; omega) | (simp; done)) (by first | omega | (simp; omega) | (simp; done)) (fun x hx => ?_); conv => whnf)
        | fail
      · refine mv_none ?_
        rw [← hd, List.getElem?_eq_none (by omega)]
      · exact mv_some (s := ⟨lo, hi, bd, so, key, af⟩) (hd.symm.trans hx)
    · rw [mv_err (fw := true) hc]
      conv => whnf
      repeat' first
        | (refine idx_kn (by assumption) ?_; conv => whnf)
        | (refine idx_ki (by assumption) (by omega) ?_; conv => whnf)
        | (refine br_true (by first | with_reducible exact rfl | assumption | decide) ?_; conv => whnf)
        | (refine br_false (by first | with_reducible exact rfl | assumption | decide) ?_; conv => whnf)
        | ((with_reducible refine br_kt (by assumption) ?_); conv => whnf)
        | ((with_reducible refine br_kf (by assumption) ?_); conv => whnf)
        | ((with_reducible refine br_nt (by assumption) ?_); conv => whnf)
        | ((with_reducible refine br_nf (by assumption) ?_); conv => whnf)
        | ((with_reducible refine br_et (by assumption) ?_); conv => whnf)
        | ((with_reducible refine br_ef (by assumption) ?_); conv => whnf)
        | ((with_reducible refine br_dec (fun h => ?_) (fun h => ?_)) <;> first | (exfalso; omega) | conv => whnf)
        | ((with_reducible refine br_ndec (fun h => ?_) (fun h => ?_)) <;> first | (exfalso; omega) | conv => whnf)
        | ((with_reducible refine br_ne (fun h => ?_) (fun h => ?_)) <;> first | (exfalso; omega) | conv => whnf)
        | ((with_reducible refine br_eq (fun h => ?_) (fun h => ?_)) <;> first | (exfalso; omega) | conv => whnf)
        | (refine br_intro (fun h => ?_) (fun h => ?_) <;> conv => whnf)
        | (refine need_in (by first | exact trivial | assumption | exact ⟨rfl, Nat.le_refl _⟩ | exact ⟨rfl, rfl⟩ | (simp only [inR]; omega) | omega | (simp only [roomP, true_and, and_true, List.length_take, List.length_drop, List.length_append, List.length_cons, List.length_nil, List.length_set, List.length_replicate]; omega) | (refine ⟨by first | exact trivial | rfl, by first | exact Nat.le_refl _ | omega | (simp; omega), ?_⟩; change roomP _ _ 1; simp only [roomP]; omega) | (change roomP _ _ 1; simp only [roomP]; omega) | (simp; omega) | (simp [inR]; omega) | (simp [inR]; done) | decide | (simp; done)) ?_; conv => whnf)
        | (refine idx_nat (by omega) (fun x hx => ?_); conv => whnf)
        | (refine frz_auto ?_; conv => whnf)
        | (refine draw_plain ?_; conv => whnf)
        | (refine idx_intro (by omega) (by omega) (fun x hx => ?_); conv => whnf)
        | (refine idx_intro (by first | omega | (simp; omega) | (simp; done)) (by first | omega | (simp; omega) | (simp; done)) (fun x hx => ?_); conv => whnf)
        | fail
      rfl
  · cases h
set_option maxRecDepth 100000 in
set_option maxHeartbeats 4000000 in
theorem rfPrev_ok : SpecOk Try.prog 14 (spMv false) := by
  refine spec_body (C := cmc2) mixed tbOk smc2 (callN_ok (C := cmc2) mixed tbOk smc2 FnsOk.nil 3) fnOk_rfPrev ?_
  intro ys p r h hp
  unfold spMv at h
  split at h
  · rename_i b rs lo hi bd so key af
    cases h
    by_cases hc : cuE b rs ⟨lo, hi, bd, so, key, af⟩ = 0
    · have hri : riE b rs lo hi bd = 0 := cuE_ri hc
      have hll := rgL_len (s := ⟨lo, hi, bd, so, key, af⟩) hri
      have hd := pv_take (rgL_asc b rs ⟨lo, hi, bd, so, key, af⟩) ⟨lo, hi, bd, so, key, af⟩
      have hnl := nP_le (befB ⟨lo, hi, bd, so, key, af⟩) (rgL b rs ⟨lo, hi, bd, so, key, af⟩)
      have htl : ((rgL b rs ⟨lo, hi, bd, so, key, af⟩).take (nP (befB ⟨lo, hi, bd, so, key, af⟩) (rgL b rs ⟨lo, hi, bd, so, key, af⟩))).length = nP (befB ⟨lo, hi, bd, so, key, af⟩) (rgL b rs ⟨lo, hi, bd, so, key, af⟩) := by rw [List.length_take]; omega
      rw [mv_ok (fw := false) hc]
      conv => whnf
      repeat' first
        | (refine idx_kn (by assumption) ?_; conv => whnf)
        | (refine idx_ki (by assumption) (by omega) ?_; conv => whnf)
        | (refine br_true (by first | with_reducible exact rfl | assumption | decide) ?_; conv => whnf)
        | (refine br_false (by first | with_reducible exact rfl | assumption | decide) ?_; conv => whnf)
        | ((with_reducible refine br_kt (by assumption) ?_); conv => whnf)
        | ((with_reducible refine br_kf (by assumption) ?_); conv => whnf)
        | ((with_reducible refine br_nt (by assumption) ?_); conv => whnf)
        | ((with_reducible refine br_nf (by assumption) ?_); conv => whnf)
        | ((with_reducible refine br_et (by assumption) ?_); conv => whnf)
        | ((with_reducible refine br_ef (by assumption) ?_); conv => whnf)
        | ((with_reducible refine br_dec (fun h => ?_) (fun h => ?_)) <;> first | (exfalso; omega) | conv => whnf)
        | ((with_reducible refine br_ndec (fun h => ?_) (fun h => ?_)) <;> first | (exfalso; omega) | conv => whnf)
        | ((with_reducible refine br_ne (fun h => ?_) (fun h => ?_)) <;> first | (exfalso; omega) | conv => whnf)
        | ((with_reducible refine br_eq (fun h => ?_) (fun h => ?_)) <;> first | (exfalso; omega) | conv => whnf)
        | (refine br_intro (fun h => ?_) (fun h => ?_) <;> conv => whnf)
        | (refine need_in (by first | exact trivial | assumption | exact ⟨rfl, Nat.le_refl _⟩ | exact ⟨rfl, rfl⟩ | (simp only [inR]; omega) | omega | (simp only [roomP, true_and, and_true, List.length_take, List.length_drop, List.length_append, List.length_cons, List.length_nil, List.length_set, List.length_replicate]; omega) | (refine ⟨by first | exact trivial | rfl, by first | exact Nat.le_refl _ | omega | (simp; omega), ?_⟩; change roomP _ _ 1; simp only [roomP]; omega) | (change roomP _ _ 1; simp only [roomP]; omega) | (simp; omega) | (simp [inR]; omega) | (simp [inR]; done) | decide | (simp; done)) ?_; conv => whnf)
        | (refine idx_nat (by omega) (fun x hx => ?_); conv => whnf)
        | (refine frz_auto ?_; conv => whnf)
        | (refine draw_plain ?_; conv => whnf)
        | (refine idx_intro (by omega) (by omega) (fun x hx => ?_); conv => whnf)
        | (refine idx_intro (by first | omega | (simp; omega) | (simp; done)) (by first | omega | (simp; omega) | (simp; done)) (fun x hx => ?_); conv => whnf)
        | fail
      · refine mv_none ?_
        rw [hd, if_pos (by omega)]
      · refine mv_some (s := ⟨lo, hi, bd, so, key, af⟩) ?_
        rw [hd, if_neg (by omega)]
        rw [List.getElem?_take] at hx
        split at hx
        · rw [htl] at hx
          rw [← hx]
          congr 1
          omega
        · cases hx
    · rw [mv_err (fw := false) hc]
      conv => whnf
      repeat' first
        | (refine idx_kn (by assumption) ?_; conv => whnf)
        | (refine idx_ki (by assumption) (by omega) ?_; conv => whnf)
        | (refine br_true (by first | with_reducible exact rfl | assumption | decide) ?_; conv => whnf)
        | (refine br_false (by first | with_reducible exact rfl | assumption | decide) ?_; conv => whnf)
        | ((with_reducible refine br_kt (by assumption) ?_); conv => whnf)
        | ((with_reducible refine br_kf (by assumption) ?_); conv => whnf)
        | ((with_reducible refine br_nt (by assumption) ?_); conv => whnf)
        | ((with_reducible refine br_nf (by assumption) ?_); conv => whnf)
        | ((with_reducible refine br_et (by assumption) ?_); conv => whnf)
        | ((with_reducible refine br_ef (by assumption) ?_); conv => whnf)
        | ((with_reducible refine br_dec (fun h => ?_) (fun h => ?_)) <;> first | (exfalso; omega) | conv => whnf)
        | ((with_reducible refine br_ndec (fun h => ?_) (fun h => ?_)) <;> first | (exfalso; omega) | conv => whnf)
        | ((with_reducible refine br_ne (fun h => ?_) (fun h => ?_)) <;> first | (exfalso; omega) | conv => whnf)
        | ((with_reducible refine br_eq (fun h => ?_) (fun h => ?_)) <;> first | (exfalso; omega) | conv => whnf)
        | (refine br_intro (fun h => ?_) (fun h => ?_) <;> conv => whnf)
        | (refine need_in (by first | exact trivial | assumption | exact ⟨rfl, Nat.le_refl _⟩ | exact ⟨rfl, rfl⟩ | (simp only [inR]; omega) | omega | (simp only [roomP, true_and, and_true, List.length_take, List.length_drop, List.length_append, List.length_cons, List.length_nil, List.length_set, List.length_replicate]; omega) | (refine ⟨by first | exact trivial | rfl, by first | exact Nat.le_refl _ | omega | (simp; omega), ?_⟩; change roomP _ _ 1; simp only [roomP]; omega) | (change roomP _ _ 1; simp only [roomP]; omega) | (simp; omega) | (simp [inR]; omega) | (simp [inR]; done) | decide | (simp; done)) ?_; conv => whnf)
        | (refine idx_nat (by omega) (fun x hx => ?_); conv => whnf)
        | (refine frz_auto ?_; conv => whnf)
        | (refine draw_plain ?_; conv => whnf)
        | (refine idx_intro (by omega) (by omega) (fun x hx => ?_); conv => whnf)
        | (refine idx_intro (by first | omega | (simp; omega) | (simp; done)) (by first | omega | (simp; omega) | (simp; done)) (fun x hx => ?_); conv => whnf)
        | fail
      rfl
  · cases h
end Go.Proofs.Ytfknchngldknnaa
