/-
  The law of the newest entries.
-/
import Derived.Test.YtmegjnanieafbaaN8
import Derived.Test.YtmegjnanieafbaaGF
namespace Go.Proofs.Ytmegjnanieafbaa
open Av Bk

theorem fnOk_newest : FnOk Try.prog 8 Try.f8 := ⟨by rfl, by kernel_rfl, by
  show okCode _ _ = true ∧ drawsOk _ = true
  exact ⟨by kernel_rfl, by kernel_rfl⟩⟩
noncomputable def newest_C : Cx := ⟨tb, [], [(23, spSort), (24, spNewest), (18, spFilter), (22, spSame), (10, spAwake)]⟩
theorem newest_D : SpecsOk Try.prog newest_C.specs := .cons refSort_ok (.cons refNewest_ok (.cons shFilter_ok (.cons sameEnts_ok (.cons awake_ok .nil))))
theorem newest_F : FnsOk Try.prog newest_C.fns := FnsOk.nil
abbrev newest_N : Nat := 0
abbrev newest_T : List Ty := [.sl entT]
abbrev newest_FN := fnOk_newest
theorem srtd_ok (out : List entT.El) : (if errAll out = 0 then sortX out else []).length ≤ 20000 ∧ (∀ x ∈ (if errAll out = 0 then sortX out else []), errX x = 0) ∧ ascL (if errAll out = 0 then sortX out else []) := by
  split
  · rename_i h
    obtain ⟨h1, h2⟩ := errAll_mem h
    exact ⟨by rw [sortX_len]; omega, fun x hx => h2 x (sortX_mem.1 hx), asc_sort out⟩
  · exact ⟨by simp, by simp, fun i y x h => by simp at h⟩
theorem heap_keep1 {T : TypeId} {t : Ty} {g : Nat} {l m : List t.El} (hl : l = m) : [.arr T t l false g] = [AObj.arr T t m false g] := by
  subst hl
  rfl
set_option maxRecDepth 100000 in
set_option maxHeartbeats 4000000 in
theorem newest : ∀ es : Ty.Els newest_T, tyOks newest_T es → bodyA newest_C (callN newest_C newest_N) Try.f8 (avTs newest_T es) [] (fun v _ => v = .bool true) := by
  rintro ⟨l, _⟩ -
  show bodyA _ _ _ [.lst entT l] [] _
  conv => whnf
  repeat' first
    | (refine br_true (by first | with_reducible exact rfl | assumption | decide) ?_; conv => whnf)
    | (refine br_false (by first | with_reducible exact rfl | assumption | decide) ?_; conv => whnf)
    | (with_reducible refine br_kt (by assumption) ?_; conv => whnf)
    | (with_reducible refine br_kf (by assumption) ?_; conv => whnf)
    | (with_reducible refine br_nt (by assumption) ?_; conv => whnf)
    | (with_reducible refine br_nf (by assumption) ?_; conv => whnf)
    | (with_reducible refine br_et (by assumption) ?_; conv => whnf)
    | (with_reducible refine br_ef (by assumption) ?_; conv => whnf)
    | ((with_reducible refine br_dec (fun h => ?_) (fun h => ?_)) <;> first | (exfalso; omega) | conv => whnf)
    | ((with_reducible refine br_ndec (fun h => ?_) (fun h => ?_)) <;> first | (exfalso; omega) | conv => whnf)
    | ((with_reducible refine br_ne (fun h => ?_) (fun h => ?_)) <;> first | (exfalso; omega) | conv => whnf)
    | ((with_reducible refine br_eq (fun h => ?_) (fun h => ?_)) <;> first | (exfalso; omega) | conv => whnf)
    | (refine br_intro (fun h => ?_) (fun h => ?_) <;> conv => whnf)
    | (refine need_in (by first | exact trivial | assumption | exact ⟨rfl, Nat.le_refl _⟩ | (simp only [inR]; omega) | omega | (simp only [roomP, true_and, and_true, List.length_take, List.length_drop, List.length_append, List.length_cons, List.length_nil, List.length_set, List.length_replicate]; omega) | (refine ⟨by first | exact trivial | rfl, by first | exact Nat.le_refl _ | omega, ?_⟩; change roomP _ _ 1; simp only [roomP]; omega) | (change roomP _ _ 1; simp only [roomP]; omega) | (simp; omega) | (simp; done)) ?_; conv => whnf)
    | (refine idx_nat (by omega) (fun x hx => ?_); conv => whnf)
    | (refine idx_intro (by omega) (by omega) (fun x hx => ?_); conv => whnf)
  refine loop_inv [] [3, 4] (fun vs h => ∃ (i g : Nat) (out : List entT.El), vs = [.own 0 g out.length, .int .i64 (i : Int)] ∧ h = [.arr 25 entT out false g] ∧ i ≤ l.length ∧ out.length = i) (fun vs _ => match vs with | [_, .int _ k] => l.length - k.toNat | _ => 0) ?_
  conv => whnf
  refine ⟨⟨0, 0, [], rfl, rfl, Nat.zero_le _, rfl⟩, ?_⟩
  rintro vs h' - ⟨i, g, out, rfl, rfl, hi, hol⟩
  conv => whnf
  repeat' first
    | (refine br_true (by first | with_reducible exact rfl | assumption | decide) ?_; conv => whnf)
    | (refine br_false (by first | with_reducible exact rfl | assumption | decide) ?_; conv => whnf)
    | (with_reducible refine br_kt (by assumption) ?_; conv => whnf)
    | (with_reducible refine br_kf (by assumption) ?_; conv => whnf)
    | (with_reducible refine br_nt (by assumption) ?_; conv => whnf)
    | (with_reducible refine br_nf (by assumption) ?_; conv => whnf)
    | (with_reducible refine br_et (by assumption) ?_; conv => whnf)
    | (with_reducible refine br_ef (by assumption) ?_; conv => whnf)
    | ((with_reducible refine br_dec (fun h => ?_) (fun h => ?_)) <;> first | (exfalso; omega) | conv => whnf)
    | ((with_reducible refine br_ndec (fun h => ?_) (fun h => ?_)) <;> first | (exfalso; omega) | conv => whnf)
    | ((with_reducible refine br_ne (fun h => ?_) (fun h => ?_)) <;> first | (exfalso; omega) | conv => whnf)
    | ((with_reducible refine br_eq (fun h => ?_) (fun h => ?_)) <;> first | (exfalso; omega) | conv => whnf)
    | (refine br_intro (fun h => ?_) (fun h => ?_) <;> conv => whnf)
    | (refine need_in (by first | exact trivial | assumption | exact ⟨rfl, Nat.le_refl _⟩ | (simp only [inR]; omega) | omega | (simp only [roomP, true_and, and_true, List.length_take, List.length_drop, List.length_append, List.length_cons, List.length_nil, List.length_set, List.length_replicate]; omega) | (refine ⟨by first | exact trivial | rfl, by first | exact Nat.le_refl _ | omega, ?_⟩; change roomP _ _ 1; simp only [roomP]; omega) | (change roomP _ _ 1; simp only [roomP]; omega) | (simp; omega) | (simp; done)) ?_; conv => whnf)
    | (refine idx_nat (by omega) (fun x hx => ?_); conv => whnf)
    | (refine idx_intro (by omega) (by omega) (fun x hx => ?_); conv => whnf)
  · refine back_intro (by conv => whnf) rfl ⟨i + 1, g + 1, out ++ [mkE x.1 x.2.1 x.2.2.1 ((i : Int) + 1)], own_eq ?_, heap_keep1 ?_, by omega, ?_⟩ ?_
    · rw [List.length_append]; rfl
    · simp only [cast_self, List.take_length]; rfl
    · rw [List.length_append, hol]; rfl
    · show l.length - ((i : Int) + 1).toNat < l.length - (i : Int).toNat
      omega
  · refine .mk [.frz 0 [3, 46] []] ?_
    conv => whnf
    refine need_in ⟨rfl, Nat.le_refl _⟩ ?_
    have hs := srtd_ok (out.take out.length)
    have hs2 : (nwF false (if errAll (out.take out.length) = 0 then sortX (out.take out.length) else [])).1.length ≤ 4611686018427387904 := by
      have := nw_len false (if errAll (out.take out.length) = 0 then sortX (out.take out.length) else []) ([], false, ⟨#[]⟩)
      have h0 := hs.1
      simp only [List.length_nil] at this
      exact Nat.le_trans this (by omega)
    conv => whnf
    repeat' first
      | (refine br_true (by first | with_reducible exact rfl | assumption | decide) ?_; conv => whnf)
      | (refine br_false (by first | with_reducible exact rfl | assumption | decide) ?_; conv => whnf)
      | (with_reducible refine br_kt (by assumption) ?_; conv => whnf)
      | (with_reducible refine br_kf (by assumption) ?_; conv => whnf)
      | (with_reducible refine br_nt (by assumption) ?_; conv => whnf)
      | (with_reducible refine br_nf (by assumption) ?_; conv => whnf)
      | (with_reducible refine br_et (by assumption) ?_; conv => whnf)
      | (with_reducible refine br_ef (by assumption) ?_; conv => whnf)
      | ((with_reducible refine br_dec (fun h => ?_) (fun h => ?_)) <;> first | (exfalso; omega) | conv => whnf)
      | ((with_reducible refine br_ndec (fun h => ?_) (fun h => ?_)) <;> first | (exfalso; omega) | conv => whnf)
      | ((with_reducible refine br_ne (fun h => ?_) (fun h => ?_)) <;> first | (exfalso; omega) | conv => whnf)
      | ((with_reducible refine br_eq (fun h => ?_) (fun h => ?_)) <;> first | (exfalso; omega) | conv => whnf)
      | (refine br_intro (fun h => ?_) (fun h => ?_) <;> conv => whnf)
      | (refine need_in (by first | exact trivial | assumption | exact ⟨rfl, Nat.le_refl _⟩ | (simp only [inR]; omega) | omega | (simp only [roomP, true_and, and_true, List.length_take, List.length_drop, List.length_append, List.length_cons, List.length_nil, List.length_set, List.length_replicate]; omega) | (refine ⟨by first | exact trivial | rfl, by first | exact Nat.le_refl _ | omega, ?_⟩; change roomP _ _ 1; simp only [roomP]; omega) | (change roomP _ _ 1; simp only [roomP]; omega) | (simp; omega) | (simp; done)) ?_; conv => whnf)
      | (refine idx_nat (by omega) (fun x hx => ?_); conv => whnf)
      | (refine idx_intro (by omega) (by omega) (fun x hx => ?_); conv => whnf)
    have hsame := same_refl (nwF false (sortX (out.take out.length))).1
    rename_i he
    rw [if_pos he, if_pos he] at h
    exact absurd (hsame.symm.trans h) (by decide)
end Go.Proofs.Ytmegjnanieafbaa
