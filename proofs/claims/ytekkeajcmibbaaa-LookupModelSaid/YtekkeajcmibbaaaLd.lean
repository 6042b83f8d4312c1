/-
  Keys in ranges; the error of a view and a key; the order of strings.
-/
import Derived.Test.YtekkeajcmibbaaaLc
namespace Go.Proofs.Ytekkeajcmibbaaa
open Av Bk

theorem ordL_sle {a b : ByteArray} : 0 ≤ ordL a.data.toList b.data.toList ↔ sLt a b = false := ordL_ge
theorem ordL_slt {a b : ByteArray} : ordL a.data.toList b.data.toList < 0 ↔ sLt a b = true := by
  rw [← Int.not_le, ordL_sle]
  simp
theorem sq_no {a : ByteArray} (h : (!sEq a a) = true) : False := by
  rw [sEq_refl] at h
  cases h
def hasB (lo hi : ByteArray) (bd : Bool) (k : ByteArray) : Bool := !sLt k lo && (!bd || sLt k hi)
def inE (lo hi : ByteArray) (bd : Bool) (k : ByteArray) : Int := if rgE lo hi bd ≠ 0 then rgE lo hi bd else keyE k
def spIn : DSpec
  | [.agg [.str lo, .str hi, .bool bd], .str k] => some (True, .tup [.bool (decide (inE lo hi bd k = 0) && hasB lo hi bd k), .int .i64 (inE lo hi bd k)])
  | _ => none
set_option maxRecDepth 100000 in
theorem fnOk_keysIn : FnOk Try.prog 52 Try.f52 := ⟨by rfl, by kernel_rfl, by
  show okCode _ _ = true ∧ drawsOk _ = true
  exact ⟨by kernel_rfl, by kernel_rfl⟩⟩
noncomputable def cxd1 : Cx := ⟨tb, [], [(48, spRg), (72, spKey)]⟩
theorem specsd1 : SpecsOk Try.prog cxd1.specs := .cons keysRg_ok (.cons keysCheck_ok .nil)
set_option maxRecDepth 100000 in
theorem keysIn_ok : SpecOk Try.prog 52 spIn := by
  refine spec_body (C := cxd1) mixed tbOk specsd1 (callN_ok (C := cxd1) mixed tbOk specsd1 FnsOk.nil 3) fnOk_keysIn ?_
  intro ys p r h hp
  unfold spIn at h
  split at h
  · rename_i lo hi bd k
    cases h
    conv => whnf
    repeat' first
      | ((first | refine br_true (by first | with_reducible exact rfl | assumption | decide) ?_ | refine br_false (by first | with_reducible exact rfl | assumption | decide) ?_ | with_reducible first | refine br_kt (by assumption) ?_ | refine br_kf (by assumption) ?_ | refine br_nt (by assumption) ?_ | refine br_nf (by assumption) ?_ | refine br_et (by assumption) ?_ | refine br_ef (by assumption) ?_); conv => whnf)
      | ((with_reducible first | refine br_dec (fun h => ?_) (fun h => ?_) | refine br_ndec (fun h => ?_) (fun h => ?_) | refine br_ne (fun h => ?_) (fun h => ?_) | refine br_eq (fun h => ?_) (fun h => ?_)) <;> first | (exfalso; omega) | conv => whnf)
      | (refine br_intro (fun h => ?_) (fun h => ?_) <;> conv => whnf)
      | ((first | refine need_in (by first | exact trivial | assumption | exact ⟨rfl, Nat.le_refl _⟩ | exact ⟨rfl, rfl⟩ | (simp only [inR]; omega) | omega | (simp only [roomP, true_and, and_true, List.length_take, List.length_drop, List.length_append, List.length_cons, List.length_nil, List.length_set, List.length_replicate]; omega) | (refine ⟨by first | exact trivial | rfl, by first | exact Nat.le_refl _ | omega | (simp; omega), ?_⟩; change roomP _ _ 1; simp only [roomP]; omega) | (change roomP _ _ 1; simp only [roomP]; omega) | (simp; omega) | (simp [inR]; omega) | (simp [inR]; done) | decide | (simp; done)) ?_ | refine idx_nat (by omega) (fun x hx => ?_) | refine frz_auto ?_ | refine draw_plain ?_ | refine idx_intro (by first | omega | (simp; omega) | (simp; done)) (by first | omega | (simp; omega) | (simp; done)) (fun x hx => ?_)); conv => whnf)
    all_goals (cases bd <;> simp_all [inE, keyE, hasB])
  · cases h
def spHas : DSpec
  | [.agg [.str lo, .str hi, .bool bd], .str k] => some ((k.size : Int) ≤ 9223372036854775807, .bool (hasB lo hi bd k))
  | _ => none
set_option maxRecDepth 100000 in
theorem fnOk_ref02Has : FnOk Try.prog 27 Try.f27 := ⟨by rfl, by kernel_rfl, by
  show okCode _ _ = true ∧ drawsOk _ = true
  exact ⟨by kernel_rfl, by kernel_rfl⟩⟩
noncomputable def cxd2 : Cx := ⟨tb, [], [(60, spOrder)]⟩
theorem specsd2 : SpecsOk Try.prog cxd2.specs := .cons refOrder_ok .nil
set_option maxRecDepth 100000 in
theorem ref02Has_ok : SpecOk Try.prog 27 spHas := by
  refine spec_body (C := cxd2) mixed tbOk specsd2 (callN_ok (C := cxd2) mixed tbOk specsd2 FnsOk.nil 3) fnOk_ref02Has ?_
  intro ys p r h hp
  unfold spHas at h
  split at h
  · rename_i lo hi bd k
    cases h
    conv => whnf
    repeat' first
      | ((first | refine br_true (by first | with_reducible exact rfl | assumption | decide) ?_ | refine br_false (by first | with_reducible exact rfl | assumption | decide) ?_ | with_reducible first | refine br_kt (by assumption) ?_ | refine br_kf (by assumption) ?_ | refine br_nt (by assumption) ?_ | refine br_nf (by assumption) ?_ | refine br_et (by assumption) ?_ | refine br_ef (by assumption) ?_); conv => whnf)
      | ((with_reducible first | refine br_dec (fun h => ?_) (fun h => ?_) | refine br_ndec (fun h => ?_) (fun h => ?_) | refine br_ne (fun h => ?_) (fun h => ?_) | refine br_eq (fun h => ?_) (fun h => ?_)) <;> first | (exfalso; omega) | conv => whnf)
      | (refine br_intro (fun h => ?_) (fun h => ?_) <;> conv => whnf)
      | ((first | refine need_in (by first | exact trivial | assumption | exact ⟨rfl, Nat.le_refl _⟩ | exact ⟨rfl, rfl⟩ | (simp only [inR]; omega) | omega | (simp only [roomP, true_and, and_true, List.length_take, List.length_drop, List.length_append, List.length_cons, List.length_nil, List.length_set, List.length_replicate]; omega) | (refine ⟨by first | exact trivial | rfl, by first | exact Nat.le_refl _ | omega | (simp; omega), ?_⟩; change roomP _ _ 1; simp only [roomP]; omega) | (change roomP _ _ 1; simp only [roomP]; omega) | (simp; omega) | (simp [inR]; omega) | (simp [inR]; done) | decide | (simp; done)) ?_ | refine idx_nat (by omega) (fun x hx => ?_) | refine frz_auto ?_ | refine draw_plain ?_ | refine idx_intro (by first | omega | (simp; omega) | (simp; done)) (by first | omega | (simp; omega) | (simp; done)) (fun x hx => ?_)); conv => whnf)
    all_goals (cases bd <;> simp_all [hasB, ordL_sle, ordL_slt])
    all_goals (rw [Bool.eq_iff_iff, decide_eq_true_iff, ordL_slt])
  · cases h
def askE (b : List entT.El) (rs : List runT.El) (k : ByteArray) : Int := if (vcL b rs).2 ≠ 0 then (vcL b rs).2 else keyE k
def spAsk : DSpec
  | [.agg [.lst (.st [.str, .str, .bool, .int .i64]) b, .lst (.st [.int .i64, .sl (.st [.str, .str, .bool, .int .i64])]) rs], .str k] => some (True, .int .i64 (askE b rs k))
  | _ => none
set_option maxRecDepth 100000 in
theorem fnOk_lkCheck : FnOk Try.prog 43 Try.f43 := ⟨by rfl, by kernel_rfl, by
  show okCode _ _ = true ∧ drawsOk _ = true
  exact ⟨by kernel_rfl, by kernel_rfl⟩⟩
noncomputable def cxd3 : Cx := ⟨tb, [], [(47, spVC), (72, spKey)]⟩
theorem specsd3 : SpecsOk Try.prog cxd3.specs := .cons verC_ok (.cons keysCheck_ok .nil)
set_option maxRecDepth 100000 in
theorem lkCheck_ok : SpecOk Try.prog 43 spAsk := by
  refine spec_body (C := cxd3) mixed tbOk specsd3 (callN_ok (C := cxd3) mixed tbOk specsd3 FnsOk.nil 3) fnOk_lkCheck ?_
  intro ys p r h hp
  unfold spAsk at h
  split at h
  · rename_i b rs k
    cases h
    conv => whnf
    repeat' first
      | ((first | refine br_true (by first | with_reducible exact rfl | assumption | decide) ?_ | refine br_false (by first | with_reducible exact rfl | assumption | decide) ?_ | with_reducible first | refine br_kt (by assumption) ?_ | refine br_kf (by assumption) ?_ | refine br_nt (by assumption) ?_ | refine br_nf (by assumption) ?_ | refine br_et (by assumption) ?_ | refine br_ef (by assumption) ?_); conv => whnf)
      | ((with_reducible first | refine br_dec (fun h => ?_) (fun h => ?_) | refine br_ndec (fun h => ?_) (fun h => ?_) | refine br_ne (fun h => ?_) (fun h => ?_) | refine br_eq (fun h => ?_) (fun h => ?_)) <;> first | (exfalso; omega) | conv => whnf)
      | (refine br_intro (fun h => ?_) (fun h => ?_) <;> conv => whnf)
      | ((first | refine need_in (by first | exact trivial | assumption | exact ⟨rfl, Nat.le_refl _⟩ | exact ⟨rfl, rfl⟩ | (simp only [inR]; omega) | omega | (simp only [roomP, true_and, and_true, List.length_take, List.length_drop, List.length_append, List.length_cons, List.length_nil, List.length_set, List.length_replicate]; omega) | (refine ⟨by first | exact trivial | rfl, by first | exact Nat.le_refl _ | omega | (simp; omega), ?_⟩; change roomP _ _ 1; simp only [roomP]; omega) | (change roomP _ _ 1; simp only [roomP]; omega) | (simp; omega) | (simp [inR]; omega) | (simp [inR]; done) | decide | (simp; done)) ?_ | refine idx_nat (by omega) (fun x hx => ?_) | refine frz_auto ?_ | refine draw_plain ?_ | refine idx_intro (by first | omega | (simp; omega) | (simp; done)) (by first | omega | (simp; omega) | (simp; done)) (fun x hx => ?_)); conv => whnf)
    all_goals simp_all [askE, keyE]
  · cases h
def ordS (a b : ByteArray) : Int := if sLt a b = true then -1 else if sLt b a = true then 1 else 0
def spCmp : DSpec
  | [.str a, .str b] => some (True, .int .i64 (ordS a b))
  | _ => none
set_option maxRecDepth 100000 in
theorem fnOk_cmpStr : FnOk Try.prog 82 Try.f82 := ⟨by rfl, by kernel_rfl, by
  show okCode _ _ = true ∧ drawsOk _ = true
  exact ⟨by kernel_rfl, by kernel_rfl⟩⟩
set_option maxRecDepth 100000 in
theorem fnOk_isNaN : FnOk Try.prog 97 Try.f97 := ⟨by rfl, by kernel_rfl, by
  show okCode _ _ = true ∧ drawsOk _ = true
  exact ⟨by kernel_rfl, by kernel_rfl⟩⟩
noncomputable def cxd5 : Cx := ⟨tb, [(97, Try.f97)], []⟩
theorem fnsd5 : FnsOk Try.prog cxd5.fns := .cons fnOk_isNaN .nil
set_option maxRecDepth 100000 in
theorem cmpStr_ok : SpecOk Try.prog 82 spCmp := by
  refine spec_body (C := cxd5) mixed tbOk SpecsOk.nil (callN_ok (C := cxd5) mixed tbOk SpecsOk.nil fnsd5 3) fnOk_cmpStr ?_
  intro ys p r h hp
  unfold spCmp at h
  split at h
  · rename_i a b
    cases h
    conv => whnf
    repeat' first
      | ((first | refine br_true (by first | with_reducible exact rfl | assumption | decide) ?_ | refine br_false (by first | with_reducible exact rfl | assumption | decide) ?_ | with_reducible first | refine br_kt (by assumption) ?_ | refine br_kf (by assumption) ?_ | refine br_nt (by assumption) ?_ | refine br_nf (by assumption) ?_ | refine br_et (by assumption) ?_ | refine br_ef (by assumption) ?_); conv => whnf)
      | ((with_reducible first | refine br_dec (fun h => ?_) (fun h => ?_) | refine br_ndec (fun h => ?_) (fun h => ?_) | refine br_ne (fun h => ?_) (fun h => ?_) | refine br_eq (fun h => ?_) (fun h => ?_)) <;> first | (exfalso; omega) | conv => whnf)
      | (refine br_intro (fun h => ?_) (fun h => ?_) <;> conv => whnf)
      | ((first | refine need_in (by first | exact trivial | assumption | exact ⟨rfl, Nat.le_refl _⟩ | exact ⟨rfl, rfl⟩ | (simp only [inR]; omega) | omega | (simp only [roomP, true_and, and_true, List.length_take, List.length_drop, List.length_append, List.length_cons, List.length_nil, List.length_set, List.length_replicate]; omega) | (refine ⟨by first | exact trivial | rfl, by first | exact Nat.le_refl _ | omega | (simp; omega), ?_⟩; change roomP _ _ 1; simp only [roomP]; omega) | (change roomP _ _ 1; simp only [roomP]; omega) | (simp; omega) | (simp [inR]; omega) | (simp [inR]; done) | decide | (simp; done)) ?_ | refine idx_nat (by omega) (fun x hx => ?_) | refine frz_auto ?_ | refine draw_plain ?_ | refine idx_intro (by first | omega | (simp; omega) | (simp; done)) (by first | omega | (simp; omega) | (simp; done)) (fun x hx => ?_)); conv => whnf)
    all_goals first
      | (exfalso; exact sq_no (by assumption))
      | (refine congrArg (AV.int .i64) ?_; simp only [ordS]; simp [*])
  · cases h
end Go.Proofs.Ytekkeajcmibbaaa
