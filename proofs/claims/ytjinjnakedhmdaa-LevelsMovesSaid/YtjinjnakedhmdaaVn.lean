/-
  Levels: what is looked at; the laws of sizes, of checks, of the examples.
-/
import Derived.Test.YtjinjnakedhmdaaVm
namespace Go.Proofs.Ytjinjnakedhmdaa
open Av Bk

theorem anyp_take {α : Type} {p : α → Bool} {l : List α} {i : Nat} {x : α} (h : (l.take i).any p = false) (hx : l[i]? = some x) (hw : p x = false) : (l.take (i + 1)).any p = false := by
  rw [List.take_add_one, hx, List.any_append, h]
  simp [hw]
theorem anyp_hit {α : Type} {p : α → Bool} {l : List α} {i n : Nat} {x : α} (hin : i < n) (hx : l[i]? = some x) (hw : p x = true) : (l.take n).any p = true := by
  rw [List.any_eq_true]
  exact ⟨x, List.mem_iff_getElem?.2 ⟨i, by rw [List.getElem?_take, if_pos hin]; exact hx⟩, hw⟩
abbrev lgR (r : runT.El) : Bool := longL r.2.1
def longR (l : List runT.El) : Bool := (l.take 10).any lgR || decide (6 < (l.length : Int))
abbrev lgV (x : lvT.El) : Bool := longR x.1
def longV (l : List lvT.El) : Bool := (l.take 20).any lgV || decide (14 < (l.length : Int))
def spLR : DSpec
  | [.lst (.st [.int .i64, .sl (.st [.str, .str, .bool, .int .i64])]) l] => some (True, .bool (longR l))
  | _ => none
def spLV : DSpec
  | [.agg [.int .i64 _, .lst (.st [.sl (.st [.int .i64, .sl (.st [.str, .str, .bool, .int .i64])])]) l]] => some (True, .bool (longV l))
  | _ => none
set_option maxRecDepth 100000 in
theorem fnOk_lLR : FnOk Try.prog 38 Try.f38 := ⟨by rfl, by kernel_rfl, by
  show okCode _ _ = true ∧ drawsOk _ = true
  exact ⟨by kernel_rfl, by kernel_rfl⟩⟩
noncomputable def cvF : Cx := ⟨tb, [], [(15, spLong)]⟩
theorem spvF : SpecsOk Try.prog cvF.specs := .cons lLong_ok .nil
set_option maxRecDepth 100000 in
set_option maxHeartbeats 2000000 in
theorem lLR_ok : SpecOk Try.prog 38 spLR := by
  refine spec_body (C := cvF) mixed tbOk spvF (callN_ok (C := cvF) mixed tbOk spvF FnsOk.nil 0) fnOk_lLR ?_
  intro ys p r h hp
  unfold spLR at h
  split at h
  · rename_i l
    cases h
    conv => whnf
    refine loop_inv [] [3] (fun vs h => ∃ i : Nat, vs = [.int .i64 (i : Int)] ∧ h = [] ∧ i ≤ l.length ∧ i ≤ 10 ∧ (l.take i).any lgR = false) (fun vs _ => match vs with | [.int _ k] => l.length - k.toNat | _ => 0) ?_
    refine ⟨⟨0, rfl, rfl, Nat.zero_le _, Nat.zero_le _, rfl⟩, ?_⟩
    rintro vs h' - ⟨i, rfl, rfl, hi, hi2, hs⟩
    by_cases hlt : i < l.length ∧ i < 10
    · obtain ⟨x, hx⟩ : ∃ x : runT.El, (l : List runT.El)[i]? = some x := ⟨_, List.getElem?_eq_getElem hlt.1⟩
      cases hw : longL x.2.1 with
      | true =>
        have hr : longR l = true := by unfold longR; rw [anyp_hit (i := i) (by omega) hx hw]; rfl
        conv => whnf
        repeat' first
          | ((first | refine idx_kn (by assumption) ?_ | refine idx_ki (by assumption) (by omega) ?_ | refine br_true (by first | with_reducible exact rfl | assumption | decide) ?_ | refine br_false (by first | with_reducible exact rfl | assumption | decide) ?_ | with_reducible first | refine br_kt (by assumption) ?_ | refine br_kf (by assumption) ?_ | refine br_nt (by assumption) ?_ | refine br_nf (by assumption) ?_ | refine br_et (by assumption) ?_ | refine br_ef (by assumption) ?_); conv => whnf)
          | ((with_reducible first | refine br_dec (fun h => ?_) (fun h => ?_) | refine br_ndec (fun h => ?_) (fun h => ?_) | refine br_ne (fun h => ?_) (fun h => ?_) | refine br_eq (fun h => ?_) (fun h => ?_)) <;> first | (exfalso; omega) | conv => whnf)
          | (refine br_intro (fun h => ?_) (fun h => ?_) <;> conv => whnf)
          | ((first | refine need_in (by first | exact trivial | assumption | exact ⟨rfl, Nat.le_refl _⟩ | exact ⟨rfl, rfl⟩ | (simp only [inR]; omega) | omega | (simp only [roomP, true_and, and_true, List.length_take, List.length_drop, List.length_append, List.length_cons, List.length_nil, List.length_set, List.length_replicate]; omega) | (refine ⟨by first | exact trivial | rfl, by first | exact Nat.le_refl _ | omega | (simp; omega), ?_⟩; change roomP _ _ 1; simp only [roomP]; omega) | (change roomP _ _ 1; simp only [roomP]; omega) | (simp; omega) | (simp [inR]; omega) | (simp [inR]; done) | decide | (simp; done) | exact ⟨by first | omega | (simp; omega), by assumption⟩) ?_ | refine idx_nat (by omega) (fun x hx => ?_) | refine frz_auto ?_ | refine draw_plain ?_ | refine idx_intro (by first | omega | (simp; omega) | (simp; done)) (by first | omega | (simp; omega) | (simp; done)) (fun x hx => ?_)); conv => whnf)
        all_goals first
          | (rw [hr]; done)
          | (exfalso; omega)
      | false =>
        conv => whnf
        repeat' first
          | ((first | refine idx_kn (by assumption) ?_ | refine idx_ki (by assumption) (by omega) ?_ | refine br_true (by first | with_reducible exact rfl | assumption | decide) ?_ | refine br_false (by first | with_reducible exact rfl | assumption | decide) ?_ | with_reducible first | refine br_kt (by assumption) ?_ | refine br_kf (by assumption) ?_ | refine br_nt (by assumption) ?_ | refine br_nf (by assumption) ?_ | refine br_et (by assumption) ?_ | refine br_ef (by assumption) ?_); conv => whnf)
          | ((with_reducible first | refine br_dec (fun h => ?_) (fun h => ?_) | refine br_ndec (fun h => ?_) (fun h => ?_) | refine br_ne (fun h => ?_) (fun h => ?_) | refine br_eq (fun h => ?_) (fun h => ?_)) <;> first | (exfalso; omega) | conv => whnf)
          | (refine br_intro (fun h => ?_) (fun h => ?_) <;> conv => whnf)
          | ((first | refine need_in (by first | exact trivial | assumption | exact ⟨rfl, Nat.le_refl _⟩ | exact ⟨rfl, rfl⟩ | (simp only [inR]; omega) | omega | (simp only [roomP, true_and, and_true, List.length_take, List.length_drop, List.length_append, List.length_cons, List.length_nil, List.length_set, List.length_replicate]; omega) | (refine ⟨by first | exact trivial | rfl, by first | exact Nat.le_refl _ | omega | (simp; omega), ?_⟩; change roomP _ _ 1; simp only [roomP]; omega) | (change roomP _ _ 1; simp only [roomP]; omega) | (simp; omega) | (simp [inR]; omega) | (simp [inR]; done) | decide | (simp; done) | exact ⟨by first | omega | (simp; omega), by assumption⟩) ?_ | refine idx_nat (by omega) (fun x hx => ?_) | refine frz_auto ?_ | refine draw_plain ?_ | refine idx_intro (by first | omega | (simp; omega) | (simp; done)) (by first | omega | (simp; omega) | (simp; done)) (fun x hx => ?_)); conv => whnf)
        refine back_intro (by conv => whnf) rfl ⟨i + 1, rfl, rfl, by omega, by omega, anyp_take hs hx hw⟩ ?_
        show l.length - ((i : Int) + 1).toNat < l.length - (i : Int).toNat
        omega
    · have hr : longR l = decide (6 < (l.length : Int)) := by
        unfold longR
        have e : (l.take 10).any lgR = false := by
          by_cases h10 : i = 10
          · rw [← h10]; exact hs
          · rw [List.take_of_length_le (by omega), ← hs, List.take_of_length_le (by omega)]
        rw [e]; rfl
      conv => whnf
      repeat' first
        | ((first | refine idx_kn (by assumption) ?_ | refine idx_ki (by assumption) (by omega) ?_ | refine br_true (by first | with_reducible exact rfl | assumption | decide) ?_ | refine br_false (by first | with_reducible exact rfl | assumption | decide) ?_ | with_reducible first | refine br_kt (by assumption) ?_ | refine br_kf (by assumption) ?_ | refine br_nt (by assumption) ?_ | refine br_nf (by assumption) ?_ | refine br_et (by assumption) ?_ | refine br_ef (by assumption) ?_); conv => whnf)
        | ((with_reducible first | refine br_dec (fun h => ?_) (fun h => ?_) | refine br_ndec (fun h => ?_) (fun h => ?_) | refine br_ne (fun h => ?_) (fun h => ?_) | refine br_eq (fun h => ?_) (fun h => ?_)) <;> first | (exfalso; omega) | conv => whnf)
        | (refine br_intro (fun h => ?_) (fun h => ?_) <;> conv => whnf)
        | ((first | refine need_in (by first | exact trivial | assumption | exact ⟨rfl, Nat.le_refl _⟩ | exact ⟨rfl, rfl⟩ | (simp only [inR]; omega) | omega | (simp only [roomP, true_and, and_true, List.length_take, List.length_drop, List.length_append, List.length_cons, List.length_nil, List.length_set, List.length_replicate]; omega) | (refine ⟨by first | exact trivial | rfl, by first | exact Nat.le_refl _ | omega | (simp; omega), ?_⟩; change roomP _ _ 1; simp only [roomP]; omega) | (change roomP _ _ 1; simp only [roomP]; omega) | (simp; omega) | (simp [inR]; omega) | (simp [inR]; done) | decide | (simp; done) | exact ⟨by first | omega | (simp; omega), by assumption⟩) ?_ | refine idx_nat (by omega) (fun x hx => ?_) | refine frz_auto ?_ | refine draw_plain ?_ | refine idx_intro (by first | omega | (simp; omega) | (simp; done)) (by first | omega | (simp; omega) | (simp; done)) (fun x hx => ?_)); conv => whnf)
      all_goals first
        | (rw [hr]; done)
        | (exfalso; omega)
  · cases h
set_option maxRecDepth 100000 in
theorem fnOk_lLV : FnOk Try.prog 14 Try.f14 := ⟨by rfl, by kernel_rfl, by
  show okCode _ _ = true ∧ drawsOk _ = true
  exact ⟨by kernel_rfl, by kernel_rfl⟩⟩
noncomputable def cvG : Cx := ⟨tb, [], [(38, spLR)]⟩
theorem spvG : SpecsOk Try.prog cvG.specs := .cons lLR_ok .nil
set_option maxRecDepth 100000 in
set_option maxHeartbeats 2000000 in
theorem lLV_ok : SpecOk Try.prog 14 spLV := by
  refine spec_body (C := cvG) mixed tbOk spvG (callN_ok (C := cvG) mixed tbOk spvG FnsOk.nil 0) fnOk_lLV ?_
  intro ys p r h hp
  unfold spLV at h
  split at h
  · rename_i b l
    cases h
    conv => whnf
    refine loop_inv [] [3] (fun vs h => ∃ i : Nat, vs = [.int .i64 (i : Int)] ∧ h = [.cells 29 [.int .i64 b, .lst lvT l]] ∧ i ≤ l.length ∧ i ≤ 20 ∧ (l.take i).any lgV = false) (fun vs _ => match vs with | [.int _ k] => l.length - k.toNat | _ => 0) ?_
    refine ⟨⟨0, rfl, rfl, Nat.zero_le _, Nat.zero_le _, rfl⟩, ?_⟩
    rintro vs h' - ⟨i, rfl, rfl, hi, hi2, hs⟩
    by_cases hlt : i < l.length ∧ i < 20
    · obtain ⟨x, hx⟩ : ∃ x : lvT.El, (l : List lvT.El)[i]? = some x := ⟨_, List.getElem?_eq_getElem hlt.1⟩
      cases hw : longR x.1 with
      | true =>
        have hr : longV l = true := by unfold longV; rw [anyp_hit (i := i) (by omega) hx hw]; rfl
        conv => whnf
        repeat' first
          | ((first | refine idx_kn (by assumption) ?_ | refine idx_ki (by assumption) (by omega) ?_ | refine br_true (by first | with_reducible exact rfl | assumption | decide) ?_ | refine br_false (by first | with_reducible exact rfl | assumption | decide) ?_ | with_reducible first | refine br_kt (by assumption) ?_ | refine br_kf (by assumption) ?_ | refine br_nt (by assumption) ?_ | refine br_nf (by assumption) ?_ | refine br_et (by assumption) ?_ | refine br_ef (by assumption) ?_); conv => whnf)
          | ((with_reducible first | refine br_dec (fun h => ?_) (fun h => ?_) | refine br_ndec (fun h => ?_) (fun h => ?_) | refine br_ne (fun h => ?_) (fun h => ?_) | refine br_eq (fun h => ?_) (fun h => ?_)) <;> first | (exfalso; omega) | conv => whnf)
          | (refine br_intro (fun h => ?_) (fun h => ?_) <;> conv => whnf)
          | ((first | refine need_in (by first | exact trivial | assumption | exact ⟨rfl, Nat.le_refl _⟩ | exact ⟨rfl, rfl⟩ | (simp only [inR]; omega) | omega | (simp only [roomP, true_and, and_true, List.length_take, List.length_drop, List.length_append, List.length_cons, List.length_nil, List.length_set, List.length_replicate]; omega) | (refine ⟨by first | exact trivial | rfl, by first | exact Nat.le_refl _ | omega | (simp; omega), ?_⟩; change roomP _ _ 1; simp only [roomP]; omega) | (change roomP _ _ 1; simp only [roomP]; omega) | (simp; omega) | (simp [inR]; omega) | (simp [inR]; done) | decide | (simp; done) | exact ⟨by first | omega | (simp; omega), by assumption⟩) ?_ | refine idx_nat (by omega) (fun x hx => ?_) | refine frz_auto ?_ | refine draw_plain ?_ | refine idx_intro (by first | omega | (simp; omega) | (simp; done)) (by first | omega | (simp; omega) | (simp; done)) (fun x hx => ?_)); conv => whnf)
        all_goals first
          | (rw [hr]; done)
          | (exfalso; omega)
      | false =>
        conv => whnf
        repeat' first
          | ((first | refine idx_kn (by assumption) ?_ | refine idx_ki (by assumption) (by omega) ?_ | refine br_true (by first | with_reducible exact rfl | assumption | decide) ?_ | refine br_false (by first | with_reducible exact rfl | assumption | decide) ?_ | with_reducible first | refine br_kt (by assumption) ?_ | refine br_kf (by assumption) ?_ | refine br_nt (by assumption) ?_ | refine br_nf (by assumption) ?_ | refine br_et (by assumption) ?_ | refine br_ef (by assumption) ?_); conv => whnf)
          | ((with_reducible first | refine br_dec (fun h => ?_) (fun h => ?_) | refine br_ndec (fun h => ?_) (fun h => ?_) | refine br_ne (fun h => ?_) (fun h => ?_) | refine br_eq (fun h => ?_) (fun h => ?_)) <;> first | (exfalso; omega) | conv => whnf)
          | (refine br_intro (fun h => ?_) (fun h => ?_) <;> conv => whnf)
          | ((first | refine need_in (by first | exact trivial | assumption | exact ⟨rfl, Nat.le_refl _⟩ | exact ⟨rfl, rfl⟩ | (simp only [inR]; omega) | omega | (simp only [roomP, true_and, and_true, List.length_take, List.length_drop, List.length_append, List.length_cons, List.length_nil, List.length_set, List.length_replicate]; omega) | (refine ⟨by first | exact trivial | rfl, by first | exact Nat.le_refl _ | omega | (simp; omega), ?_⟩; change roomP _ _ 1; simp only [roomP]; omega) | (change roomP _ _ 1; simp only [roomP]; omega) | (simp; omega) | (simp [inR]; omega) | (simp [inR]; done) | decide | (simp; done) | exact ⟨by first | omega | (simp; omega), by assumption⟩) ?_ | refine idx_nat (by omega) (fun x hx => ?_) | refine frz_auto ?_ | refine draw_plain ?_ | refine idx_intro (by first | omega | (simp; omega) | (simp; done)) (by first | omega | (simp; omega) | (simp; done)) (fun x hx => ?_)); conv => whnf)
        refine back_intro (by conv => whnf) rfl ⟨i + 1, rfl, rfl, by omega, by omega, anyp_take hs hx hw⟩ ?_
        show l.length - ((i : Int) + 1).toNat < l.length - (i : Int).toNat
        omega
    · have hr : longV l = decide (14 < (l.length : Int)) := by
        unfold longV
        have e : (l.take 20).any lgV = false := by
          by_cases h10 : i = 20
          · rw [← h10]; exact hs
          · rw [List.take_of_length_le (by omega), ← hs, List.take_of_length_le (by omega)]
        rw [e]; rfl
      conv => whnf
      repeat' first
        | ((first | refine idx_kn (by assumption) ?_ | refine idx_ki (by assumption) (by omega) ?_ | refine br_true (by first | with_reducible exact rfl | assumption | decide) ?_ | refine br_false (by first | with_reducible exact rfl | assumption | decide) ?_ | with_reducible first | refine br_kt (by assumption) ?_ | refine br_kf (by assumption) ?_ | refine br_nt (by assumption) ?_ | refine br_nf (by assumption) ?_ | refine br_et (by assumption) ?_ | refine br_ef (by assumption) ?_); conv => whnf)
        | ((with_reducible first | refine br_dec (fun h => ?_) (fun h => ?_) | refine br_ndec (fun h => ?_) (fun h => ?_) | refine br_ne (fun h => ?_) (fun h => ?_) | refine br_eq (fun h => ?_) (fun h => ?_)) <;> first | (exfalso; omega) | conv => whnf)
        | (refine br_intro (fun h => ?_) (fun h => ?_) <;> conv => whnf)
        | ((first | refine need_in (by first | exact trivial | assumption | exact ⟨rfl, Nat.le_refl _⟩ | exact ⟨rfl, rfl⟩ | (simp only [inR]; omega) | omega | (simp only [roomP, true_and, and_true, List.length_take, List.length_drop, List.length_append, List.length_cons, List.length_nil, List.length_set, List.length_replicate]; omega) | (refine ⟨by first | exact trivial | rfl, by first | exact Nat.le_refl _ | omega | (simp; omega), ?_⟩; change roomP _ _ 1; simp only [roomP]; omega) | (change roomP _ _ 1; simp only [roomP]; omega) | (simp; omega) | (simp [inR]; omega) | (simp [inR]; done) | decide | (simp; done) | exact ⟨by first | omega | (simp; omega), by assumption⟩) ?_ | refine idx_nat (by omega) (fun x hx => ?_) | refine frz_auto ?_ | refine draw_plain ?_ | refine idx_intro (by first | omega | (simp; omega) | (simp; done)) (by first | omega | (simp; omega) | (simp; done)) (fun x hx => ?_)); conv => whnf)
      all_goals first
        | (rw [hr]; done)
        | (exfalso; omega)
  · cases h
/-! ### The laws -/
abbrev lvsT : Ty := .st [.int .i64, .sl lvT]
end Go.Proofs.Ytjinjnakedhmdaa
