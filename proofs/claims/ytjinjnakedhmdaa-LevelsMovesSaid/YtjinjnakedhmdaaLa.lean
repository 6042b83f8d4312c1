/-
  Ascending lists of entries: their first fault, by both.
-/
import Derived.Test.YtjinjnakedhmdaaE2
import Derived.Test.YtjinjnakedhmdaaE4
import Derived.Test.YtjinjnakedhmdaaE5
import Derived.Test.YtjinjnakedhmdaaGF
namespace Go.Proofs.Ytjinjnakedhmdaa
open Av Bk

def spCL : DSpec
  | [.lst (.st [.str, .str, .bool, .int .i64]) l] => some (True, .tup [.int .i64 (clL l).1, .int .i64 (clL l).2])
  | _ => none
set_option maxRecDepth 100000 in
theorem fnOk_entsCL : FnOk Try.prog 52 Try.f52 := ⟨by rfl, by kernel_rfl, by
  show okCode _ _ = true ∧ drawsOk _ = true
  exact ⟨by kernel_rfl, by kernel_rfl⟩⟩
noncomputable def cx20 : Cx := ⟨tb, [], [(54, spCheck)]⟩
theorem specs20 : SpecsOk Try.prog cx20.specs := .cons entCheck_ok .nil
set_option maxRecDepth 100000 in
set_option maxHeartbeats 2000000 in
theorem entsCL_ok : SpecOk Try.prog 52 spCL := by
  refine spec_body (C := cx20) mixed tbOk specs20 (callN_ok (C := cx20) mixed tbOk specs20 FnsOk.nil 0) fnOk_entsCL ?_
  intro ys p r h hp
  unfold spCL at h
  split at h
  · rename_i l
    cases h
    conv => whnf
    repeat' first
      | ((first | refine br_true (by first | with_reducible exact rfl | assumption | decide) ?_ | refine br_false (by first | with_reducible exact rfl | assumption | decide) ?_ | with_reducible first | refine br_kt (by assumption) ?_ | refine br_kf (by assumption) ?_ | refine br_nt (by assumption) ?_ | refine br_nf (by assumption) ?_ | refine br_et (by assumption) ?_ | refine br_ef (by assumption) ?_); conv => whnf)
      | ((with_reducible first | refine br_dec (fun h => ?_) (fun h => ?_) | refine br_ndec (fun h => ?_) (fun h => ?_) | refine br_ne (fun h => ?_) (fun h => ?_) | refine br_eq (fun h => ?_) (fun h => ?_)) <;> first | (exfalso; omega) | conv => whnf)
      | (refine br_intro (fun h => ?_) (fun h => ?_) <;> conv => whnf)
      | ((first | refine need_in (by first | exact trivial | assumption | exact ⟨rfl, Nat.le_refl _⟩ | exact ⟨rfl, rfl⟩ | (simp only [inR]; omega) | omega | (simp only [roomP, true_and, and_true, List.length_take, List.length_drop, List.length_append, List.length_cons, List.length_nil, List.length_set, List.length_replicate]; omega) | (refine ⟨by first | exact trivial | rfl, by first | exact Nat.le_refl _ | omega | (simp; omega), ?_⟩; change roomP _ _ 1; simp only [roomP]; omega) | (change roomP _ _ 1; simp only [roomP]; omega) | (simp; omega) | (simp [inR]; omega) | (simp [inR]; done) | decide | (simp; done) | exact ⟨by first | omega | (simp; omega), by assumption⟩) ?_ | refine idx_nat (by omega) (fun x hx => ?_) | refine frz_auto ?_ | refine draw_plain ?_ | refine idx_intro (by first | omega | (simp; omega) | (simp; done)) (by first | omega | (simp; omega) | (simp; done)) (fun x hx => ?_)); conv => whnf)
    · rw [clL, if_pos (by omega)]
    · refine loop_inv [] [12] (fun vs h => ∃ i : Nat, vs = [.int .i64 (i : Int)] ∧ h = [] ∧ i ≤ l.length ∧ clL l = clGo (pvAt l i) (i : Int) (l.drop i)) (fun vs _ => match vs with | [.int _ k] => l.length - k.toNat | _ => 0) ?_
      refine ⟨⟨0, rfl, rfl, by omega, by rw [clL, if_neg (by omega)]; rfl⟩, ?_⟩
      rintro vs h' - ⟨i, rfl, rfl, hi, hc⟩
      conv => whnf
      repeat' first
        | ((first | refine br_true (by first | with_reducible exact rfl | assumption | decide) ?_ | refine br_false (by first | with_reducible exact rfl | assumption | decide) ?_ | with_reducible first | refine br_kt (by assumption) ?_ | refine br_kf (by assumption) ?_ | refine br_nt (by assumption) ?_ | refine br_nf (by assumption) ?_ | refine br_et (by assumption) ?_ | refine br_ef (by assumption) ?_); conv => whnf)
        | ((with_reducible first | refine br_dec (fun h => ?_) (fun h => ?_) | refine br_ndec (fun h => ?_) (fun h => ?_) | refine br_ne (fun h => ?_) (fun h => ?_) | refine br_eq (fun h => ?_) (fun h => ?_)) <;> first | (exfalso; omega) | conv => whnf)
        | (refine br_intro (fun h => ?_) (fun h => ?_) <;> conv => whnf)
        | ((first | refine need_in (by first | exact trivial | assumption | exact ⟨rfl, Nat.le_refl _⟩ | exact ⟨rfl, rfl⟩ | (simp only [inR]; omega) | omega | (simp only [roomP, true_and, and_true, List.length_take, List.length_drop, List.length_append, List.length_cons, List.length_nil, List.length_set, List.length_replicate]; omega) | (refine ⟨by first | exact trivial | rfl, by first | exact Nat.le_refl _ | omega | (simp; omega), ?_⟩; change roomP _ _ 1; simp only [roomP]; omega) | (change roomP _ _ 1; simp only [roomP]; omega) | (simp; omega) | (simp [inR]; omega) | (simp [inR]; done) | decide | (simp; done) | exact ⟨by first | omega | (simp; omega), by assumption⟩) ?_ | refine idx_nat (by omega) (fun x hx => ?_) | refine frz_auto ?_ | refine draw_plain ?_ | refine idx_intro (by first | omega | (simp; omega) | (simp; done)) (by first | omega | (simp; omega) | (simp; done)) (fun x hx => ?_)); conv => whnf)
      · rw [clL_err hc hx h]; rfl
      · rename_i y hy _ _
        rw [show ((i : Int) - 1).toNat = i - 1 by omega] at hx
        rw [clL_form hc hy (by assumption) (by omega) hx (bnt h)]
      · rename_i y hy _ _
        rw [show ((i : Int) - 1).toNat = i - 1 by omega] at hx
        refine back_intro (by conv => whnf) rfl ⟨i + 1, rfl, rfl, by omega, clL_next hc hy (by assumption) (.inr ⟨x, hx, bnf h⟩)⟩ ?_
        show l.length - ((i : Int) + 1).toNat < l.length - (i : Int).toNat
        omega
      · refine back_intro (by conv => whnf) rfl ⟨i + 1, rfl, rfl, by omega, clL_next hc hx (by assumption) (.inl (by omega))⟩ ?_
        show l.length - ((i : Int) + 1).toNat < l.length - (i : Int).toNat
        omega
      · rw [clL_end (by omega) hc (by omega)]
  · cases h
set_option maxRecDepth 100000 in
theorem fnOk_refCL : FnOk Try.prog 53 Try.f53 := ⟨by rfl, by kernel_rfl, by
  show okCode _ _ = true ∧ drawsOk _ = true
  exact ⟨by kernel_rfl, by kernel_rfl⟩⟩
noncomputable def cx21 : Cx := ⟨tb, [], [(55, spCheck), (56, spOrder)]⟩
theorem specs21 : SpecsOk Try.prog cx21.specs := .cons refCheck_ok (.cons refOrder_ok .nil)
set_option maxRecDepth 100000 in
set_option maxHeartbeats 2000000 in
theorem refCL_ok : SpecOk Try.prog 53 spCL := by
  refine spec_body (C := cx21) mixed tbOk specs21 (callN_ok (C := cx21) mixed tbOk specs21 FnsOk.nil 0) fnOk_refCL ?_
  intro ys p r h hp
  unfold spCL at h
  split at h
  · rename_i l
    cases h
    conv => whnf
    repeat' first
      | ((first | refine br_true (by first | with_reducible exact rfl | assumption | decide) ?_ | refine br_false (by first | with_reducible exact rfl | assumption | decide) ?_ | with_reducible first | refine br_kt (by assumption) ?_ | refine br_kf (by assumption) ?_ | refine br_nt (by assumption) ?_ | refine br_nf (by assumption) ?_ | refine br_et (by assumption) ?_ | refine br_ef (by assumption) ?_); conv => whnf)
      | ((with_reducible first | refine br_dec (fun h => ?_) (fun h => ?_) | refine br_ndec (fun h => ?_) (fun h => ?_) | refine br_ne (fun h => ?_) (fun h => ?_) | refine br_eq (fun h => ?_) (fun h => ?_)) <;> first | (exfalso; omega) | conv => whnf)
      | (refine br_intro (fun h => ?_) (fun h => ?_) <;> conv => whnf)
      | ((first | refine need_in (by first | exact trivial | assumption | exact ⟨rfl, Nat.le_refl _⟩ | exact ⟨rfl, rfl⟩ | (simp only [inR]; omega) | omega | (simp only [roomP, true_and, and_true, List.length_take, List.length_drop, List.length_append, List.length_cons, List.length_nil, List.length_set, List.length_replicate]; omega) | (refine ⟨by first | exact trivial | rfl, by first | exact Nat.le_refl _ | omega | (simp; omega), ?_⟩; change roomP _ _ 1; simp only [roomP]; omega) | (change roomP _ _ 1; simp only [roomP]; omega) | (simp; omega) | (simp [inR]; omega) | (simp [inR]; done) | decide | (simp; done) | exact ⟨by first | omega | (simp; omega), by assumption⟩) ?_ | refine idx_nat (by omega) (fun x hx => ?_) | refine frz_auto ?_ | refine draw_plain ?_ | refine idx_intro (by first | omega | (simp; omega) | (simp; done)) (by first | omega | (simp; omega) | (simp; done)) (fun x hx => ?_)); conv => whnf)
    · rw [clL, if_pos (by omega)]
    · refine loop_inv [] [4] (fun vs h => ∃ i : Nat, vs = [.int .i64 (i : Int)] ∧ h = [] ∧ i ≤ l.length ∧ clL l = clGo (pvAt l i) (i : Int) (l.drop i) ∧ ∀ y ∈ l.take i, errX y = 0) (fun vs _ => match vs with | [.int _ k] => l.length - k.toNat | _ => 0) ?_
      refine ⟨⟨0, rfl, rfl, by omega, by rw [clL, if_neg (by omega)]; rfl, by simp⟩, ?_⟩
      rintro vs h' - ⟨i, rfl, rfl, hi, hc, hall⟩
      conv => whnf
      repeat' first
        | ((first | refine br_true (by first | with_reducible exact rfl | assumption | decide) ?_ | refine br_false (by first | with_reducible exact rfl | assumption | decide) ?_ | with_reducible first | refine br_kt (by assumption) ?_ | refine br_kf (by assumption) ?_ | refine br_nt (by assumption) ?_ | refine br_nf (by assumption) ?_ | refine br_et (by assumption) ?_ | refine br_ef (by assumption) ?_); conv => whnf)
        | ((with_reducible first | refine br_dec (fun h => ?_) (fun h => ?_) | refine br_ndec (fun h => ?_) (fun h => ?_) | refine br_ne (fun h => ?_) (fun h => ?_) | refine br_eq (fun h => ?_) (fun h => ?_)) <;> first | (exfalso; omega) | conv => whnf)
        | (refine br_intro (fun h => ?_) (fun h => ?_) <;> conv => whnf)
        | ((first | refine need_in (by first | exact trivial | assumption | exact ⟨rfl, Nat.le_refl _⟩ | exact ⟨rfl, rfl⟩ | (simp only [inR]; omega) | omega | (simp only [roomP, true_and, and_true, List.length_take, List.length_drop, List.length_append, List.length_cons, List.length_nil, List.length_set, List.length_replicate]; omega) | (refine ⟨by first | exact trivial | rfl, by first | exact Nat.le_refl _ | omega | (simp; omega), ?_⟩; change roomP _ _ 1; simp only [roomP]; omega) | (change roomP _ _ 1; simp only [roomP]; omega) | (simp; omega) | (simp [inR]; omega) | (simp [inR]; done) | decide | (simp; done) | exact ⟨by first | omega | (simp; omega), by assumption⟩) ?_ | refine idx_nat (by omega) (fun x hx => ?_) | refine frz_auto ?_ | refine draw_plain ?_ | refine idx_intro (by first | omega | (simp; omega) | (simp; done)) (by first | omega | (simp; omega) | (simp; done)) (fun x hx => ?_)); conv => whnf)
      · rename_i x1 hx1 he h0 y hy
        rw [show ((i : Int) - 1).toNat = i - 1 by omega] at hy
        refine need_in (errX_key (hall y (List.mem_iff_getElem?.2 ⟨i - 1, by rw [List.getElem?_take, if_pos (by omega)]; exact hy⟩))) ?_
        conv => whnf
        repeat' first
          | ((first | refine br_true (by first | with_reducible exact rfl | assumption | decide) ?_ | refine br_false (by first | with_reducible exact rfl | assumption | decide) ?_ | with_reducible first | refine br_kt (by assumption) ?_ | refine br_kf (by assumption) ?_ | refine br_nt (by assumption) ?_ | refine br_nf (by assumption) ?_ | refine br_et (by assumption) ?_ | refine br_ef (by assumption) ?_); conv => whnf)
          | ((with_reducible first | refine br_dec (fun h => ?_) (fun h => ?_) | refine br_ndec (fun h => ?_) (fun h => ?_) | refine br_ne (fun h => ?_) (fun h => ?_) | refine br_eq (fun h => ?_) (fun h => ?_)) <;> first | (exfalso; omega) | conv => whnf)
          | (refine br_intro (fun h => ?_) (fun h => ?_) <;> conv => whnf)
          | ((first | refine need_in (by first | exact trivial | assumption | exact ⟨rfl, Nat.le_refl _⟩ | exact ⟨rfl, rfl⟩ | (simp only [inR]; omega) | omega | (simp only [roomP, true_and, and_true, List.length_take, List.length_drop, List.length_append, List.length_cons, List.length_nil, List.length_set, List.length_replicate]; omega) | (refine ⟨by first | exact trivial | rfl, by first | exact Nat.le_refl _ | omega | (simp; omega), ?_⟩; change roomP _ _ 1; simp only [roomP]; omega) | (change roomP _ _ 1; simp only [roomP]; omega) | (simp; omega) | (simp [inR]; omega) | (simp [inR]; done) | decide | (simp; done) | exact ⟨by first | omega | (simp; omega), by assumption⟩) ?_ | refine idx_nat (by omega) (fun x hx => ?_) | refine frz_auto ?_ | refine draw_plain ?_ | refine idx_intro (by first | omega | (simp; omega) | (simp; done)) (by first | omega | (simp; omega) | (simp; done)) (fun x hx => ?_)); conv => whnf)
        · obtain rfl : hx1 = x := Option.some.inj (he.symm.trans hx)
          rw [clL_form hc hx h0 (by omega) hy (ordL_ge.1 h)]
        · obtain rfl : hx1 = x := Option.some.inj (he.symm.trans hx)
          refine back_intro (by conv => whnf) rfl ⟨i + 1, rfl, rfl, by omega, clL_next hc hx h0 (.inr ⟨y, hy, ?_⟩), take_succ_all hall hx h0⟩ ?_
          · cases hl : sLt y.1 hx1.1 with
            | true => rfl
            | false => exact absurd (ordL_ge.2 hl) h
          · show l.length - ((i : Int) + 1).toNat < l.length - (i : Int).toNat
            omega
      · refine back_intro (by conv => whnf) rfl ⟨i + 1, rfl, rfl, by omega, clL_next hc hx (by assumption) (.inl (by omega)), take_succ_all hall hx (by assumption)⟩ ?_
        show l.length - ((i : Int) + 1).toNat < l.length - (i : Int).toNat
        omega
      · rw [clL_err hc hx h]; rfl
      · rw [clL_end (by omega) hc (by omega)]
  · cases h
theorem clL_len {l : List entT.El} (h : (clL l).2 = 0) : l.length ≤ 5000 := by
  unfold clL at h
  split at h
  · cases h
  · omega
end Go.Proofs.Ytjinjnakedhmdaa
