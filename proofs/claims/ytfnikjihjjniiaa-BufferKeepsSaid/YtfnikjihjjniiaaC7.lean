/-
  Writes into a buffer, by the reference.
-/
import Derived.Test.YtfnikjihjjniiaaC6
namespace Go.Proofs.Ytfnikjihjjniiaa
open Av Bk

theorem fnOk_rAsk : FnOk Try.prog 33 Try.f33 := ⟨by rfl, by kernel_rfl, by
  show okCode _ _ = true ∧ drawsOk _ = true
  exact ⟨by kernel_rfl, by kernel_rfl⟩⟩
noncomputable def cx40 : Cx := ⟨tb, [], [(25, spChB), (37, spCheck)]⟩
theorem specs40 : SpecsOk Try.prog cx40.specs := .cons rChk_ok (.cons refCheck_ok .nil)
theorem asE_at {m : Int} {b l : List entT.El} {i : Nat} {x : entT.El} (hall : ∀ y ∈ l.take i, errX y = 0) (hx : l[i]? = some x) (h : errX x ≠ 0) (he : asE m b l = errGo l) : errX x = asE m b l := by rw [he, errGo_at l i x hall hx h]
set_option maxRecDepth 100000 in
set_option maxHeartbeats 4000000 in
theorem rAsk_ok : SpecOk Try.prog 33 spAsk := by
  refine spec_body (C := cx40) mixed tbOk specs40 (callN_ok (C := cx40) mixed tbOk specs40 FnsOk.nil 0) fnOk_rAsk ?_
  intro ys p r h hp
  unfold spAsk at h
  split at h
  · rename_i m b l
    cases h
    conv => whnf
    repeat' first
      | (refine br_true (by first | with_reducible exact rfl | assumption | decide) ?_; conv => whnf)
      | (refine br_false (by first | with_reducible exact rfl | assumption | decide) ?_; conv => whnf)
      | ((with_reducible refine br_kt (by assumption) ?_); conv => whnf)
      | ((with_reducible refine br_kf (by assumption) ?_); conv => whnf)
      | ((with_reducible refine br_nt (by assumption) ?_); conv => whnf)
      | ((with_reducible refine br_nf (by assumption) ?_); conv => whnf)
      | ((with_reducible refine br_et (by assumption) ?_); conv => whnf)
      | ((with_reducible refine br_ef (by assumption) ?_); conv => whnf)
      | ((with_reducible refine br_dec (fun h => ?_) (fun h => ?_)) <;> first | (exfalso; omega) | conv => whnf)
      | ((with_reducible refine br_ndec (fun h => ?_) (fun h => ?_)) <;> first | (exfalso; omega) | conv => whnf)
      | ((with_reducible refine br_ne (fun h => ?_) (fun h => ?_)) <;> first | (exfalso; omega) | conv => whnf)
      | ((with_reducible refine br_eq (fun h => ?_) (fun h => ?_)) <;> first | (exfalso; omega) | conv => whnf)
      | (refine br_intro (fun h => ?_) (fun h => ?_) <;> conv => whnf)
      | (refine need_in (by first | exact trivial | assumption | exact ⟨rfl, Nat.le_refl _⟩ | exact ⟨rfl, rfl⟩ | (simp only [inR]; omega) | omega | (simp only [roomP, true_and, and_true, List.length_take, List.length_drop, List.length_append, List.length_cons, List.length_nil, List.length_set, List.length_replicate]; omega) | (refine ⟨by first | exact trivial | rfl, by first | exact Nat.le_refl _ | omega, ?_⟩; change roomP _ _ 1; simp only [roomP]; omega) | (change roomP _ _ 1; simp only [roomP]; omega) | (simp; omega) | (simp [inR]; omega) | (simp [inR]; done) | decide | (simp; done)) ?_; conv => whnf)
      | (refine idx_nat (by omega) (fun x hx => ?_); conv => whnf)
      | (refine frz_auto ?_; conv => whnf)
      | (refine draw_plain ?_; conv => whnf)
      | (refine idx_intro (by omega) (by omega) (fun x hx => ?_); conv => whnf)
      | (refine idx_intro (by first | omega | (simp; omega) | (simp; done)) (by first | omega | (simp; omega) | (simp; done)) (fun x hx => ?_); conv => whnf)
      | fail
    all_goals
      refine loop_inv [] [6, 7] (fun vs h => ∃ (i : Nat) (e : Int), vs = [.int .i64 e, .int .i64 (i : Int)] ∧ h = [.cells 24 [.int .i64 m, .lst entT b]] ∧ i ≤ l.length ∧ (e = 0 ∧ l.length ≤ 16 ∧ asE m b l = errGo l ∧ (∀ y ∈ l.take i, errX y = 0) ∨ e ≠ 0 ∧ e = asE m b l)) (fun vs _ => match vs with | [_, .int _ k] => l.length - k.toNat | _ => 0) ?_
    · refine ⟨⟨0, _, rfl, rfl, by omega, .inr ⟨by decide, ?_⟩⟩, ?_⟩
      · rename_i h1
        rw [asE, if_neg (by simpa using h1), if_pos (by omega)]
      · rintro vs h' - ⟨i, e, rfl, rfl, hi, he⟩
        rcases he with ⟨he0, hl16, heq, hall⟩ | ⟨he0, heq⟩
        · conv => whnf
          repeat' first
            | (refine br_true (by first | with_reducible exact rfl | assumption | decide) ?_; conv => whnf)
            | (refine br_false (by first | with_reducible exact rfl | assumption | decide) ?_; conv => whnf)
            | ((with_reducible refine br_kt (by assumption) ?_); conv => whnf)
            | ((with_reducible refine br_kf (by assumption) ?_); conv => whnf)
            | ((with_reducible refine br_nt (by assumption) ?_); conv => whnf)
            | ((with_reducible refine br_nf (by assumption) ?_); conv => whnf)
            | ((with_reducible refine br_et (by assumption) ?_); conv => whnf)
            | ((with_reducible refine br_ef (by assumption) ?_); conv => whnf)
            | ((with_reducible refine br_dec (fun h => ?_) (fun h => ?_)) <;> first | (exfalso; omega) | conv => whnf)
            | ((with_reducible refine br_ndec (fun h => ?_) (fun h => ?_)) <;> first | (exfalso; omega) | conv => whnf)
            | ((with_reducible refine br_ne (fun h => ?_) (fun h => ?_)) <;> first | (exfalso; omega) | conv => whnf)
            | ((with_reducible refine br_eq (fun h => ?_) (fun h => ?_)) <;> first | (exfalso; omega) | conv => whnf)
            | (refine br_intro (fun h => ?_) (fun h => ?_) <;> conv => whnf)
            | (refine need_in (by first | exact trivial | assumption | exact ⟨rfl, Nat.le_refl _⟩ | exact ⟨rfl, rfl⟩ | (simp only [inR]; omega) | omega | (simp only [roomP, true_and, and_true, List.length_take, List.length_drop, List.length_append, List.length_cons, List.length_nil, List.length_set, List.length_replicate]; omega) | (refine ⟨by first | exact trivial | rfl, by first | exact Nat.le_refl _ | omega, ?_⟩; change roomP _ _ 1; simp only [roomP]; omega) | (change roomP _ _ 1; simp only [roomP]; omega) | (simp; omega) | (simp [inR]; omega) | (simp [inR]; done) | decide | (simp; done)) ?_; conv => whnf)
            | (refine idx_nat (by omega) (fun x hx => ?_); conv => whnf)
            | (refine frz_auto ?_; conv => whnf)
            | (refine draw_plain ?_; conv => whnf)
            | (refine idx_intro (by omega) (by omega) (fun x hx => ?_); conv => whnf)
            | (refine idx_intro (by first | omega | (simp; omega) | (simp; done)) (by first | omega | (simp; omega) | (simp; done)) (fun x hx => ?_); conv => whnf)
            | fail
          all_goals first
            | (refine back_intro (by conv => whnf) rfl ⟨i + 1, _, rfl, rfl, by omega, ?_⟩ ?_
               · by_cases hx0 : errX x = 0
                 · exact .inl ⟨hx0, hl16, heq, take_succ_all hall hx hx0⟩
                 · exact .inr ⟨hx0, asE_at hall hx hx0 heq⟩
               · show l.length - ((i : Int) + 1).toNat < l.length - (i : Int).toNat
                 omega)
            | (refine congrArg (AV.int .i64) ?_
               rw [he0, heq]
               refine (errGo_zero l (fun y hy => hall y ?_)).symm
               rw [show i = l.length by omega, List.take_length]
               exact hy)
        · conv => whnf
          repeat' first
            | (refine br_true (by first | with_reducible exact rfl | assumption | decide) ?_; conv => whnf)
            | (refine br_false (by first | with_reducible exact rfl | assumption | decide) ?_; conv => whnf)
            | ((with_reducible refine br_kt (by assumption) ?_); conv => whnf)
            | ((with_reducible refine br_kf (by assumption) ?_); conv => whnf)
            | ((with_reducible refine br_nt (by assumption) ?_); conv => whnf)
            | ((with_reducible refine br_nf (by assumption) ?_); conv => whnf)
            | ((with_reducible refine br_et (by assumption) ?_); conv => whnf)
            | ((with_reducible refine br_ef (by assumption) ?_); conv => whnf)
            | ((with_reducible refine br_dec (fun h => ?_) (fun h => ?_)) <;> first | (exfalso; omega) | conv => whnf)
            | ((with_reducible refine br_ndec (fun h => ?_) (fun h => ?_)) <;> first | (exfalso; omega) | conv => whnf)
            | ((with_reducible refine br_ne (fun h => ?_) (fun h => ?_)) <;> first | (exfalso; omega) | conv => whnf)
            | ((with_reducible refine br_eq (fun h => ?_) (fun h => ?_)) <;> first | (exfalso; omega) | conv => whnf)
            | (refine br_intro (fun h => ?_) (fun h => ?_) <;> conv => whnf)
            | (refine need_in (by first | exact trivial | assumption | exact ⟨rfl, Nat.le_refl _⟩ | exact ⟨rfl, rfl⟩ | (simp only [inR]; omega) | omega | (simp only [roomP, true_and, and_true, List.length_take, List.length_drop, List.length_append, List.length_cons, List.length_nil, List.length_set, List.length_replicate]; omega) | (refine ⟨by first | exact trivial | rfl, by first | exact Nat.le_refl _ | omega, ?_⟩; change roomP _ _ 1; simp only [roomP]; omega) | (change roomP _ _ 1; simp only [roomP]; omega) | (simp; omega) | (simp [inR]; omega) | (simp [inR]; done) | decide | (simp; done)) ?_; conv => whnf)
            | (refine idx_nat (by omega) (fun x hx => ?_); conv => whnf)
            | (refine frz_auto ?_; conv => whnf)
            | (refine draw_plain ?_; conv => whnf)
            | (refine idx_intro (by omega) (by omega) (fun x hx => ?_); conv => whnf)
            | (refine idx_intro (by first | omega | (simp; omega) | (simp; done)) (by first | omega | (simp; omega) | (simp; done)) (fun x hx => ?_); conv => whnf)
            | fail
          all_goals exact congrArg (AV.int .i64) heq
    · refine ⟨⟨0, _, rfl, rfl, by omega, .inl ?_⟩, ?_⟩
      · rename_i h1
        exact ⟨h1, by omega, by rw [asE, if_neg (by simpa using h1), if_neg (by omega)], by simp⟩
      · rintro vs h' - ⟨i, e, rfl, rfl, hi, he⟩
        rcases he with ⟨he0, hl16, heq, hall⟩ | ⟨he0, heq⟩
        · conv => whnf
          repeat' first
            | (refine br_true (by first | with_reducible exact rfl | assumption | decide) ?_; conv => whnf)
            | (refine br_false (by first | with_reducible exact rfl | assumption | decide) ?_; conv => whnf)
            | ((with_reducible refine br_kt (by assumption) ?_); conv => whnf)
            | ((with_reducible refine br_kf (by assumption) ?_); conv => whnf)
            | ((with_reducible refine br_nt (by assumption) ?_); conv => whnf)
            | ((with_reducible refine br_nf (by assumption) ?_); conv => whnf)
            | ((with_reducible refine br_et (by assumption) ?_); conv => whnf)
            | ((with_reducible refine br_ef (by assumption) ?_); conv => whnf)
            | ((with_reducible refine br_dec (fun h => ?_) (fun h => ?_)) <;> first | (exfalso; omega) | conv => whnf)
            | ((with_reducible refine br_ndec (fun h => ?_) (fun h => ?_)) <;> first | (exfalso; omega) | conv => whnf)
            | ((with_reducible refine br_ne (fun h => ?_) (fun h => ?_)) <;> first | (exfalso; omega) | conv => whnf)
            | ((with_reducible refine br_eq (fun h => ?_) (fun h => ?_)) <;> first | (exfalso; omega) | conv => whnf)
            | (refine br_intro (fun h => ?_) (fun h => ?_) <;> conv => whnf)
            | (refine need_in (by first | exact trivial | assumption | exact ⟨rfl, Nat.le_refl _⟩ | exact ⟨rfl, rfl⟩ | (simp only [inR]; omega) | omega | (simp only [roomP, true_and, and_true, List.length_take, List.length_drop, List.length_append, List.length_cons, List.length_nil, List.length_set, List.length_replicate]; omega) | (refine ⟨by first | exact trivial | rfl, by first | exact Nat.le_refl _ | omega, ?_⟩; change roomP _ _ 1; simp only [roomP]; omega) | (change roomP _ _ 1; simp only [roomP]; omega) | (simp; omega) | (simp [inR]; omega) | (simp [inR]; done) | decide | (simp; done)) ?_; conv => whnf)
            | (refine idx_nat (by omega) (fun x hx => ?_); conv => whnf)
            | (refine frz_auto ?_; conv => whnf)
            | (refine draw_plain ?_; conv => whnf)
            | (refine idx_intro (by omega) (by omega) (fun x hx => ?_); conv => whnf)
            | (refine idx_intro (by first | omega | (simp; omega) | (simp; done)) (by first | omega | (simp; omega) | (simp; done)) (fun x hx => ?_); conv => whnf)
            | fail
          all_goals first
            | (refine back_intro (by conv => whnf) rfl ⟨i + 1, _, rfl, rfl, by omega, ?_⟩ ?_
               · by_cases hx0 : errX x = 0
                 · exact .inl ⟨hx0, hl16, heq, take_succ_all hall hx hx0⟩
                 · exact .inr ⟨hx0, asE_at hall hx hx0 heq⟩
               · show l.length - ((i : Int) + 1).toNat < l.length - (i : Int).toNat
                 omega)
            | (refine congrArg (AV.int .i64) ?_
               rw [he0, heq]
               refine (errGo_zero l (fun y hy => hall y ?_)).symm
               rw [show i = l.length by omega, List.take_length]
               exact hy)
        · conv => whnf
          repeat' first
            | (refine br_true (by first | with_reducible exact rfl | assumption | decide) ?_; conv => whnf)
            | (refine br_false (by first | with_reducible exact rfl | assumption | decide) ?_; conv => whnf)
            | ((with_reducible refine br_kt (by assumption) ?_); conv => whnf)
            | ((with_reducible refine br_kf (by assumption) ?_); conv => whnf)
            | ((with_reducible refine br_nt (by assumption) ?_); conv => whnf)
            | ((with_reducible refine br_nf (by assumption) ?_); conv => whnf)
            | ((with_reducible refine br_et (by assumption) ?_); conv => whnf)
            | ((with_reducible refine br_ef (by assumption) ?_); conv => whnf)
            | ((with_reducible refine br_dec (fun h => ?_) (fun h => ?_)) <;> first | (exfalso; omega) | conv => whnf)
            | ((with_reducible refine br_ndec (fun h => ?_) (fun h => ?_)) <;> first | (exfalso; omega) | conv => whnf)
            | ((with_reducible refine br_ne (fun h => ?_) (fun h => ?_)) <;> first | (exfalso; omega) | conv => whnf)
            | ((with_reducible refine br_eq (fun h => ?_) (fun h => ?_)) <;> first | (exfalso; omega) | conv => whnf)
            | (refine br_intro (fun h => ?_) (fun h => ?_) <;> conv => whnf)
            | (refine need_in (by first | exact trivial | assumption | exact ⟨rfl, Nat.le_refl _⟩ | exact ⟨rfl, rfl⟩ | (simp only [inR]; omega) | omega | (simp only [roomP, true_and, and_true, List.length_take, List.length_drop, List.length_append, List.length_cons, List.length_nil, List.length_set, List.length_replicate]; omega) | (refine ⟨by first | exact trivial | rfl, by first | exact Nat.le_refl _ | omega, ?_⟩; change roomP _ _ 1; simp only [roomP]; omega) | (change roomP _ _ 1; simp only [roomP]; omega) | (simp; omega) | (simp [inR]; omega) | (simp [inR]; done) | decide | (simp; done)) ?_; conv => whnf)
            | (refine idx_nat (by omega) (fun x hx => ?_); conv => whnf)
            | (refine frz_auto ?_; conv => whnf)
            | (refine draw_plain ?_; conv => whnf)
            | (refine idx_intro (by omega) (by omega) (fun x hx => ?_); conv => whnf)
            | (refine idx_intro (by first | omega | (simp; omega) | (simp; done)) (by first | omega | (simp; omega) | (simp; done)) (fun x hx => ?_); conv => whnf)
            | fail
          all_goals exact congrArg (AV.int .i64) heq
    · refine ⟨⟨0, _, rfl, rfl, by omega, .inr ⟨h, ?_⟩⟩, ?_⟩
      · rw [asE, if_pos h]
      · rintro vs h' - ⟨i, e, rfl, rfl, hi, he⟩
        rcases he with ⟨he0, hl16, heq, hall⟩ | ⟨he0, heq⟩
        · conv => whnf
          repeat' first
            | (refine br_true (by first | with_reducible exact rfl | assumption | decide) ?_; conv => whnf)
            | (refine br_false (by first | with_reducible exact rfl | assumption | decide) ?_; conv => whnf)
            | ((with_reducible refine br_kt (by assumption) ?_); conv => whnf)
            | ((with_reducible refine br_kf (by assumption) ?_); conv => whnf)
            | ((with_reducible refine br_nt (by assumption) ?_); conv => whnf)
            | ((with_reducible refine br_nf (by assumption) ?_); conv => whnf)
            | ((with_reducible refine br_et (by assumption) ?_); conv => whnf)
            | ((with_reducible refine br_ef (by assumption) ?_); conv => whnf)
            | ((with_reducible refine br_dec (fun h => ?_) (fun h => ?_)) <;> first | (exfalso; omega) | conv => whnf)
            | ((with_reducible refine br_ndec (fun h => ?_) (fun h => ?_)) <;> first | (exfalso; omega) | conv => whnf)
            | ((with_reducible refine br_ne (fun h => ?_) (fun h => ?_)) <;> first | (exfalso; omega) | conv => whnf)
            | ((with_reducible refine br_eq (fun h => ?_) (fun h => ?_)) <;> first | (exfalso; omega) | conv => whnf)
            | (refine br_intro (fun h => ?_) (fun h => ?_) <;> conv => whnf)
            | (refine need_in (by first | exact trivial | assumption | exact ⟨rfl, Nat.le_refl _⟩ | exact ⟨rfl, rfl⟩ | (simp only [inR]; omega) | omega | (simp only [roomP, true_and, and_true, List.length_take, List.length_drop, List.length_append, List.length_cons, List.length_nil, List.length_set, List.length_replicate]; omega) | (refine ⟨by first | exact trivial | rfl, by first | exact Nat.le_refl _ | omega, ?_⟩; change roomP _ _ 1; simp only [roomP]; omega) | (change roomP _ _ 1; simp only [roomP]; omega) | (simp; omega) | (simp [inR]; omega) | (simp [inR]; done) | decide | (simp; done)) ?_; conv => whnf)
            | (refine idx_nat (by omega) (fun x hx => ?_); conv => whnf)
            | (refine frz_auto ?_; conv => whnf)
            | (refine draw_plain ?_; conv => whnf)
            | (refine idx_intro (by omega) (by omega) (fun x hx => ?_); conv => whnf)
            | (refine idx_intro (by first | omega | (simp; omega) | (simp; done)) (by first | omega | (simp; omega) | (simp; done)) (fun x hx => ?_); conv => whnf)
            | fail
          all_goals first
            | (refine back_intro (by conv => whnf) rfl ⟨i + 1, _, rfl, rfl, by omega, ?_⟩ ?_
               · by_cases hx0 : errX x = 0
                 · exact .inl ⟨hx0, hl16, heq, take_succ_all hall hx hx0⟩
                 · exact .inr ⟨hx0, asE_at hall hx hx0 heq⟩
               · show l.length - ((i : Int) + 1).toNat < l.length - (i : Int).toNat
                 omega)
            | (refine congrArg (AV.int .i64) ?_
               rw [he0, heq]
               refine (errGo_zero l (fun y hy => hall y ?_)).symm
               rw [show i = l.length by omega, List.take_length]
               exact hy)
        · conv => whnf
          repeat' first
            | (refine br_true (by first | with_reducible exact rfl | assumption | decide) ?_; conv => whnf)
            | (refine br_false (by first | with_reducible exact rfl | assumption | decide) ?_; conv => whnf)
            | ((with_reducible refine br_kt (by assumption) ?_); conv => whnf)
            | ((with_reducible refine br_kf (by assumption) ?_); conv => whnf)
            | ((with_reducible refine br_nt (by assumption) ?_); conv => whnf)
            | ((with_reducible refine br_nf (by assumption) ?_); conv => whnf)
            | ((with_reducible refine br_et (by assumption) ?_); conv => whnf)
            | ((with_reducible refine br_ef (by assumption) ?_); conv => whnf)
            | ((with_reducible refine br_dec (fun h => ?_) (fun h => ?_)) <;> first | (exfalso; omega) | conv => whnf)
            | ((with_reducible refine br_ndec (fun h => ?_) (fun h => ?_)) <;> first | (exfalso; omega) | conv => whnf)
            | ((with_reducible refine br_ne (fun h => ?_) (fun h => ?_)) <;> first | (exfalso; omega) | conv => whnf)
            | ((with_reducible refine br_eq (fun h => ?_) (fun h => ?_)) <;> first | (exfalso; omega) | conv => whnf)
            | (refine br_intro (fun h => ?_) (fun h => ?_) <;> conv => whnf)
            | (refine need_in (by first | exact trivial | assumption | exact ⟨rfl, Nat.le_refl _⟩ | exact ⟨rfl, rfl⟩ | (simp only [inR]; omega) | omega | (simp only [roomP, true_and, and_true, List.length_take, List.length_drop, List.length_append, List.length_cons, List.length_nil, List.length_set, List.length_replicate]; omega) | (refine ⟨by first | exact trivial | rfl, by first | exact Nat.le_refl _ | omega, ?_⟩; change roomP _ _ 1; simp only [roomP]; omega) | (change roomP _ _ 1; simp only [roomP]; omega) | (simp; omega) | (simp [inR]; omega) | (simp [inR]; done) | decide | (simp; done)) ?_; conv => whnf)
            | (refine idx_nat (by omega) (fun x hx => ?_); conv => whnf)
            | (refine frz_auto ?_; conv => whnf)
            | (refine draw_plain ?_; conv => whnf)
            | (refine idx_intro (by omega) (by omega) (fun x hx => ?_); conv => whnf)
            | (refine idx_intro (by first | omega | (simp; omega) | (simp; done)) (by first | omega | (simp; omega) | (simp; done)) (fun x hx => ?_); conv => whnf)
            | fail
          all_goals exact congrArg (AV.int .i64) heq
  · cases h
def rpStep (x : entT.El) (st : List entT.El × Int × Bool) (y : entT.El) : List entT.El × Int × Bool :=
  ((if sEq y.1 x.1 = true then (if (!sLt y.1 x.1 && !st.2.2) = true then st.1 ++ [x] else st.1) else (if (!sLt y.1 x.1 && !st.2.2) = true then st.1 ++ [x] else st.1) ++ [y]), st.2.1 + (if sLt x.1 y.1 = true then 1 else 0), st.2.2 || !sLt y.1 x.1)
theorem sEq_lt {a b : ByteArray} (h : sLt a b = true) : sEq a b = false ∧ sEq b a = false ∧ sLt b a = false := by
  refine ⟨?_, ?_, ?_⟩
  · cases he : sEq a b with
    | false => rfl
    | true => rw [sEq_eq he, sLt_irrefl] at h; cases h
  · cases he : sEq b a with
    | false => rfl
    | true => rw [sEq_eq he, sLt_irrefl] at h; cases h
  · cases hl : sLt b a with
    | false => rfl
    | true => have := sLt_trans h hl; rw [sLt_irrefl] at this; cases this
theorem sLt_tot {a b : ByteArray} (h1 : sLt a b = false) (h2 : sEq a b = false) : sLt b a = true := by
  cases h : sLt b a with
  | true => rfl
  | false =>
    exfalso
    have := bl_total _ _ h1 h
    simp [sEq, this] at h2
theorem rp_done (x : entT.El) : ∀ (l out : List entT.El) (w : Int), (∀ y ∈ l, sLt x.1 y.1 = true) → l.foldl (rpStep x) (out, w, true) = (out ++ l, w + l.length, true)
  | [], out, w, _ => by simp
  | y :: l, out, w, h => by
    have hy := h y (by simp)
    obtain ⟨h1, h2, h3⟩ := sEq_lt hy
    have e : rpStep x (out, w, true) y = (out ++ [y], w + 1, true) := by simp [rpStep, h2, hy]
    rw [List.foldl_cons, e, rp_done x l _ _ (fun z hz => h z (by simp [hz])), List.append_assoc]
    rw [show w + 1 + (l.length : Int) = w + ((y :: l).length : Int) by rw [List.length_cons]; omega]
    rfl
theorem put1_cons_lt {x y : entT.El} {l : List entT.El} (h : sLt y.1 x.1 = true) : put1 (y :: l) x = y :: put1 l x ∧ wk1 (y :: l) x = wk1 l x := by
  have h1 : lb x.1 (y :: l) = lb x.1 l + 1 := by rw [lb, if_pos h]
  have h2 : foundK x.1 (y :: l) = foundK x.1 l := by unfold foundK; rw [h1]; rfl
  constructor
  · unfold put1
    rw [h1, h2]
    split <;> rfl
  · unfold wk1
    rw [h1, h2, List.length_cons]
    omega
theorem put1_cons_eq {x y : entT.El} {l : List entT.El} (h : sLt y.1 x.1 = false) (he : sEq y.1 x.1 = true) : put1 (y :: l) x = x :: l ∧ wk1 (y :: l) x = l.length + 1 := by
  have h1 : lb x.1 (y :: l) = 0 := by rw [lb, if_neg (by rw [h]; decide)]
  have h2 : foundK x.1 (y :: l) = true := by unfold foundK; rw [h1]; exact he
  constructor
  · unfold put1
    rw [h1, if_pos h2]
    rfl
  · unfold wk1
    rw [h1, if_pos h2, List.length_cons]
    omega
theorem put1_cons_gt {x y : entT.El} {l : List entT.El} (h : sLt y.1 x.1 = false) (he : sEq y.1 x.1 = false) : put1 (y :: l) x = x :: y :: l ∧ wk1 (y :: l) x = l.length + 2 := by
  have h1 : lb x.1 (y :: l) = 0 := by rw [lb, if_neg (by rw [h]; decide)]
  have h2 : foundK x.1 (y :: l) = false := by unfold foundK; rw [h1]; exact he
  constructor
  · unfold put1
    rw [h1, if_neg (by rw [h2]; decide)]
    rfl
  · unfold wk1
    rw [h1, if_neg (by rw [h2]; decide), List.length_cons]
    omega
theorem rp_put (x : entT.El) : ∀ (l out : List entT.El) (w : Int), ascS l → (if (l.foldl (rpStep x) (out, w, false)).2.2 = true then (l.foldl (rpStep x) (out, w, false)).1 else (l.foldl (rpStep x) (out, w, false)).1 ++ [x]) = out ++ put1 l x ∧ (l.foldl (rpStep x) (out, w, false)).2.1 = w + wk1 l x - 1
  | [], out, w, _ => by
    constructor
    · rfl
    · show w = w + wk1 [] x - 1
      unfold wk1 foundK
      simp [lb]
  | y :: l, out, w, ha => by
    rw [List.foldl_cons]
    cases h1 : sLt y.1 x.1 with
    | true =>
      obtain ⟨h2, _, h4⟩ := sEq_lt h1
      have e : rpStep x (out, w, false) y = (out ++ [y], w, false) := by simp [rpStep, h1, h2, h4]
      rw [e]
      obtain ⟨i1, i2⟩ := rp_put x l (out ++ [y]) w (ascS_tail ha)
      obtain ⟨p1, p2⟩ := put1_cons_lt (l := l) h1
      rw [i1, i2, p1, p2, List.append_assoc]
      exact ⟨rfl, rfl⟩
    | false =>
      cases h2 : sEq y.1 x.1 with
      | true =>
        have h3 : sLt x.1 y.1 = false := by rw [sEq_eq h2]; exact sLt_irrefl _
        have e : rpStep x (out, w, false) y = (out ++ [x], w, true) := by simp [rpStep, h1, h2, h3]
        have hgt : ∀ z ∈ l, sLt x.1 z.1 = true := fun z hz => by
          obtain ⟨k, hk⟩ := List.mem_iff_getElem?.1 hz
          rw [← sEq_eq h2]
          exact ascS_head ha hk
        obtain ⟨p1, p2⟩ := put1_cons_eq (l := l) h1 h2
        rw [e, rp_done x l _ _ hgt, p1, p2, if_pos rfl, List.append_assoc]
        exact ⟨rfl, show w + (l.length : Int) = _ by omega⟩
      | false =>
        have h3 := sLt_tot h1 h2
        have e : rpStep x (out, w, false) y = (out ++ [x] ++ [y], w + 1, true) := by simp [rpStep, h1, h2, h3]
        have hgt : ∀ z ∈ l, sLt x.1 z.1 = true := fun z hz => by
          obtain ⟨k, hk⟩ := List.mem_iff_getElem?.1 hz
          exact sLt_trans h3 (ascS_head ha hk)
        obtain ⟨p1, p2⟩ := put1_cons_gt (l := l) h1 h2
        rw [e, rp_done x l _ _ hgt, p1, p2, if_pos rfl, List.append_assoc, List.append_assoc]
        exact ⟨rfl, show w + 1 + (l.length : Int) = _ by omega⟩
theorem app_two (out : List entT.El) (x y : entT.El) : List.take (out.length + (List.take 1 [x]).length) (List.take out.length out ++ List.take 1 [x]) ++ List.take 1 [y] = out ++ [x] ++ [y] := by
  rw [List.take_length, List.take_of_length_le (by simp)]
  rfl
theorem app_all (out : List entT.El) (x : entT.El) : List.take (out.length + (List.take 1 [x]).length) (List.take out.length out ++ List.take 1 [x]) = out ++ [x] := by
  rw [List.take_length, List.take_of_length_le (by simp)]
  rfl
theorem two_li {a b : List entT.El} {w v : Int} (h : a = b) (h2 : w = v) : AV.tup [.lst entT a, .int .i64 w] = AV.tup [.lst entT b, .int .i64 v] := by rw [h, h2]
theorem fnOk_rPut : FnOk Try.prog 46 Try.f46 := ⟨by rfl, by kernel_rfl, by
  show okCode _ _ = true ∧ drawsOk _ = true
  exact ⟨by kernel_rfl, by kernel_rfl⟩⟩
def spPut1 : DSpec
  | [.lst (.st [.str, .str, .bool, .int .i64]) l, .agg [.str k, .str v, .bool d, .int .i64 s]] => some (ascS l ∧ l.length ≤ 100000, .tup [.lst entT (put1 l (mkE k v d s)), .int .i64 (wk1 l (mkE k v d s))])
  | _ => none
theorem rp_take {x y : entT.El} {l : List entT.El} {i : Nat} {st : List entT.El × Int × Bool} (hy : l[i]? = some y) (h : (l.take i).foldl (rpStep x) ([], 1, false) = st) : (l.take (i + 1)).foldl (rpStep x) ([], 1, false) = rpStep x st y := by
  rw [List.take_add_one, hy, List.foldl_append, h]
  rfl
theorem own_eq3 {id g n m : Nat} {a b c : AV} (h : n = m) : [AV.own id g n, a, b, c] = [AV.own id g m, a, b, c] := by rw [h]
theorem heap_eq3 {a b : AObj} {T : TypeId} {t : Ty} {g : Nat} {l m : List t.El} (h : l = m) : [a, b, .arr T t l false g] = [a, b, AObj.arr T t m false g] := by rw [h]
set_option maxRecDepth 100000 in
set_option maxHeartbeats 8000000 in
theorem rPut_ok : SpecOk Try.prog 46 spPut1 := by
  refine spec_body (C := cx0) mixed tbOk SpecsOk.nil (callN_ok (C := cx0) mixed tbOk SpecsOk.nil FnsOk.nil 0) fnOk_rPut ?_
  intro ys p r h hp
  unfold spPut1 at h
  split at h
  · rename_i l k v d s
    cases h
    obtain ⟨ha, hl⟩ := hp
    conv => whnf
    refine loop_inv [] [6, 7, 8, 9] (fun vs h => ∃ (i g : Nat) (out : List entT.El) (w : Int) (dn : Bool), vs = [.own 2 g out.length, .int .i64 w, .bool dn, .int .i64 (i : Int)] ∧ h = [.cells 35 [.str k, .str v, .bool d, .int .i64 s], .arr 35 entT [] false 0, .arr 35 entT out false g] ∧ i ≤ l.length ∧ out.length ≤ 2 * i ∧ 1 ≤ w ∧ w ≤ 1 + i ∧ (l.take i).foldl (rpStep (mkE k v d s)) ([], 1, false) = (out, w, dn)) (fun vs _ => match vs with | [_, _, _, .int _ k] => l.length - k.toNat | _ => 0) ?_
    conv => whnf
    refine ⟨⟨0, 0, [], 1, false, rfl, rfl, Nat.zero_le _, by simp, by omega, by omega, rfl⟩, ?_⟩
    rintro vs h' - ⟨i, g, out, w, dn, rfl, rfl, hi, ho, hw1, hw2, hf⟩
    by_cases hil : i < l.length
    · obtain ⟨y, hy⟩ : ∃ y, l[i]? = some y := ⟨_, List.getElem?_eq_getElem hil⟩
      have hstep := rp_take hy hf
      conv => whnf
      repeat' first
        | (refine idx_kn (by assumption) ?_; conv => whnf)
        | (refine br_true (by first | with_reducible exact rfl | assumption | decide) ?_; conv => whnf)
        | (refine br_false (by first | with_reducible exact rfl | assumption | decide) ?_; conv => whnf)
        | ((with_reducible refine br_kt (by assumption) ?_); conv => whnf)
        | ((with_reducible refine br_kf (by assumption) ?_); conv => whnf)
        | ((with_reducible refine br_nt (by assumption) ?_); conv => whnf)
        | ((with_reducible refine br_nf (by assumption) ?_); conv => whnf)
        | ((with_reducible refine br_et (by assumption) ?_); conv => whnf)
        | ((with_reducible refine br_ef (by assumption) ?_); conv => whnf)
        | ((with_reducible refine br_dec (fun h => ?_) (fun h => ?_)) <;> first | (exfalso; omega) | conv => whnf)
        | ((with_reducible refine br_ndec (fun h => ?_) (fun h => ?_)) <;> first | (exfalso; omega) | conv => whnf)
        | ((with_reducible refine br_ne (fun h => ?_) (fun h => ?_)) <;> first | (exfalso; omega) | conv => whnf)
        | ((with_reducible refine br_eq (fun h => ?_) (fun h => ?_)) <;> first | (exfalso; omega) | conv => whnf)
        | (refine br_intro (fun h => ?_) (fun h => ?_) <;> conv => whnf)
        | (refine need_in (by first | exact trivial | assumption | exact ⟨rfl, Nat.le_refl _⟩ | exact ⟨rfl, rfl⟩ | (simp only [inR]; omega) | omega | (simp only [roomP, true_and, and_true, List.length_take, List.length_drop, List.length_append, List.length_cons, List.length_nil, List.length_set, List.length_replicate]; omega) | (refine ⟨by first | exact trivial | rfl, by first | exact Nat.le_refl _ | omega, ?_⟩; change roomP _ _ 1; simp only [roomP]; omega) | (change roomP _ _ 1; simp only [roomP]; omega) | (simp; omega) | (simp [inR]; omega) | (simp [inR]; done) | decide | (simp; done)) ?_; conv => whnf)
        | (refine idx_nat (by omega) (fun x hx => ?_); conv => whnf)
        | (refine frz_auto ?_; conv => whnf)
        | (refine draw_plain ?_; conv => whnf)
        | (refine idx_intro (by omega) (by omega) (fun x hx => ?_); conv => whnf)
        | (refine idx_intro (by first | omega | (simp; omega) | (simp; done)) (by first | omega | (simp; omega) | (simp; done)) (fun x hx => ?_); conv => whnf)
        | fail
      all_goals first
        | (refine back_intro (by conv => whnf) rfl ⟨i + 1, g, out, _, _, rfl, rfl, by omega, by omega, by omega, by omega, hstep.trans (by first | (simp [rpStep, *]; done) | grind [rpStep])⟩ ?_
           show l.length - ((i : Int) + 1).toNat < l.length - (i : Int).toNat
           omega)
        | (refine back_intro (by conv => whnf) rfl ⟨i + 1, g + 1, out ++ [mkE k v d s], _, _, own_eq3 ?_, heap_eq3 ?_, by omega, by simp; omega, by omega, by omega, hstep.trans (by first | (simp [rpStep, *]; done) | grind [rpStep])⟩ ?_
           · rw [List.length_append]; rfl
           · simp only [cast_self, List.take_length]; rfl
           · show l.length - ((i : Int) + 1).toNat < l.length - (i : Int).toNat
             omega)
        | (refine back_intro (by conv => whnf) rfl ⟨i + 1, g + 1, out ++ [y], _, _, own_eq3 ?_, heap_eq3 ?_, by omega, by simp; omega, by omega, by omega, hstep.trans (by first | (simp [rpStep, *]; done) | grind [rpStep])⟩ ?_
           · rw [List.length_append]; rfl
           · simp only [cast_self, List.take_length]; rfl
           · show l.length - ((i : Int) + 1).toNat < l.length - (i : Int).toNat
             omega)
        | (refine back_intro (by conv => whnf) rfl ⟨i + 1, g + 2, out ++ [mkE k v d s] ++ [y], _, _, own_eq3 ?_, heap_eq3 ?_, by omega, by simp; omega, by omega, by omega, hstep.trans (by first | (simp [rpStep, *]; done) | grind [rpStep])⟩ ?_
           · rw [List.length_append, List.length_append]; rfl
           · exact app_two out _ _
           · show l.length - ((i : Int) + 1).toNat < l.length - (i : Int).toNat
             omega)
    · have e : i = l.length := by omega
      rw [e, List.take_length] at hf
      obtain ⟨q1, q2⟩ := rp_put (mkE k v d s) l [] 1 ha
      rw [hf] at q1 q2
      conv => whnf
      repeat' first
        | (refine br_true (by first | with_reducible exact rfl | assumption | decide) ?_; conv => whnf)
        | (refine br_false (by first | with_reducible exact rfl | assumption | decide) ?_; conv => whnf)
        | ((with_reducible refine br_kt (by assumption) ?_); conv => whnf)
        | ((with_reducible refine br_kf (by assumption) ?_); conv => whnf)
        | ((with_reducible refine br_nt (by assumption) ?_); conv => whnf)
        | ((with_reducible refine br_nf (by assumption) ?_); conv => whnf)
        | ((with_reducible refine br_et (by assumption) ?_); conv => whnf)
        | ((with_reducible refine br_ef (by assumption) ?_); conv => whnf)
        | ((with_reducible refine br_dec (fun h => ?_) (fun h => ?_)) <;> first | (exfalso; omega) | conv => whnf)
        | ((with_reducible refine br_ndec (fun h => ?_) (fun h => ?_)) <;> first | (exfalso; omega) | conv => whnf)
        | ((with_reducible refine br_ne (fun h => ?_) (fun h => ?_)) <;> first | (exfalso; omega) | conv => whnf)
        | ((with_reducible refine br_eq (fun h => ?_) (fun h => ?_)) <;> first | (exfalso; omega) | conv => whnf)
        | (refine br_intro (fun h => ?_) (fun h => ?_) <;> conv => whnf)
        | (refine need_in (by first | exact trivial | assumption | exact ⟨rfl, Nat.le_refl _⟩ | exact ⟨rfl, rfl⟩ | (simp only [inR]; omega) | omega | (simp only [roomP, true_and, and_true, List.length_take, List.length_drop, List.length_append, List.length_cons, List.length_nil, List.length_set, List.length_replicate]; omega) | (refine ⟨by first | exact trivial | rfl, by first | exact Nat.le_refl _ | omega, ?_⟩; change roomP _ _ 1; simp only [roomP]; omega) | (change roomP _ _ 1; simp only [roomP]; omega) | (simp; omega) | (simp [inR]; omega) | (simp [inR]; done) | decide | (simp; done)) ?_; conv => whnf)
        | (refine idx_nat (by omega) (fun x hx => ?_); conv => whnf)
        | (refine frz_auto ?_; conv => whnf)
        | (refine draw_plain ?_; conv => whnf)
        | (refine idx_intro (by omega) (by omega) (fun x hx => ?_); conv => whnf)
        | (refine idx_intro (by first | omega | (simp; omega) | (simp; done)) (by first | omega | (simp; omega) | (simp; done)) (fun x hx => ?_); conv => whnf)
        | fail
      · rw [if_neg (by simpa using h)] at q1
        refine two_li (Eq.trans ?_ (q1.trans (List.nil_append _))) (q2.trans (by omega))
        exact app_all out _
      · rw [if_pos (by simpa using h)] at q1
        refine two_li (Eq.trans ?_ (q1.trans (List.nil_append _))) (q2.trans (by omega))
        exact List.take_length
  · cases h
end Go.Proofs.Ytfnikjihjjniiaa
