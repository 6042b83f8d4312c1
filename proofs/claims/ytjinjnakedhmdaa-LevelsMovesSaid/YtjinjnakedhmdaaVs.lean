/-
  Levels: With, Arrive and Leave of the reference.
  Levels: the law of moves.
-/
import Derived.Test.YtjinjnakedhmdaaVm
import Derived.Test.YtjinjnakedhmdaaVk
import Derived.Test.YtjinjnakedhmdaaVo
import Derived.Test.YtjinjnakedhmdaaVn
namespace Go.Proofs.Ytjinjnakedhmdaa
open Av Bk

structure WOk (l : List lvT.El) (n : Int) : Prop where
  n0 : 0 ≤ n
  n1 : n < 12
  len : l.length ≤ 12
  own : ∀ i : Int, (ownL l i).length ≤ 1000
def spWithR : DSpec
  | [.agg [.int .i64 b, .lst (.st [.sl (.st [.int .i64, .sl (.st [.str, .str, .bool, .int .i64])])]) l], .int .i64 n, .lst (.st [.int .i64, .sl (.st [.str, .str, .bool, .int .i64])]) rs] => some (rs.length ≤ 1000 ∧ WOk l n, .agg [.int .i64 b, .lst lvT (withL l n.toNat rs)])
  | _ => none
theorem put_get' {l : List lvT.El} {m : Nat} {rs : List runT.El} {i : Nat} (h : i < (putLv l m rs).length) : (putLv l m rs)[i]? = some ((if i = m then rs else atL l i), ()) := by
  have h1 := put_at l m rs i
  rw [List.getElem?_eq_getElem h]
  rw [atL_get (List.getElem?_eq_getElem h)] at h1
  exact congrArg some (Prod.ext h1 rfl)
set_option maxRecDepth 100000 in
theorem fnOk_r15With : FnOk Try.prog 48 Try.f48 := ⟨by rfl, by kernel_rfl, by
  show okCode _ _ = true ∧ drawsOk _ = true
  exact ⟨by kernel_rfl, by kernel_rfl⟩⟩
noncomputable def cvH : Cx := ⟨tb, [], [(47, spOwnL)]⟩
theorem spvH : SpecsOk Try.prog cvH.specs := .cons r15Own_ok .nil
set_option maxRecDepth 100000 in
set_option maxHeartbeats 4000000 in
theorem r15With_ok : SpecOk Try.prog 48 spWithR := by
  refine spec_body (C := cvH) mixed tbOk spvH (callN_ok (C := cvH) mixed tbOk spvH FnsOk.nil 0) fnOk_r15With ?_
  intro ys p r h hp
  unfold spWithR at h
  split at h
  · rename_i b l n rs
    cases h
    obtain ⟨hrs, hn0, hn1, hl, hown⟩ := hp
    obtain ⟨m, rfl⟩ : ∃ m : Nat, n = m := ⟨n.toNat, by omega⟩
    have hpl := putLv_len l m rs
    have hgoal : withL l (m : Int).toNat rs = trimL (putLv l m rs) := rfl
    rw [hgoal]
    conv => whnf
    refine loop_inv [.cell 2 1 41 lvT] [8] (fun vs h => ∃ i g : Nat, vs = [.int .i64 (i : Int)] ∧ h = [.cells 29 [.int .i64 b, .lst lvT l], .cells 29 [.int .i64 0, .zsl lvT], .cells 29 [.int .i64 b, .own 3 g i], .arr 41 lvT ((putLv l m rs).take i) false g] ∧ i ≤ (putLv l m rs).length) (fun vs _ => match vs with | [.int _ k] => (putLv l m rs).length - k.toNat | _ => 0) ?_
    conv => whnf
    refine ⟨⟨0, 0, rfl, rfl, Nat.zero_le _⟩, ?_⟩
    rintro vs h' - ⟨i, g, rfl, rfl, hi⟩
    have hil : ((putLv l m rs).take i).length = i := by rw [List.length_take]; omega
    by_cases hlt : i < (putLv l m rs).length
    · have hx := put_get' hlt
      have hst : (putLv l m rs).take (i + 1) = (putLv l m rs).take i ++ [((if i = m then rs else atL l i), ())] := by rw [List.take_add_one, hx]; rfl
      have ho := hown (i : Int)
      generalize (putLv l m rs).take i = A at *
      by_cases him : i = m
      · subst him
        rw [if_pos rfl] at hst
        conv => whnf
        repeat' first
          | ((first | refine idx_kn (by assumption) ?_ | refine idx_ki (by assumption) (by omega) ?_ | refine br_true (by first | with_reducible exact rfl | assumption | decide) ?_ | refine br_false (by first | with_reducible exact rfl | assumption | decide) ?_ | with_reducible first | refine br_kt (by assumption) ?_ | refine br_kf (by assumption) ?_ | refine br_nt (by assumption) ?_ | refine br_nf (by assumption) ?_ | refine br_et (by assumption) ?_ | refine br_ef (by assumption) ?_); conv => whnf)
          | ((with_reducible first | refine br_dec (fun h => ?_) (fun h => ?_) | refine br_ndec (fun h => ?_) (fun h => ?_) | refine br_ne (fun h => ?_) (fun h => ?_) | refine br_eq (fun h => ?_) (fun h => ?_)) <;> first | (exfalso; omega) | conv => whnf)
          | (refine br_intro (fun h => ?_) (fun h => ?_) <;> conv => whnf)
          | ((first | refine need_in (by first | exact trivial | assumption | exact ⟨rfl, Nat.le_refl _⟩ | exact ⟨rfl, rfl⟩ | (simp only [inR]; omega) | omega | (simp only [roomP, true_and, and_true, List.length_take, List.length_drop, List.length_append, List.length_cons, List.length_nil, List.length_set, List.length_replicate]; omega) | (refine ⟨by first | exact trivial | rfl, by first | exact Nat.le_refl _ | omega | (simp; omega), ?_⟩; change roomP _ _ 1; simp only [roomP]; omega) | (change roomP _ _ 1; simp only [roomP]; omega) | (simp; omega) | (simp [inR]; omega) | (simp [inR]; done) | decide | (simp; done) | exact ⟨by first | omega | (simp; omega), by assumption⟩) ?_ | refine idx_nat (by omega) (fun x hx => ?_) | refine frz_auto ?_ | refine draw_plain ?_ | refine idx_intro (by first | omega | (simp; omega) | (simp; done)) (by first | omega | (simp; omega) | (simp; done)) (fun x hx => ?_)); conv => whnf)
        all_goals
          refine back_intro (by conv => whnf) rfl ⟨i + 1, g + 1, rfl, ?_, by omega⟩ ?_
          · refine congrArg (fun y => [AObj.cells 29 [.int .i64 b, .lst lvT l], .cells 29 [.int .i64 0, .zsl lvT], .cells 29 [.int .i64 b, .own 3 (g + 1) (i + 1)], .arr 41 lvT y false (g + 1)]) ?_
            rw [hst]
            simp only [cast_self]
            rw [List.take_of_length_le (by omega)]
            first
              | rfl
              | (simp only [List.take_succ_cons, List.take_zero, List.nil_append, List.drop_nil, List.append_nil]; rfl)
              | (trace_state; sorry)
          · show (putLv l i rs).length - ((i : Int) + 1).toNat < (putLv l i rs).length - (i : Int).toNat
            omega
      · rw [if_neg him] at hst
        conv => whnf
        repeat' first
          | ((first | refine idx_kn (by assumption) ?_ | refine idx_ki (by assumption) (by omega) ?_ | refine br_true (by first | with_reducible exact rfl | assumption | decide) ?_ | refine br_false (by first | with_reducible exact rfl | assumption | decide) ?_ | with_reducible first | refine br_kt (by assumption) ?_ | refine br_kf (by assumption) ?_ | refine br_nt (by assumption) ?_ | refine br_nf (by assumption) ?_ | refine br_et (by assumption) ?_ | refine br_ef (by assumption) ?_); conv => whnf)
          | ((with_reducible first | refine br_dec (fun h => ?_) (fun h => ?_) | refine br_ndec (fun h => ?_) (fun h => ?_) | refine br_ne (fun h => ?_) (fun h => ?_) | refine br_eq (fun h => ?_) (fun h => ?_)) <;> first | (exfalso; omega) | conv => whnf)
          | (refine br_intro (fun h => ?_) (fun h => ?_) <;> conv => whnf)
          | ((first | refine need_in (by first | exact trivial | assumption | exact ⟨rfl, Nat.le_refl _⟩ | exact ⟨rfl, rfl⟩ | (simp only [inR]; omega) | omega | (simp only [roomP, true_and, and_true, List.length_take, List.length_drop, List.length_append, List.length_cons, List.length_nil, List.length_set, List.length_replicate]; omega) | (refine ⟨by first | exact trivial | rfl, by first | exact Nat.le_refl _ | omega | (simp; omega), ?_⟩; change roomP _ _ 1; simp only [roomP]; omega) | (change roomP _ _ 1; simp only [roomP]; omega) | (simp; omega) | (simp [inR]; omega) | (simp [inR]; done) | decide | (simp; done) | exact ⟨by first | omega | (simp; omega), by assumption⟩) ?_ | refine idx_nat (by omega) (fun x hx => ?_) | refine frz_auto ?_ | refine draw_plain ?_ | refine idx_intro (by first | omega | (simp; omega) | (simp; done)) (by first | omega | (simp; omega) | (simp; done)) (fun x hx => ?_)); conv => whnf)
        all_goals
          refine back_intro (by conv => whnf) rfl ⟨i + 1, g + 1, rfl, ?_, by omega⟩ ?_
          · refine congrArg (fun y => [AObj.cells 29 [.int .i64 b, .lst lvT l], .cells 29 [.int .i64 0, .zsl lvT], .cells 29 [.int .i64 b, .own 3 (g + 1) (i + 1)], .arr 41 lvT y false (g + 1)]) ?_
            rw [hst]
            simp only [cast_self]
            rw [List.take_of_length_le (by omega)]
            first
              | rfl
              | (simp only [List.take_succ_cons, List.take_zero, List.nil_append, List.drop_nil, List.append_nil]; rfl)
              | (trace_state; sorry)
          · show (putLv l m rs).length - ((i : Int) + 1).toNat < (putLv l m rs).length - (i : Int).toNat
            omega
    · have hin : i = (putLv l m rs).length := by omega
      subst hin
      rw [List.take_length] at *
      conv => whnf
      repeat' first
        | ((first | refine idx_kn (by assumption) ?_ | refine idx_ki (by assumption) (by omega) ?_ | refine br_true (by first | with_reducible exact rfl | assumption | decide) ?_ | refine br_false (by first | with_reducible exact rfl | assumption | decide) ?_ | with_reducible first | refine br_kt (by assumption) ?_ | refine br_kf (by assumption) ?_ | refine br_nt (by assumption) ?_ | refine br_nf (by assumption) ?_ | refine br_et (by assumption) ?_ | refine br_ef (by assumption) ?_); conv => whnf)
        | ((with_reducible first | refine br_dec (fun h => ?_) (fun h => ?_) | refine br_ndec (fun h => ?_) (fun h => ?_) | refine br_ne (fun h => ?_) (fun h => ?_) | refine br_eq (fun h => ?_) (fun h => ?_)) <;> first | (exfalso; omega) | conv => whnf)
        | (refine br_intro (fun h => ?_) (fun h => ?_) <;> conv => whnf)
        | ((first | refine need_in (by first | exact trivial | assumption | exact ⟨rfl, Nat.le_refl _⟩ | exact ⟨rfl, rfl⟩ | (simp only [inR]; omega) | omega | (simp only [roomP, true_and, and_true, List.length_take, List.length_drop, List.length_append, List.length_cons, List.length_nil, List.length_set, List.length_replicate]; omega) | (refine ⟨by first | exact trivial | rfl, by first | exact Nat.le_refl _ | omega | (simp; omega), ?_⟩; change roomP _ _ 1; simp only [roomP]; omega) | (change roomP _ _ 1; simp only [roomP]; omega) | (simp; omega) | (simp [inR]; omega) | (simp [inR]; done) | decide | (simp; done) | exact ⟨by first | omega | (simp; omega), by assumption⟩) ?_ | refine idx_nat (by omega) (fun x hx => ?_) | refine frz_auto ?_ | refine draw_plain ?_ | refine idx_intro (by first | omega | (simp; omega) | (simp; done)) (by first | omega | (simp; omega) | (simp; done)) (fun x hx => ?_)); conv => whnf)
      refine loop_inv [] [] (fun vs h => ∃ k : Nat, vs = [] ∧ h = [.cells 29 [.int .i64 b, .lst lvT l], .cells 29 [.int .i64 0, .zsl lvT], .cells 29 [.int .i64 b, .own 3 g k], .arr 41 lvT (putLv l m rs) false g] ∧ k ≤ (putLv l m rs).length ∧ trimL (putLv l m rs) = trimL ((putLv l m rs).take k)) (fun _ h => match h with | [_, _, .cells _ [_, .own _ _ k], _] => k | _ => 0) ?_
      conv => whnf
      refine ⟨⟨(putLv l m rs).length, rfl, rfl, Nat.le_refl _, by rw [List.take_length]⟩, ?_⟩
      rintro vs h' - ⟨k, rfl, rfl, hk, ht⟩
      by_cases hk0 : k = 0
      · subst hk0
        have hz : trimL (putLv l m rs) = [] := ht.trans (by rw [List.take_zero]; rfl)
        generalize putLv l m rs = P at *
        conv => whnf
        repeat' first
          | ((first | refine idx_kn (by assumption) ?_ | refine idx_ki (by assumption) (by omega) ?_ | refine br_true (by first | with_reducible exact rfl | assumption | decide) ?_ | refine br_false (by first | with_reducible exact rfl | assumption | decide) ?_ | with_reducible first | refine br_kt (by assumption) ?_ | refine br_kf (by assumption) ?_ | refine br_nt (by assumption) ?_ | refine br_nf (by assumption) ?_ | refine br_et (by assumption) ?_ | refine br_ef (by assumption) ?_); conv => whnf)
          | ((with_reducible first | refine br_dec (fun h => ?_) (fun h => ?_) | refine br_ndec (fun h => ?_) (fun h => ?_) | refine br_ne (fun h => ?_) (fun h => ?_) | refine br_eq (fun h => ?_) (fun h => ?_)) <;> first | (exfalso; omega) | conv => whnf)
          | (refine br_intro (fun h => ?_) (fun h => ?_) <;> conv => whnf)
          | ((first | refine need_in (by first | exact trivial | assumption | exact ⟨rfl, Nat.le_refl _⟩ | exact ⟨rfl, rfl⟩ | (simp only [inR]; omega) | omega | (simp only [roomP, true_and, and_true, List.length_take, List.length_drop, List.length_append, List.length_cons, List.length_nil, List.length_set, List.length_replicate]; omega) | (refine ⟨by first | exact trivial | rfl, by first | exact Nat.le_refl _ | omega | (simp; omega), ?_⟩; change roomP _ _ 1; simp only [roomP]; omega) | (change roomP _ _ 1; simp only [roomP]; omega) | (simp; omega) | (simp [inR]; omega) | (simp [inR]; done) | decide | (simp; done) | exact ⟨by first | omega | (simp; omega), by assumption⟩) ?_ | refine idx_nat (by omega) (fun x hx => ?_) | refine frz_auto ?_ | refine draw_plain ?_ | refine idx_intro (by first | omega | (simp; omega) | (simp; done)) (by first | omega | (simp; omega) | (simp; done)) (fun x hx => ?_)); conv => whnf)
        all_goals (rw [hz]; rfl)
      · obtain ⟨x, hx⟩ : ∃ x : lvT.El, (putLv l m rs)[k - 1]? = some x := ⟨_, List.getElem?_eq_getElem (by omega)⟩
        have hc := trim_cut hx
        rw [show k - 1 + 1 = k by omega] at hc
        rw [hc] at ht
        have hxi : (putLv l m rs)[((k : Int) - 1).toNat]? = some x := by rw [show ((k : Int) - 1).toNat = k - 1 by omega]; exact hx
        have hkn : ((k : Int) - 1).toNat = k - 1 := by omega
        by_cases hr0 : (x.1.length : Int) = 0
        · rw [if_pos (show (rsL x).isEmpty = true from by show x.1.isEmpty = true; rw [List.isEmpty_iff]; exact List.eq_nil_of_length_eq_zero (by omega))] at ht
          generalize putLv l m rs = P at *
          conv => whnf
          repeat' first
            | ((first | refine idx_kn (by assumption) ?_ | refine idx_ki (by assumption) (by omega) ?_ | refine br_true (by first | with_reducible exact rfl | assumption | decide) ?_ | refine br_false (by first | with_reducible exact rfl | assumption | decide) ?_ | with_reducible first | refine br_kt (by assumption) ?_ | refine br_kf (by assumption) ?_ | refine br_nt (by assumption) ?_ | refine br_nf (by assumption) ?_ | refine br_et (by assumption) ?_ | refine br_ef (by assumption) ?_); conv => whnf)
            | ((with_reducible first | refine br_dec (fun h => ?_) (fun h => ?_) | refine br_ndec (fun h => ?_) (fun h => ?_) | refine br_ne (fun h => ?_) (fun h => ?_) | refine br_eq (fun h => ?_) (fun h => ?_)) <;> first | (exfalso; omega) | conv => whnf)
            | (refine br_intro (fun h => ?_) (fun h => ?_) <;> conv => whnf)
            | ((first | refine need_in (by first | exact trivial | assumption | exact ⟨rfl, Nat.le_refl _⟩ | exact ⟨rfl, rfl⟩ | (simp only [inR]; omega) | omega | (simp only [roomP, true_and, and_true, List.length_take, List.length_drop, List.length_append, List.length_cons, List.length_nil, List.length_set, List.length_replicate]; omega) | (refine ⟨by first | exact trivial | rfl, by first | exact Nat.le_refl _ | omega | (simp; omega), ?_⟩; change roomP _ _ 1; simp only [roomP]; omega) | (change roomP _ _ 1; simp only [roomP]; omega) | (simp; omega) | (simp [inR]; omega) | (simp [inR]; done) | decide | (simp; done) | exact ⟨by first | omega | (simp; omega), by assumption⟩) ?_ | refine idx_nat (by omega) (fun x hx => ?_) | refine frz_auto ?_ | refine draw_plain ?_ | refine idx_intro (by first | omega | (simp; omega) | (simp; done)) (by first | omega | (simp; omega) | (simp; done)) (fun x hx => ?_)); conv => whnf)
          refine back_intro (by conv => whnf) rfl ⟨k - 1, rfl, congrArg (fun y => [AObj.cells 29 [.int .i64 b, .lst lvT l], .cells 29 [.int .i64 0, .zsl lvT], .cells 29 [.int .i64 b, .own 3 g y], .arr 41 lvT P false g]) hkn, by omega, ht⟩ ?_
          show ((k : Int) - 1).toNat < k
          omega
        · rw [if_neg (show ¬ (rsL x).isEmpty = true from fun e => hr0 (by rw [show (x.1 : List runT.El) = [] from List.isEmpty_iff.1 e]; rfl))] at ht
          generalize putLv l m rs = P at *
          conv => whnf
          repeat' first
            | ((first | refine idx_kn (by assumption) ?_ | refine idx_ki (by assumption) (by omega) ?_ | refine br_true (by first | with_reducible exact rfl | assumption | decide) ?_ | refine br_false (by first | with_reducible exact rfl | assumption | decide) ?_ | with_reducible first | refine br_kt (by assumption) ?_ | refine br_kf (by assumption) ?_ | refine br_nt (by assumption) ?_ | refine br_nf (by assumption) ?_ | refine br_et (by assumption) ?_ | refine br_ef (by assumption) ?_); conv => whnf)
            | ((with_reducible first | refine br_dec (fun h => ?_) (fun h => ?_) | refine br_ndec (fun h => ?_) (fun h => ?_) | refine br_ne (fun h => ?_) (fun h => ?_) | refine br_eq (fun h => ?_) (fun h => ?_)) <;> first | (exfalso; omega) | conv => whnf)
            | (refine br_intro (fun h => ?_) (fun h => ?_) <;> conv => whnf)
            | ((first | refine need_in (by first | exact trivial | assumption | exact ⟨rfl, Nat.le_refl _⟩ | exact ⟨rfl, rfl⟩ | (simp only [inR]; omega) | omega | (simp only [roomP, true_and, and_true, List.length_take, List.length_drop, List.length_append, List.length_cons, List.length_nil, List.length_set, List.length_replicate]; omega) | (refine ⟨by first | exact trivial | rfl, by first | exact Nat.le_refl _ | omega | (simp; omega), ?_⟩; change roomP _ _ 1; simp only [roomP]; omega) | (change roomP _ _ 1; simp only [roomP]; omega) | (simp; omega) | (simp [inR]; omega) | (simp [inR]; done) | decide | (simp; done) | exact ⟨by first | omega | (simp; omega), by assumption⟩) ?_ | refine idx_nat (by omega) (fun x hx => ?_) | refine frz_auto ?_ | refine draw_plain ?_ | refine idx_intro (by first | omega | (simp; omega) | (simp; done)) (by first | omega | (simp; omega) | (simp; done)) (fun x hx => ?_)); conv => whnf)
          all_goals (rw [ht])
  · cases h
set_option maxRecDepth 100000 in
theorem fnOk_r15Arr : FnOk Try.prog 33 Try.f33 := ⟨by rfl, by kernel_rfl, by
  show okCode _ _ = true ∧ drawsOk _ = true
  exact ⟨by kernel_rfl, by kernel_rfl⟩⟩
set_option maxRecDepth 100000 in
theorem fnOk_r15Lea : FnOk Try.prog 34 Try.f34 := ⟨by rfl, by kernel_rfl, by
  show okCode _ _ = true ∧ drawsOk _ = true
  exact ⟨by kernel_rfl, by kernel_rfl⟩⟩
noncomputable def cvI : Cx := ⟨tb, [], [(46, spInE), (47, spOwnL), (48, nz [none, none, some runT] spWithR), (27, spNw), (35, spSz), (45, spFitI)]⟩
theorem spvI : SpecsOk Try.prog cvI.specs := .cons r15In_ok (.cons r15Own_ok (.cons (SpecOk.nz r15With_ok _) (.cons r15Nw_ok (.cons r15Sz_ok (.cons r15Fit_ok .nil)))))
theorem own_big {b : Int} {l : List lvT.El} (h : LvOk b l) : ∀ i : Int, (ownL l i).length ≤ 1000 := fun i => by
  have := ownL_len h i
  omega
set_option maxRecDepth 100000 in
set_option maxHeartbeats 4000000 in
theorem r15Lea_ok : SpecOk Try.prog 34 spLea := by
  refine spec_body (C := cvI) mixed tbOk spvI (callN_ok (C := cvI) mixed tbOk spvI FnsOk.nil 2) fnOk_r15Lea ?_
  intro ys p r h hp
  unfold spLea at h
  split at h
  · rename_i b l n
    cases h
    by_cases h1 : inE b l n = 0
    · obtain ⟨hok, hn0, hn1⟩ := inE_ok h1
      have hll := hok.len
      have hll2 : l.length ≤ 1000000 := by omega
      have hol := ownL_len hok n
      have hob := own_big hok
      by_cases h2 : ((ownL l n).length : Int) = 0
      · have hc : leaL b l n = ((0, []), [], 4) := by unfold leaL; rw [if_neg (fun e => e h1), if_pos (by omega)]
        conv => whnf
        repeat' first
          | ((first | refine idx_kn (by assumption) ?_ | refine idx_ki (by assumption) (by omega) ?_ | refine br_true (by first | with_reducible exact rfl | assumption | decide) ?_ | refine br_false (by first | with_reducible exact rfl | assumption | decide) ?_ | with_reducible first | refine br_kt (by assumption) ?_ | refine br_kf (by assumption) ?_ | refine br_nt (by assumption) ?_ | refine br_nf (by assumption) ?_ | refine br_et (by assumption) ?_ | refine br_ef (by assumption) ?_); conv => whnf)
          | ((with_reducible first | refine br_dec (fun h => ?_) (fun h => ?_) | refine br_ndec (fun h => ?_) (fun h => ?_) | refine br_ne (fun h => ?_) (fun h => ?_) | refine br_eq (fun h => ?_) (fun h => ?_)) <;> first | (exfalso; omega) | conv => whnf)
          | (refine br_intro (fun h => ?_) (fun h => ?_) <;> conv => whnf)
          | ((first | refine need_in (by first | exact trivial | assumption | exact ⟨rfl, Nat.le_refl _⟩ | exact ⟨rfl, rfl⟩ | (simp only [inR]; omega) | omega | (simp only [roomP, true_and, and_true, List.length_take, List.length_drop, List.length_append, List.length_cons, List.length_nil, List.length_set, List.length_replicate]; omega) | (refine ⟨by first | exact trivial | rfl, by first | exact Nat.le_refl _ | omega | (simp; omega), ?_⟩; change roomP _ _ 1; simp only [roomP]; omega) | (change roomP _ _ 1; simp only [roomP]; omega) | (simp; omega) | (simp [inR]; omega) | (simp [inR]; done) | decide | (simp; done) | exact ⟨by first | omega | (simp; omega), by assumption⟩) ?_ | refine idx_nat (by omega) (fun x hx => ?_) | refine frz_auto ?_ | refine draw_plain ?_ | refine idx_intro (by first | omega | (simp; omega) | (simp; done)) (by first | omega | (simp; omega) | (simp; done)) (fun x hx => ?_)); conv => whnf)
        all_goals (rw [hc]; rfl)
      · have hc : leaL b l n = ((b, withL l n.toNat []), ownL l n, 0) := by unfold leaL; rw [if_neg (fun e => e h1), if_neg (by omega)]
        have hw : WOk l n := ⟨hn0, hn1, hll, hob⟩
        conv => whnf
        repeat' first
          | ((first | refine idx_kn (by assumption) ?_ | refine idx_ki (by assumption) (by omega) ?_ | refine br_true (by first | with_reducible exact rfl | assumption | decide) ?_ | refine br_false (by first | with_reducible exact rfl | assumption | decide) ?_ | with_reducible first | refine br_kt (by assumption) ?_ | refine br_kf (by assumption) ?_ | refine br_nt (by assumption) ?_ | refine br_nf (by assumption) ?_ | refine br_et (by assumption) ?_ | refine br_ef (by assumption) ?_); conv => whnf)
          | ((with_reducible first | refine br_dec (fun h => ?_) (fun h => ?_) | refine br_ndec (fun h => ?_) (fun h => ?_) | refine br_ne (fun h => ?_) (fun h => ?_) | refine br_eq (fun h => ?_) (fun h => ?_)) <;> first | (exfalso; omega) | conv => whnf)
          | (refine br_intro (fun h => ?_) (fun h => ?_) <;> conv => whnf)
          | ((first | refine need_in (by first | exact trivial | assumption | exact ⟨rfl, Nat.le_refl _⟩ | exact ⟨rfl, rfl⟩ | (simp only [inR]; omega) | omega | (simp only [roomP, true_and, and_true, List.length_take, List.length_drop, List.length_append, List.length_cons, List.length_nil, List.length_set, List.length_replicate]; omega) | (refine ⟨by first | exact trivial | rfl, by first | exact Nat.le_refl _ | omega | (simp; omega), ?_⟩; change roomP _ _ 1; simp only [roomP]; omega) | (change roomP _ _ 1; simp only [roomP]; omega) | (simp; omega) | (simp [inR]; omega) | (simp [inR]; done) | decide | (simp; done) | exact ⟨by first | omega | (simp; omega), by assumption⟩) ?_ | refine idx_nat (by omega) (fun x hx => ?_) | refine frz_auto ?_ | refine draw_plain ?_ | refine idx_intro (by first | omega | (simp; omega) | (simp; done)) (by first | omega | (simp; omega) | (simp; done)) (fun x hx => ?_)); conv => whnf)
        all_goals
          rw [hc]
          simp only [cast_self, Nat.zero_add, List.take_zero, List.nil_append, List.take_length]
          try rfl
    · have hc : leaL b l n = ((0, []), [], inE b l n) := if_pos h1
      conv => whnf
      repeat' first
        | ((first | refine idx_kn (by assumption) ?_ | refine idx_ki (by assumption) (by omega) ?_ | refine br_true (by first | with_reducible exact rfl | assumption | decide) ?_ | refine br_false (by first | with_reducible exact rfl | assumption | decide) ?_ | with_reducible first | refine br_kt (by assumption) ?_ | refine br_kf (by assumption) ?_ | refine br_nt (by assumption) ?_ | refine br_nf (by assumption) ?_ | refine br_et (by assumption) ?_ | refine br_ef (by assumption) ?_); conv => whnf)
        | ((with_reducible first | refine br_dec (fun h => ?_) (fun h => ?_) | refine br_ndec (fun h => ?_) (fun h => ?_) | refine br_ne (fun h => ?_) (fun h => ?_) | refine br_eq (fun h => ?_) (fun h => ?_)) <;> first | (exfalso; omega) | conv => whnf)
        | (refine br_intro (fun h => ?_) (fun h => ?_) <;> conv => whnf)
        | ((first | refine need_in (by first | exact trivial | assumption | exact ⟨rfl, Nat.le_refl _⟩ | exact ⟨rfl, rfl⟩ | (simp only [inR]; omega) | omega | (simp only [roomP, true_and, and_true, List.length_take, List.length_drop, List.length_append, List.length_cons, List.length_nil, List.length_set, List.length_replicate]; omega) | (refine ⟨by first | exact trivial | rfl, by first | exact Nat.le_refl _ | omega | (simp; omega), ?_⟩; change roomP _ _ 1; simp only [roomP]; omega) | (change roomP _ _ 1; simp only [roomP]; omega) | (simp; omega) | (simp [inR]; omega) | (simp [inR]; done) | decide | (simp; done) | exact ⟨by first | omega | (simp; omega), by assumption⟩) ?_ | refine idx_nat (by omega) (fun x hx => ?_) | refine frz_auto ?_ | refine draw_plain ?_ | refine idx_intro (by first | omega | (simp; omega) | (simp; done)) (by first | omega | (simp; omega) | (simp; done)) (fun x hx => ?_)); conv => whnf)
      all_goals (rw [hc]; rfl)
  · cases h
set_option maxRecDepth 100000 in
set_option maxHeartbeats 4000000 in
theorem r15Arr_ok : SpecOk Try.prog 33 spArr := by
  refine spec_body (C := cvI) mixed tbOk spvI (callN_ok (C := cvI) mixed tbOk spvI FnsOk.nil 2) fnOk_r15Arr ?_
  intro ys p r h hp
  unfold spArr at h
  split at h
  · rename_i b l n id es
    cases h
    by_cases h1 : inE b l n = 0
    · obtain ⟨hok, hn0, hn1⟩ := inE_ok h1
      have hll := hok.len
      have hol := ownL_len hok n
      have hck : (chkL b l).2.2 = 0 := by
        unfold inE at h1
        split at h1
        · exact h1
        · rename_i h; exact Decidable.not_not.1 h
      have hnw : nwR b l = (newL l, 0) := if_neg (fun e => e hck)
      have hnl := newL_len hok
      have hn1' : (nwR b l).1 = newL l := by rw [hnw]
      conv => whnf
      repeat' first
        | ((first | refine idx_kn (by assumption) ?_ | refine idx_ki (by assumption) (by omega) ?_ | refine br_true (by first | with_reducible exact rfl | assumption | decide) ?_ | refine br_false (by first | with_reducible exact rfl | assumption | decide) ?_ | with_reducible first | refine br_kt (by assumption) ?_ | refine br_kf (by assumption) ?_ | refine br_nt (by assumption) ?_ | refine br_nf (by assumption) ?_ | refine br_et (by assumption) ?_ | refine br_ef (by assumption) ?_); conv => whnf)
        | ((with_reducible first | refine br_dec (fun h => ?_) (fun h => ?_) | refine br_ndec (fun h => ?_) (fun h => ?_) | refine br_ne (fun h => ?_) (fun h => ?_) | refine br_eq (fun h => ?_) (fun h => ?_)) <;> first | (exfalso; omega) | conv => whnf)
        | (refine br_intro (fun h => ?_) (fun h => ?_) <;> conv => whnf)
        | ((first | refine need_in (by first | exact trivial | assumption | exact ⟨rfl, Nat.le_refl _⟩ | exact ⟨rfl, rfl⟩ | (simp only [inR]; omega) | omega | (simp only [roomP, true_and, and_true, List.length_take, List.length_drop, List.length_append, List.length_cons, List.length_nil, List.length_set, List.length_replicate]; omega) | (refine ⟨by first | exact trivial | rfl, by first | exact Nat.le_refl _ | omega | (simp; omega), ?_⟩; change roomP _ _ 1; simp only [roomP]; omega) | (change roomP _ _ 1; simp only [roomP]; omega) | (simp; omega) | (simp [inR]; omega) | (simp [inR]; done) | decide | (simp; done) | exact ⟨by first | omega | (simp; omega), by assumption⟩) ?_ | refine idx_nat (by omega) (fun x hx => ?_) | refine frz_auto ?_ | refine draw_plain ?_ | refine idx_intro (by first | omega | (simp; omega) | (simp; done)) (by first | omega | (simp; omega) | (simp; done)) (fun x hx => ?_)); conv => whnf)
      refine loop_inv [] [9, 12] (fun vs h => ∃ i g : Nat, vs = [.own 3 g (((newL l).take i).map idR).length, .int .i64 (i : Int)] ∧ h = [.cells 29 [.int .i64 b, .lst lvT l], .cells 32 [.int .i64 id, .lst entT es], .cells 29 [.int .i64 0, .zsl lvT], .arr 3 (.int .i64) (((newL l).take i).map idR) false g] ∧ i ≤ (newL l).length) (fun vs _ => match vs with | [_, .int _ k] => (newL l).length - k.toNat | _ => 0) ?_
      conv => whnf
      refine ⟨⟨0, 0, rfl, rfl, Nat.zero_le _⟩, ?_⟩
      rintro vs h' - ⟨i, g, rfl, rfl, hi⟩
      have hal : (((newL l).take i).map idR).length ≤ 24 := by rw [List.length_map, List.length_take]; omega
      by_cases hlt : i < (newL l).length
      · obtain ⟨x, hx⟩ : ∃ x : runT.El, (newL l : List runT.El)[i]? = some x := ⟨_, List.getElem?_eq_getElem hlt⟩
        have hxn : ((nwR b l).1 : List runT.El)[i]? = some x := by rw [hn1']; exact hx
        have hltn : (i : Int) < ((nwR b l).1.length : Int) := by rw [hn1']; omega
        have hst : ((newL l).take (i + 1)).map idR = ((newL l).take i).map idR ++ [idR x] := by rw [List.take_add_one, hx, List.map_append]; rfl
        generalize hA : ((newL l).take i).map idR = A at *
        conv => whnf
        repeat' first
          | ((first | refine idx_kn (by assumption) ?_ | refine idx_ki (by assumption) (by omega) ?_ | refine br_true (by first | with_reducible exact rfl | assumption | decide) ?_ | refine br_false (by first | with_reducible exact rfl | assumption | decide) ?_ | with_reducible first | refine br_kt (by assumption) ?_ | refine br_kf (by assumption) ?_ | refine br_nt (by assumption) ?_ | refine br_nf (by assumption) ?_ | refine br_et (by assumption) ?_ | refine br_ef (by assumption) ?_); conv => whnf)
          | ((with_reducible first | refine br_dec (fun h => ?_) (fun h => ?_) | refine br_ndec (fun h => ?_) (fun h => ?_) | refine br_ne (fun h => ?_) (fun h => ?_) | refine br_eq (fun h => ?_) (fun h => ?_)) <;> first | (exfalso; omega) | conv => whnf)
          | (refine br_intro (fun h => ?_) (fun h => ?_) <;> conv => whnf)
          | ((first | refine need_in (by first | exact trivial | assumption | exact ⟨rfl, Nat.le_refl _⟩ | exact ⟨rfl, rfl⟩ | (simp only [inR]; omega) | omega | (simp only [roomP, true_and, and_true, List.length_take, List.length_drop, List.length_append, List.length_cons, List.length_nil, List.length_set, List.length_replicate]; omega) | (refine ⟨by first | exact trivial | rfl, by first | exact Nat.le_refl _ | omega | (simp; omega), ?_⟩; change roomP _ _ 1; simp only [roomP]; omega) | (change roomP _ _ 1; simp only [roomP]; omega) | (simp; omega) | (simp [inR]; omega) | (simp [inR]; done) | decide | (simp; done) | exact ⟨by first | omega | (simp; omega), by assumption⟩) ?_ | refine idx_nat (by omega) (fun x hx => ?_) | refine frz_auto ?_ | refine draw_plain ?_ | refine idx_intro (by first | omega | (simp; omega) | (simp; done)) (by first | omega | (simp; omega) | (simp; done)) (fun x hx => ?_)); conv => whnf)
        refine back_intro (by conv => whnf) rfl ⟨i + 1, g + 1, ?_, ?_, by omega⟩ ?_
        · rw [hst, List.length_append]; rfl
        · rw [hst]
          simp only [cast_self, List.take_length, List.take_succ_cons, List.take_zero]
          rfl
        · show (newL l).length - ((i : Int) + 1).toNat < (newL l).length - (i : Int).toNat
          omega
      · have hin : i = (newL l).length := by omega
        subst hin
        have hltn : ¬ ((newL l).length : Int) < ((nwR b l).1.length : Int) := by rw [hn1']; omega
        have hA1 : ((newL l).take (newL l).length).map idR = (newL l).map idR := by rw [List.take_length]
        rw [hA1] at hal ⊢
        have hll2 : l.length ≤ 1000000 := by omega
        have hob := own_big hok
        have hw : WOk l n := ⟨hn0, hn1, hll, hob⟩
        have hal2 : (List.take ((newL l).map idR).length ((newL l).map idR)).length ≤ 1000000 := by rw [List.take_length]; omega
        have hE : fitI (List.take ((newL l).map idR).length ((newL l).map idR)) (szL b n.toNat) (id, es, ()) = fitI ((newL l).map idR) (szL b n.toNat) (id, es, ()) := by rw [List.take_length]
        have hlo := hok.lo
        have hhi := hok.hi
        have hsz : 1 ≤ b ∧ b ≤ 16 ∧ n ≤ 12 := ⟨hlo, hhi, by omega⟩
        by_cases hf : fitI ((newL l).map idR) (szL b n.toNat) (id, es, ()) = 0
        · by_cases h3 : ((ownL l n).length : Int) = 2
          · have hc : arrL b l n (id, es, ()) = (0, [], 5) := by
              unfold arrL
              rw [if_neg (fun e => e h1), if_neg (fun e => e hf), if_pos (by omega)]
            have hE0 := hE.trans hf
            generalize hA : (newL l).map idR = A at *
            conv => whnf
            repeat' first
              | ((first | refine idx_kn (by assumption) ?_ | refine idx_ki (by assumption) (by omega) ?_ | refine br_true (by first | with_reducible exact rfl | assumption | decide) ?_ | refine br_false (by first | with_reducible exact rfl | assumption | decide) ?_ | with_reducible first | refine br_kt (by assumption) ?_ | refine br_kf (by assumption) ?_ | refine br_nt (by assumption) ?_ | refine br_nf (by assumption) ?_ | refine br_et (by assumption) ?_ | refine br_ef (by assumption) ?_); conv => whnf)
              | ((with_reducible first | refine br_dec (fun h => ?_) (fun h => ?_) | refine br_ndec (fun h => ?_) (fun h => ?_) | refine br_ne (fun h => ?_) (fun h => ?_) | refine br_eq (fun h => ?_) (fun h => ?_)) <;> first | (exfalso; omega) | conv => whnf)
              | (refine br_intro (fun h => ?_) (fun h => ?_) <;> conv => whnf)
              | ((first | refine need_in (by first | exact trivial | assumption | exact ⟨rfl, Nat.le_refl _⟩ | exact ⟨rfl, rfl⟩ | (simp only [inR]; omega) | omega | (simp only [roomP, true_and, and_true, List.length_take, List.length_drop, List.length_append, List.length_cons, List.length_nil, List.length_set, List.length_replicate]; omega) | (refine ⟨by first | exact trivial | rfl, by first | exact Nat.le_refl _ | omega | (simp; omega), ?_⟩; change roomP _ _ 1; simp only [roomP]; omega) | (change roomP _ _ 1; simp only [roomP]; omega) | (simp; omega) | (simp [inR]; omega) | (simp [inR]; done) | decide | (simp; done) | exact ⟨by first | omega | (simp; omega), by assumption⟩) ?_ | refine idx_nat (by omega) (fun x hx => ?_) | refine frz_auto ?_ | refine draw_plain ?_ | refine idx_intro (by first | omega | (simp; omega) | (simp; done)) (by first | omega | (simp; omega) | (simp; done)) (fun x hx => ?_)); conv => whnf)
            all_goals (rw [hc])
          · have hc : arrL b l n (id, es, ()) = (b, withL l n.toNat (ownL l n ++ [(id, es, ())]), 0) := by
              unfold arrL
              rw [if_neg (fun e => e h1), if_neg (fun e => e hf), if_neg (by omega)]
            have hE0 := hE.trans hf
            generalize hA : (newL l).map idR = A at *
            conv => whnf
            repeat' first
              | ((first | refine idx_kn (by assumption) ?_ | refine idx_ki (by assumption) (by omega) ?_ | refine br_true (by first | with_reducible exact rfl | assumption | decide) ?_ | refine br_false (by first | with_reducible exact rfl | assumption | decide) ?_ | with_reducible first | refine br_kt (by assumption) ?_ | refine br_kf (by assumption) ?_ | refine br_nt (by assumption) ?_ | refine br_nf (by assumption) ?_ | refine br_et (by assumption) ?_ | refine br_ef (by assumption) ?_); conv => whnf)
              | ((with_reducible first | refine br_dec (fun h => ?_) (fun h => ?_) | refine br_ndec (fun h => ?_) (fun h => ?_) | refine br_ne (fun h => ?_) (fun h => ?_) | refine br_eq (fun h => ?_) (fun h => ?_)) <;> first | (exfalso; omega) | conv => whnf)
              | (refine br_intro (fun h => ?_) (fun h => ?_) <;> conv => whnf)
              | ((first | refine need_in (by first | exact trivial | assumption | exact ⟨rfl, Nat.le_refl _⟩ | exact ⟨rfl, rfl⟩ | (simp only [inR]; omega) | omega | (simp only [roomP, true_and, and_true, List.length_take, List.length_drop, List.length_append, List.length_cons, List.length_nil, List.length_set, List.length_replicate]; omega) | (refine ⟨by first | exact trivial | rfl, by first | exact Nat.le_refl _ | omega | (simp; omega), ?_⟩; change roomP _ _ 1; simp only [roomP]; omega) | (change roomP _ _ 1; simp only [roomP]; omega) | (simp; omega) | (simp [inR]; omega) | (simp [inR]; done) | decide | (simp; done) | exact ⟨by first | omega | (simp; omega), by assumption⟩) ?_ | refine idx_nat (by omega) (fun x hx => ?_) | refine frz_auto ?_ | refine draw_plain ?_ | refine idx_intro (by first | omega | (simp; omega) | (simp; done)) (by first | omega | (simp; omega) | (simp; done)) (fun x hx => ?_)); conv => whnf)
            rw [hc]
            simp only [cast_self, Nat.zero_add, List.take_zero, List.nil_append, List.take_length]
        · have hc : arrL b l n (id, es, ()) = (0, [], fitI ((newL l).map idR) (szL b n.toNat) (id, es, ())) := by
            unfold arrL
            rw [if_neg (fun e => e h1), if_pos hf]
          have hE0 : fitI (List.take ((newL l).map idR).length ((newL l).map idR)) (szL b n.toNat) (id, es, ()) ≠ 0 := fun e => hf (hE.symm.trans e)
          generalize hA : (newL l).map idR = A at *
          conv => whnf
          repeat' first
            | ((first | refine idx_kn (by assumption) ?_ | refine idx_ki (by assumption) (by omega) ?_ | refine br_true (by first | with_reducible exact rfl | assumption | decide) ?_ | refine br_false (by first | with_reducible exact rfl | assumption | decide) ?_ | with_reducible first | refine br_kt (by assumption) ?_ | refine br_kf (by assumption) ?_ | refine br_nt (by assumption) ?_ | refine br_nf (by assumption) ?_ | refine br_et (by assumption) ?_ | refine br_ef (by assumption) ?_); conv => whnf)
            | ((with_reducible first | refine br_dec (fun h => ?_) (fun h => ?_) | refine br_ndec (fun h => ?_) (fun h => ?_) | refine br_ne (fun h => ?_) (fun h => ?_) | refine br_eq (fun h => ?_) (fun h => ?_)) <;> first | (exfalso; omega) | conv => whnf)
            | (refine br_intro (fun h => ?_) (fun h => ?_) <;> conv => whnf)
            | ((first | refine need_in (by first | exact trivial | assumption | exact ⟨rfl, Nat.le_refl _⟩ | exact ⟨rfl, rfl⟩ | (simp only [inR]; omega) | omega | (simp only [roomP, true_and, and_true, List.length_take, List.length_drop, List.length_append, List.length_cons, List.length_nil, List.length_set, List.length_replicate]; omega) | (refine ⟨by first | exact trivial | rfl, by first | exact Nat.le_refl _ | omega | (simp; omega), ?_⟩; change roomP _ _ 1; simp only [roomP]; omega) | (change roomP _ _ 1; simp only [roomP]; omega) | (simp; omega) | (simp [inR]; omega) | (simp [inR]; done) | decide | (simp; done) | exact ⟨by first | omega | (simp; omega), by assumption⟩) ?_ | refine idx_nat (by omega) (fun x hx => ?_) | refine frz_auto ?_ | refine draw_plain ?_ | refine idx_intro (by first | omega | (simp; omega) | (simp; done)) (by first | omega | (simp; omega) | (simp; done)) (fun x hx => ?_)); conv => whnf)
          all_goals (rw [hc, hE])
    · have hc : arrL b l n (id, es, ()) = (0, [], inE b l n) := if_pos h1
      conv => whnf
      repeat' first
        | ((first | refine idx_kn (by assumption) ?_ | refine idx_ki (by assumption) (by omega) ?_ | refine br_true (by first | with_reducible exact rfl | assumption | decide) ?_ | refine br_false (by first | with_reducible exact rfl | assumption | decide) ?_ | with_reducible first | refine br_kt (by assumption) ?_ | refine br_kf (by assumption) ?_ | refine br_nt (by assumption) ?_ | refine br_nf (by assumption) ?_ | refine br_et (by assumption) ?_ | refine br_ef (by assumption) ?_); conv => whnf)
        | ((with_reducible first | refine br_dec (fun h => ?_) (fun h => ?_) | refine br_ndec (fun h => ?_) (fun h => ?_) | refine br_ne (fun h => ?_) (fun h => ?_) | refine br_eq (fun h => ?_) (fun h => ?_)) <;> first | (exfalso; omega) | conv => whnf)
        | (refine br_intro (fun h => ?_) (fun h => ?_) <;> conv => whnf)
        | ((first | refine need_in (by first | exact trivial | assumption | exact ⟨rfl, Nat.le_refl _⟩ | exact ⟨rfl, rfl⟩ | (simp only [inR]; omega) | omega | (simp only [roomP, true_and, and_true, List.length_take, List.length_drop, List.length_append, List.length_cons, List.length_nil, List.length_set, List.length_replicate]; omega) | (refine ⟨by first | exact trivial | rfl, by first | exact Nat.le_refl _ | omega | (simp; omega), ?_⟩; change roomP _ _ 1; simp only [roomP]; omega) | (change roomP _ _ 1; simp only [roomP]; omega) | (simp; omega) | (simp [inR]; omega) | (simp [inR]; done) | decide | (simp; done) | exact ⟨by first | omega | (simp; omega), by assumption⟩) ?_ | refine idx_nat (by omega) (fun x hx => ?_) | refine frz_auto ?_ | refine draw_plain ?_ | refine idx_intro (by first | omega | (simp; omega) | (simp; done)) (by first | omega | (simp; omega) | (simp; done)) (fun x hx => ?_)); conv => whnf)
      all_goals (rw [hc])
  · cases h
end Go.Proofs.Ytjinjnakedhmdaa
namespace Go.Proofs.Ytjinjnakedhmdaa
open Av Bk

def Big (l : List lvT.El) : Prop := l.length ≤ 1000000 ∧ ∀ x ∈ l, (rsL x).length ≤ 1000000 ∧ ∀ r ∈ rsL x, r.2.1.length ≤ 1000000
theorem big_nil : Big [] := ⟨Nat.zero_le _, fun x hx => by simp at hx⟩
theorem big_ok {b : Int} {l : List lvT.El} (h : VOk b l) : Big l := by
  have hok := lvOk_of (vok_iff.2 h)
  have h1 := hok.len
  exact ⟨by omega, fun x hx => ⟨by have := hok.two x hx; omega, fun r hr => by have := rc_len (hok.rc x hx r hr); omega⟩⟩
theorem big_arr (b : Int) (l : List lvT.El) (n : Int) (r : runT.El) : Big (arrL b l n r).2.1 := by
  by_cases h : (arrL b l n r).2.2 = 0
  · have A := arr_of h
    rw [A.arr]
    exact big_ok A.ok2
  · have : (arrL b l n r).2.1 = [] := by
      unfold arrL at h ⊢
      split
      · rfl
      · rename_i h1
        rw [if_neg h1] at h
        split
        · rfl
        · rename_i h2
          rw [if_neg h2] at h
          split
          · rfl
          · rename_i h3
            rw [if_neg h3] at h
            exact absurd rfl h
    rw [this]
    exact big_nil
theorem big_lea (b : Int) (l : List lvT.El) (n : Int) : Big (leaL b l n).1.2 ∧ (leaL b l n).2.1.length ≤ 1000000 ∧ ∀ r ∈ (leaL b l n).2.1, r.2.1.length ≤ 1000000 := by
  unfold leaL
  split
  · exact ⟨big_nil, Nat.zero_le _, fun r hr => by simp at hr⟩
  · rename_i h1
    have h1 := Decidable.not_not.1 h1
    obtain ⟨hlv, hn0, hn1⟩ := inE_ok h1
    have hck : (chkL b l).2.2 = 0 := by
      unfold inE at h1
      split at h1
      · exact h1
      · rename_i h; exact Decidable.not_not.1 h
    have hok := vok_iff.1 hck
    have hn2 : n.toNat < 12 := by omega
    split
    · exact ⟨big_nil, Nat.zero_le _, fun r hr => by simp at hr⟩
    · refine ⟨big_ok (with_ok hok hn2 (Nat.zero_le _) (fun x hx => by simp at hx) ?_), ?_, fun r hr => ?_⟩
      · have hnd := hok.nod
        rw [flat_lo idF hn2] at hnd
        exact hnd.sublist (List.Sublist.append (List.Sublist.refl _) (List.sublist_append_right _ _))
      · show (ownL l n).length ≤ _
        have := hok.two n.toNat
        rw [own_at]
        omega
      · have hr : r ∈ ownL l n := hr
        rw [own_at] at hr
        have := rc_len (fitE_rc (hok.fit _ r hr)).1
        omega
noncomputable def lm_C : Cx := ⟨tb, [], [(13, spShown), (14, spLV), (15, spLong), (29, spRoo), (30, spRoo), (31, spAbo), (32, spAbo), (16, spArr), (33, spArr), (19, spLea), (34, spLea), (18, spSRs), (21, spSLs)]⟩
theorem lm_D : SpecsOk Try.prog lm_C.specs := .cons lShown_ok (.cons lLV_ok (.cons lLong_ok (.cons lvRoo_ok (.cons r15Roo_ok (.cons lvAbo_ok (.cons r15Abo_ok (.cons lvArr_ok (.cons r15Arr_ok (.cons lvLea_ok (.cons r15Lea_ok (.cons r15SRs_ok (.cons r15SLs_ok .nil))))))))))))
set_option maxRecDepth 100000 in
theorem fnOk_lMo : FnOk Try.prog 8 Try.f8 := ⟨by rfl, by kernel_rfl, by
  show okCode _ _ = true ∧ drawsOk _ = true
  exact ⟨by kernel_rfl, by kernel_rfl⟩⟩
noncomputable abbrev lMo_C : Cx := lm_C
abbrev lMo_D := lm_D
theorem lMo_F : FnsOk Try.prog lMo_C.fns := FnsOk.nil
abbrev lMo_N : Nat := 0
abbrev lMo_T : List Ty := [lvsT, .int .i64, runT]
abbrev lMo_FN := fnOk_lMo
set_option maxRecDepth 100000 in
set_option maxHeartbeats 8000000 in
theorem lMo' (b : Int) (l : List lvT.El) (n id : Int) (es : List entT.El) : bodyA lMo_C (callN lMo_C lMo_N) Try.f8 [.agg [.int .i64 b, .lst lvT l], .int .i64 n, .agg [.int .i64 id, .lst entT es]] [] (fun v _ => v = .bool true) := by
  cases hf : longV l with
  | true =>
    conv => whnf
    repeat' first
      | ((first | refine idx_kn (by assumption) ?_ | refine idx_ki (by assumption) (by omega) ?_ | refine br_true (by first | with_reducible exact rfl | assumption | decide) ?_ | refine br_false (by first | with_reducible exact rfl | assumption | decide) ?_ | with_reducible first | refine br_kt (by assumption) ?_ | refine br_kf (by assumption) ?_ | refine br_nt (by assumption) ?_ | refine br_nf (by assumption) ?_ | refine br_et (by assumption) ?_ | refine br_ef (by assumption) ?_); conv => whnf)
      | ((with_reducible first | refine br_dec (fun h => ?_) (fun h => ?_) | refine br_ndec (fun h => ?_) (fun h => ?_) | refine br_ne (fun h => ?_) (fun h => ?_) | refine br_eq (fun h => ?_) (fun h => ?_)) <;> first | (exfalso; omega) | conv => whnf)
      | (refine br_intro (fun h => ?_) (fun h => ?_) <;> conv => whnf)
      | ((first | refine need_in (by first | exact trivial | assumption | exact ⟨rfl, Nat.le_refl _⟩ | exact ⟨rfl, rfl⟩ | (simp only [inR]; omega) | omega | (simp only [roomP, true_and, and_true, List.length_take, List.length_drop, List.length_append, List.length_cons, List.length_nil, List.length_set, List.length_replicate]; omega) | (refine ⟨by first | exact trivial | rfl, by first | exact Nat.le_refl _ | omega | (simp; omega), ?_⟩; change roomP _ _ 1; simp only [roomP]; omega) | (change roomP _ _ 1; simp only [roomP]; omega) | (simp; omega) | (simp [inR]; omega) | (simp [inR]; done) | decide | (simp; done) | exact ⟨by first | omega | (simp; omega), by assumption⟩) ?_ | refine idx_nat (by omega) (fun x hx => ?_) | refine frz_auto ?_ | refine draw_plain ?_ | refine idx_intro (by first | omega | (simp; omega) | (simp; done)) (by first | omega | (simp; omega) | (simp; done)) (fun x hx => ?_)); conv => whnf)
  | false =>
    cases hg : longL es with
    | true =>
      conv => whnf
      repeat' first
        | ((first | refine idx_kn (by assumption) ?_ | refine idx_ki (by assumption) (by omega) ?_ | refine br_true (by first | with_reducible exact rfl | assumption | decide) ?_ | refine br_false (by first | with_reducible exact rfl | assumption | decide) ?_ | with_reducible first | refine br_kt (by assumption) ?_ | refine br_kf (by assumption) ?_ | refine br_nt (by assumption) ?_ | refine br_nf (by assumption) ?_ | refine br_et (by assumption) ?_ | refine br_ef (by assumption) ?_); conv => whnf)
        | ((with_reducible first | refine br_dec (fun h => ?_) (fun h => ?_) | refine br_ndec (fun h => ?_) (fun h => ?_) | refine br_ne (fun h => ?_) (fun h => ?_) | refine br_eq (fun h => ?_) (fun h => ?_)) <;> first | (exfalso; omega) | conv => whnf)
        | (refine br_intro (fun h => ?_) (fun h => ?_) <;> conv => whnf)
        | ((first | refine need_in (by first | exact trivial | assumption | exact ⟨rfl, Nat.le_refl _⟩ | exact ⟨rfl, rfl⟩ | (simp only [inR]; omega) | omega | (simp only [roomP, true_and, and_true, List.length_take, List.length_drop, List.length_append, List.length_cons, List.length_nil, List.length_set, List.length_replicate]; omega) | (refine ⟨by first | exact trivial | rfl, by first | exact Nat.le_refl _ | omega | (simp; omega), ?_⟩; change roomP _ _ 1; simp only [roomP]; omega) | (change roomP _ _ 1; simp only [roomP]; omega) | (simp; omega) | (simp [inR]; omega) | (simp [inR]; done) | decide | (simp; done) | exact ⟨by first | omega | (simp; omega), by assumption⟩) ?_ | refine idx_nat (by omega) (fun x hx => ?_) | refine frz_auto ?_ | refine draw_plain ?_ | refine idx_intro (by first | omega | (simp; omega) | (simp; done)) (by first | omega | (simp; omega) | (simp; done)) (fun x hx => ?_)); conv => whnf)
    | false =>
      have h1 : (arrL b l n (id, es, ())).2.1.length ≤ 1000000 ∧ ∀ x ∈ ((arrL b l n (id, es, ())).2.1 : List lvT.El), (rsL x).length ≤ 1000000 ∧ ∀ r ∈ rsL x, r.2.1.length ≤ 1000000 := big_arr b l n (id, es, ())
      have h2 := big_lea b l n
      have h3 : (leaL b l n).1.2.length ≤ 1000000 ∧ ∀ x ∈ ((leaL b l n).1.2 : List lvT.El), (rsL x).length ≤ 1000000 ∧ ∀ r ∈ rsL x, r.2.1.length ≤ 1000000 := h2.1
      have h4 := h2.2
      have s1 : ((arrL b l n (id, es, ())).1 == (arrL b l n (id, es, ())).1 && samLs (arrL b l n (id, es, ())).2.1 (arrL b l n (id, es, ())).2.1) = true := by rw [beq_self_eq_true, samLs_refl]; rfl
      have s2 : (!((arrL b l n (id, es, ())).1 == (arrL b l n (id, es, ())).1 && samLs (arrL b l n (id, es, ())).2.1 (arrL b l n (id, es, ())).2.1)) = false := by rw [s1]; rfl
      have s3 : ((leaL b l n).1.1 == (leaL b l n).1.1 && samLs (leaL b l n).1.2 (leaL b l n).1.2) = true := by rw [beq_self_eq_true, samLs_refl]; rfl
      have s4 := samRs_refl (leaL b l n).2.1
      conv => whnf
      repeat' first
        | ((first | refine idx_kn (by assumption) ?_ | refine idx_ki (by assumption) (by omega) ?_ | refine br_true (by first | with_reducible exact rfl | assumption | decide) ?_ | refine br_false (by first | with_reducible exact rfl | assumption | decide) ?_ | with_reducible first | refine br_kt (by assumption) ?_ | refine br_kf (by assumption) ?_ | refine br_nt (by assumption) ?_ | refine br_nf (by assumption) ?_ | refine br_et (by assumption) ?_ | refine br_ef (by assumption) ?_); conv => whnf)
        | ((with_reducible first | refine br_dec (fun h => ?_) (fun h => ?_) | refine br_ndec (fun h => ?_) (fun h => ?_) | refine br_ne (fun h => ?_) (fun h => ?_) | refine br_eq (fun h => ?_) (fun h => ?_)) <;> first | (exfalso; omega) | conv => whnf)
        | (refine br_intro (fun h => ?_) (fun h => ?_) <;> conv => whnf)
        | ((first | refine need_in (by first | exact trivial | assumption | exact ⟨rfl, Nat.le_refl _⟩ | exact ⟨rfl, rfl⟩ | (simp only [inR]; omega) | omega | (simp only [roomP, true_and, and_true, List.length_take, List.length_drop, List.length_append, List.length_cons, List.length_nil, List.length_set, List.length_replicate]; omega) | (refine ⟨by first | exact trivial | rfl, by first | exact Nat.le_refl _ | omega | (simp; omega), ?_⟩; change roomP _ _ 1; simp only [roomP]; omega) | (change roomP _ _ 1; simp only [roomP]; omega) | (simp; omega) | (simp [inR]; omega) | (simp [inR]; done) | decide | (simp; done) | exact ⟨by first | omega | (simp; omega), by assumption⟩) ?_ | refine idx_nat (by omega) (fun x hx => ?_) | refine frz_auto ?_ | refine draw_plain ?_ | refine idx_intro (by first | omega | (simp; omega) | (simp; done)) (by first | omega | (simp; omega) | (simp; done)) (fun x hx => ?_)); conv => whnf)
      all_goals
        rw [beq_self_eq_true] at h
        cases h
theorem lMo : ∀ es : Ty.Els lMo_T, tyOks lMo_T es → bodyA lMo_C (callN lMo_C lMo_N) Try.f8 (avTs lMo_T es) [] (fun v _ => v = .bool true) := by
  rintro ⟨⟨b, l, _⟩, n, ⟨id, es, _⟩, _⟩ _
  exact lMo' b l n id es
end Go.Proofs.Ytjinjnakedhmdaa
