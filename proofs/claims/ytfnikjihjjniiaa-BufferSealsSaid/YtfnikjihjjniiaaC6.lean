/-
  Whether the buffer is awake; its first laws.
-/
import Derived.Test.YtfnikjihjjniiaaC5
namespace Go.Proofs.Ytfnikjihjjniiaa
open Av Bk

theorem fnOk_lPut : FnOk Try.prog 30 Try.f30 := ⟨by rfl, by kernel_rfl, by
  show okCode _ _ = true ∧ drawsOk _ = true
  exact ⟨by kernel_rfl, by kernel_rfl⟩⟩
def spPut : DSpec
  | [.str k, .int .i64 s] => some (True, .agg [.str k, .str ⟨#[118]⟩, .bool false, .int .i64 s])
  | _ => none
theorem lPut_ok : SpecOk Try.prog 30 spPut := by
  refine spec_body (C := cx0) mixed tbOk SpecsOk.nil (callN_ok (C := cx0) mixed tbOk SpecsOk.nil FnsOk.nil 0) fnOk_lPut ?_
  intro ys p r h hp
  unfold spPut at h
  split at h
  · cases h
    conv => whnf
  · cases h
theorem fnOk_shown : FnOk Try.prog 11 Try.f11 := ⟨by rfl, by kernel_rfl, by
  show okCode _ _ = true ∧ drawsOk _ = true
  exact ⟨by kernel_rfl, by kernel_rfl⟩⟩
noncomputable def cx35 : Cx := ⟨tb, [], [(30, spPut), (17, spWr1), (12, spFits), (19, spSeal), (21, spSame), (16, spBSame)]⟩
theorem specs35 : SpecsOk Try.prog cx35.specs := .cons lPut_ok (.cons bWr1_ok (.cons bFits_ok (.cons bSeal_ok (.cons rSameL_ok (.cons rSame_ok .nil)))))
def spShown : DSpec
  | [] => some (True, .bool true)
  | _ => none
set_option maxRecDepth 100000 in
set_option maxHeartbeats 8000000 in
theorem shown_ok : SpecOk Try.prog 11 spShown := by
  refine spec_body (C := cx35) mixed tbOk specs35 (callN_ok (C := cx35) mixed tbOk specs35 FnsOk.nil 0) fnOk_shown ?_
  intro ys p r h hp
  unfold spShown at h
  split at h
  · cases h
    conv => whnf
    repeat' first
      | (refine br_true (by first | with_reducible exact rfl | decide | rfl) ?_; conv => whnf)
      | (refine br_false (by first | with_reducible exact rfl | decide | rfl) ?_; conv => whnf)
      | (refine need_in (by first | exact trivial | exact ⟨rfl, Nat.le_refl _⟩ | decide | (simp only [inR]; omega) | omega) ?_; conv => whnf)
      | (refine frz_auto ?_; conv => whnf)
      | (refine idx_cl ?_; (conv => whnf); refine ⟨by decide, ?_⟩; conv => whnf)
      | fail
    refine .mk [.frz 0 [] [(1, 1)]] ?_
    conv => whnf
    repeat' first
      | (refine br_true (by first | with_reducible exact rfl | decide | rfl) ?_; conv => whnf)
      | (refine br_false (by first | with_reducible exact rfl | decide | rfl) ?_; conv => whnf)
      | (refine need_in (by first | exact trivial | exact ⟨rfl, Nat.le_refl _⟩ | decide | (simp only [inR]; omega) | omega) ?_; conv => whnf)
      | (refine frz_auto ?_; conv => whnf)
      | (refine draw_plain ?_; conv => whnf)
      | (refine idx_cl ?_; (conv => whnf); refine ⟨by decide, ?_⟩; conv => whnf)
      | fail
    refine congrArg AV.bool ?_
    first | rfl | decide
  · cases h
theorem fnOk_lLong : FnOk Try.prog 10 Try.f10 := ⟨by rfl, by kernel_rfl, by
  show okCode _ _ = true ∧ drawsOk _ = true
  exact ⟨by kernel_rfl, by kernel_rfl⟩⟩
def wide (x : entT.El) : Bool := decide (100 < (x.1.size : Int)) || decide (100 < (x.2.1.size : Int))
def longL (l : List entT.El) : Bool := (l.take 40).any wide || decide (30 < (l.length : Int))
def spLong : DSpec
  | [.lst (.st [.str, .str, .bool, .int .i64]) l] => some (True, .bool (longL l))
  | _ => none
theorem any_take {l : List entT.El} {i : Nat} {x : entT.El} (h : (l.take i).any wide = false) (hx : l[i]? = some x) (hw : wide x = false) : (l.take (i + 1)).any wide = false := by
  rw [List.take_add_one, hx, List.any_append, h]
  simp [hw]
theorem any_hit {l : List entT.El} {i n : Nat} {x : entT.El} (hin : i < n) (hx : l[i]? = some x) (hw : wide x = true) : (l.take n).any wide = true := by
  rw [List.any_eq_true]
  exact ⟨x, List.mem_iff_getElem?.2 ⟨i, by rw [List.getElem?_take, if_pos hin]; exact hx⟩, hw⟩
set_option maxRecDepth 100000 in
set_option maxHeartbeats 2000000 in
theorem lLong_ok : SpecOk Try.prog 10 spLong := by
  refine spec_body (C := cx0) mixed tbOk SpecsOk.nil (callN_ok (C := cx0) mixed tbOk SpecsOk.nil FnsOk.nil 0) fnOk_lLong ?_
  intro ys p r h hp
  unfold spLong at h
  split at h
  · rename_i l
    cases h
    conv => whnf
    refine loop_inv [] [3] (fun vs h => ∃ i : Nat, vs = [.int .i64 (i : Int)] ∧ h = [] ∧ i ≤ l.length ∧ i ≤ 40 ∧ (l.take i).any wide = false) (fun vs _ => match vs with | [.int _ k] => l.length - k.toNat | _ => 0) ?_
    refine ⟨⟨0, rfl, rfl, Nat.zero_le _, Nat.zero_le _, rfl⟩, ?_⟩
    rintro vs h' - ⟨i, rfl, rfl, hi, hi2, hs⟩
    conv => whnf
    repeat' first
      | (refine br_true (by first | with_reducible exact rfl | assumption | decide) ?_; conv => whnf)
      | (refine br_false (by first | with_reducible exact rfl | assumption | decide) ?_; conv => whnf)
      | ((with_reducible refine br_kt (by assumption) ?_); conv => whnf)
      | ((with_reducible refine br_kf (by assumption) ?_); conv => whnf)
      | ((with_reducible refine br_nt (by assumption) ?_); conv => whnf)
      | ((with_reducible refine br_nf (by assumption) ?_); conv => whnf)
      | ((with_reducible refine br_et (by assumption) ?_); conv => whnf)
      | ((with_reducible refine br_ef (by assumption) ?_); conv => whnf)
      | ((with_reducible refine br_dec (fun h => ?_) (fun h => ?_)) <;> first | (exfalso; omega) | conv => whnf)
      | ((with_reducible refine br_ndec (fun h => ?_) (fun h => ?_)) <;> first | (exfalso; omega) | conv => whnf)
      | ((with_reducible refine br_ne (fun h => ?_) (fun h => ?_)) <;> first | (exfalso; omega) | conv => whnf)
      | ((with_reducible refine br_eq (fun h => ?_) (fun h => ?_)) <;> first | (exfalso; omega) | conv => whnf)
      | (refine br_intro (fun h => ?_) (fun h => ?_) <;> conv => whnf)
      | (refine need_in (by first | exact trivial | assumption | exact ⟨rfl, Nat.le_refl _⟩ | exact ⟨rfl, rfl⟩ | (simp only [inR]; omega) | omega | (simp only [roomP, true_and, and_true, List.length_take, List.length_drop, List.length_append, List.length_cons, List.length_nil, List.length_set, List.length_replicate]; omega) | (refine ⟨by first | exact trivial | rfl, by first | exact Nat.le_refl _ | omega, ?_⟩; change roomP _ _ 1; simp only [roomP]; omega) | (change roomP _ _ 1; simp only [roomP]; omega) | (simp; omega) | (simp [inR]; omega) | (simp [inR]; done) | decide | (simp; done)) ?_; conv => whnf)
      | (refine idx_nat (by omega) (fun x hx => ?_); conv => whnf)
      | (refine frz_auto ?_; conv => whnf)
      | (refine draw_plain ?_; conv => whnf)
      | (refine idx_intro (by omega) (by omega) (fun x hx => ?_); conv => whnf)
      | (refine idx_intro (by first | omega | (simp; omega) | (simp; done)) (by first | omega | (simp; omega) | (simp; done)) (fun x hx => ?_); conv => whnf)
      | fail
    · refine congrArg AV.bool ?_
      rw [longL, any_hit (i := i) (by omega) hx (by simp [wide, h])]; rfl
    · refine congrArg AV.bool ?_
      rw [longL, any_hit (i := i) (by omega) hx (by simp [wide, h])]; rfl
    · rename_i y hy hk
      obtain rfl := Option.some.inj (hy.symm.trans hx)
      refine back_intro (by conv => whnf) rfl ⟨i + 1, rfl, rfl, by omega, by omega, any_take hs hx (by rw [wide, decide_eq_false hk, decide_eq_false h]; rfl)⟩ ?_
      show l.length - ((i : Int) + 1).toNat < l.length - (i : Int).toNat
      omega
    · refine congrArg AV.bool ?_
      rw [longL, show 40 = i by omega, hs]; rfl
    · refine congrArg AV.bool ?_
      have e : l.take 40 = l.take i := by rw [List.take_of_length_le (by omega), List.take_of_length_le (by omega)]
      rw [longL, e, hs]; rfl
  · cases h
theorem longL_len {l : List entT.El} (h : longL l = false) : l.length ≤ 30 := by
  unfold longL at h
  rw [Bool.or_eq_false_iff] at h
  have := of_decide_eq_false h.2
  omega
abbrev bufT : Ty := .st [.int .i64, .sl entT]
theorem fnOk_lKn : FnOk Try.prog 5 Try.f5 := ⟨by rfl, by kernel_rfl, by
  show okCode _ _ = true ∧ drawsOk _ = true
  exact ⟨by kernel_rfl, by kernel_rfl⟩⟩
noncomputable def lKn_C : Cx := ⟨tb, [], [(11, spShown)]⟩
theorem lKn_D : SpecsOk Try.prog lKn_C.specs := .cons shown_ok .nil
theorem lKn_F : FnsOk Try.prog lKn_C.fns := FnsOk.nil
abbrev lKn_N : Nat := 0
abbrev lKn_T : List Ty := []
abbrev lKn_FN := fnOk_lKn
theorem lKn : ∀ es : Ty.Els lKn_T, tyOks lKn_T es → bodyA lKn_C (callN lKn_C lKn_N) Try.f5 (avTs lKn_T es) [] (fun v _ => v = .bool true) := by
  rintro _ -
  show bodyA _ _ _ [] [] _
  conv => whnf
  repeat' first
    | (refine br_true (by first | with_reducible exact rfl | assumption | decide) ?_; conv => whnf)
    | (refine br_false (by first | with_reducible exact rfl | assumption | decide) ?_; conv => whnf)
    | ((with_reducible refine br_kt (by assumption) ?_); conv => whnf)
    | ((with_reducible refine br_kf (by assumption) ?_); conv => whnf)
    | ((with_reducible refine br_nt (by assumption) ?_); conv => whnf)
    | ((with_reducible refine br_nf (by assumption) ?_); conv => whnf)
    | ((with_reducible refine br_et (by assumption) ?_); conv => whnf)
    | ((with_reducible refine br_ef (by assumption) ?_); conv => whnf)
    | ((with_reducible refine br_dec (fun h => ?_) (fun h => ?_)) <;> first | (exfalso; omega) | conv => whnf)
    | ((with_reducible refine br_ndec (fun h => ?_) (fun h => ?_)) <;> first | (exfalso; omega) | conv => whnf)
    | ((with_reducible refine br_ne (fun h => ?_) (fun h => ?_)) <;> first | (exfalso; omega) | conv => whnf)
    | ((with_reducible refine br_eq (fun h => ?_) (fun h => ?_)) <;> first | (exfalso; omega) | conv => whnf)
    | (refine br_intro (fun h => ?_) (fun h => ?_) <;> conv => whnf)
    | (refine need_in (by first | exact trivial | assumption | exact ⟨rfl, Nat.le_refl _⟩ | exact ⟨rfl, rfl⟩ | (simp only [inR]; omega) | omega | (simp only [roomP, true_and, and_true, List.length_take, List.length_drop, List.length_append, List.length_cons, List.length_nil, List.length_set, List.length_replicate]; omega) | (refine ⟨by first | exact trivial | rfl, by first | exact Nat.le_refl _ | omega, ?_⟩; change roomP _ _ 1; simp only [roomP]; omega) | (change roomP _ _ 1; simp only [roomP]; omega) | (simp; omega) | (simp [inR]; omega) | (simp [inR]; done) | decide | (simp; done)) ?_; conv => whnf)
    | (refine idx_nat (by omega) (fun x hx => ?_); conv => whnf)
    | (refine frz_auto ?_; conv => whnf)
    | (refine draw_plain ?_; conv => whnf)
    | (refine idx_intro (by omega) (by omega) (fun x hx => ?_); conv => whnf)
    | (refine idx_intro (by first | omega | (simp; omega) | (simp; done)) (by first | omega | (simp; omega) | (simp; done)) (fun x hx => ?_); conv => whnf)
    | fail
theorem fnOk_lCh : FnOk Try.prog 6 Try.f6 := ⟨by rfl, by kernel_rfl, by
  show okCode _ _ = true ∧ drawsOk _ = true
  exact ⟨by kernel_rfl, by kernel_rfl⟩⟩
noncomputable def lCh_C : Cx := ⟨tb, [], [(11, spShown), (10, spLong), (22, spNew), (23, spNew), (24, spChB), (25, spChB), (16, spBSame)]⟩
theorem lCh_D : SpecsOk Try.prog lCh_C.specs := .cons shown_ok (.cons lLong_ok (.cons bNew_ok (.cons rNew_ok (.cons bChk_ok (.cons rChk_ok (.cons rSame_ok .nil))))))
theorem lCh_F : FnsOk Try.prog lCh_C.fns := FnsOk.nil
abbrev lCh_N : Nat := 0
abbrev lCh_T : List Ty := [bufT, .int .i64]
abbrev lCh_FN := fnOk_lCh
set_option maxRecDepth 100000 in
set_option maxHeartbeats 4000000 in
theorem lCh : ∀ es : Ty.Els lCh_T, tyOks lCh_T es → bodyA lCh_C (callN lCh_C lCh_N) Try.f6 (avTs lCh_T es) [] (fun v _ => v = .bool true) := by
  rintro ⟨⟨m, l, _⟩, n, _⟩ -
  show bodyA _ _ _ [.agg [.int .i64 m, .lst entT l], .int .i64 n] [] _
  conv => whnf
  repeat' first
    | (refine br_true (by first | with_reducible exact rfl | assumption | decide) ?_; conv => whnf)
    | (refine br_false (by first | with_reducible exact rfl | assumption | decide) ?_; conv => whnf)
    | ((with_reducible refine br_kt (by assumption) ?_); conv => whnf)
    | ((with_reducible refine br_kf (by assumption) ?_); conv => whnf)
    | ((with_reducible refine br_nt (by assumption) ?_); conv => whnf)
    | ((with_reducible refine br_nf (by assumption) ?_); conv => whnf)
    | ((with_reducible refine br_et (by assumption) ?_); conv => whnf)
    | ((with_reducible refine br_ef (by assumption) ?_); conv => whnf)
    | ((with_reducible refine br_dec (fun h => ?_) (fun h => ?_)) <;> first | (exfalso; omega) | conv => whnf)
    | ((with_reducible refine br_ndec (fun h => ?_) (fun h => ?_)) <;> first | (exfalso; omega) | conv => whnf)
    | ((with_reducible refine br_ne (fun h => ?_) (fun h => ?_)) <;> first | (exfalso; omega) | conv => whnf)
    | ((with_reducible refine br_eq (fun h => ?_) (fun h => ?_)) <;> first | (exfalso; omega) | conv => whnf)
    | (refine br_intro (fun h => ?_) (fun h => ?_) <;> conv => whnf)
    | (refine need_in (by first | exact trivial | assumption | exact ⟨rfl, Nat.le_refl _⟩ | exact ⟨rfl, rfl⟩ | (simp only [inR]; omega) | omega | (simp only [roomP, true_and, and_true, List.length_take, List.length_drop, List.length_append, List.length_cons, List.length_nil, List.length_set, List.length_replicate]; omega) | (refine ⟨by first | exact trivial | rfl, by first | exact Nat.le_refl _ | omega, ?_⟩; change roomP _ _ 1; simp only [roomP]; omega) | (change roomP _ _ 1; simp only [roomP]; omega) | (simp; omega) | (simp [inR]; omega) | (simp [inR]; done) | decide | (simp; done)) ?_; conv => whnf)
    | (refine idx_nat (by omega) (fun x hx => ?_); conv => whnf)
    | (refine frz_auto ?_; conv => whnf)
    | (refine draw_plain ?_; conv => whnf)
    | (refine idx_intro (by omega) (by omega) (fun x hx => ?_); conv => whnf)
    | (refine idx_intro (by first | omega | (simp; omega) | (simp; done)) (by first | omega | (simp; omega) | (simp; done)) (fun x hx => ?_); conv => whnf)
    | fail
  rw [beq_self_eq_true] at h
  exact absurd h (by decide)
end Go.Proofs.Ytfnikjihjjniiaa
