/-
  What the reference says of sorting, of the newest ones; whether two lists are one.
-/
import Derived.Test.YtmegjnanieafbaaN6
namespace Go.Proofs.Ytmegjnanieafbaa
open Av Bk

theorem errAll_mem {l : List entT.El} (h : errAll l = 0) : l.length ≤ 5000 ∧ ∀ x ∈ l, errX x = 0 := by
  unfold errAll at h
  split at h
  · cases h
  · rename_i h5
    refine And.intro (by omega) ?_
    clear h5
    induction l with
    | nil => simp
    | cons y l ih =>
      simp only [errGo] at h
      split at h
      · rename_i hy
        intro x hx
        rcases List.mem_cons.1 hx with rfl | hx
        · exact hy
        · exact ih h x hx
      · rename_i hy; exact absurd h hy
theorem errX_key {x : entT.El} (h : errX x = 0) : (x.1.size : Int) ≤ 4611686018427387904 := by
  simp only [errX, errE] at h
  by_cases hk : 32 < (x.1.size : Int)
  · simp [hk] at h
  · omega
theorem fnOk_refSort : FnOk Try.prog 23 Try.f23 := ⟨by rfl, by kernel_rfl, by
  show okCode _ _ = true ∧ drawsOk _ = true
  exact ⟨by kernel_rfl, by kernel_rfl⟩⟩
noncomputable def cx7 : Cx := ⟨tb, [], [(32, spAll), (33, spSorted)]⟩
theorem specs7 : SpecsOk Try.prog cx7.specs := .cons refAll_ok (.cons refSorted_ok .nil)
def spSort : DSpec
  | [.lst (.st [.str, .str, .bool, .int .i64]) l] => some (True, .tup [.lst entT (if errAll l = 0 then sortX l else []), .int .i64 (errAll l)])
  | _ => none
set_option maxRecDepth 100000 in
set_option maxHeartbeats 2000000 in
theorem refSort_ok : SpecOk Try.prog 23 spSort := by
  refine spec_body (C := cx7) mixed tbOk specs7 (callN_ok (C := cx7) mixed tbOk specs7 FnsOk.nil 0) fnOk_refSort ?_
  intro ys p r h hp
  unfold spSort at h
  split at h
  · rename_i l
    cases h
    conv => whnf
    repeat' first
      | (refine br_true (by first | with_reducible exact rfl | assumption | decide) ?_; conv => whnf)
      | (refine br_false (by first | with_reducible exact rfl | assumption | decide) ?_; conv => whnf)
      | (with_reducible refine br_kt (by assumption) ?_; conv => whnf)
      | (with_reducible refine br_kf (by assumption) ?_; conv => whnf)
      | (with_reducible refine br_nt (by assumption) ?_; conv => whnf)
      | (with_reducible refine br_nf (by assumption) ?_; conv => whnf)
      | (with_reducible refine br_et (by assumption) ?_; conv => whnf)
      | (with_reducible refine br_ef (by assumption) ?_; conv => whnf)
      | ((with_reducible refine br_dec (fun h => ?_) (fun h => ?_)) <;> first | (exfalso; omega) | conv => whnf)
      | ((with_reducible refine br_ndec (fun h => ?_) (fun h => ?_)) <;> first | (exfalso; omega) | conv => whnf)
      | ((with_reducible refine br_ne (fun h => ?_) (fun h => ?_)) <;> first | (exfalso; omega) | conv => whnf)
      | ((with_reducible refine br_eq (fun h => ?_) (fun h => ?_)) <;> first | (exfalso; omega) | conv => whnf)
      | (refine br_intro (fun h => ?_) (fun h => ?_) <;> conv => whnf)
      | (refine need_in (by first | exact trivial | assumption | exact ⟨rfl, Nat.le_refl _⟩ | (simp only [inR]; omega) | omega | (simp only [roomP, true_and, and_true, List.length_take, List.length_drop, List.length_append, List.length_cons, List.length_nil, List.length_set, List.length_replicate]; omega) | (refine ⟨by first | exact trivial | rfl, by first | exact Nat.le_refl _ | omega, ?_⟩; change roomP _ _ 1; simp only [roomP]; omega) | (change roomP _ _ 1; simp only [roomP]; omega) | (simp; omega) | (simp; done)) ?_; conv => whnf)
      | (refine idx_nat (by omega) (fun x hx => ?_); conv => whnf)
      | (refine idx_intro (by omega) (by omega) (fun x hx => ?_); conv => whnf)
    · rw [if_neg h]; rfl
    · obtain ⟨h1, h2⟩ := errAll_mem h
      refine need_in ⟨by omega, fun x hx => errX_key (h2 x hx)⟩ ?_
      conv => whnf
      rw [if_pos h, h]
  · cases h
theorem fnOk_refNewest : FnOk Try.prog 24 Try.f24 := ⟨by rfl, by kernel_rfl, by
  show okCode _ _ = true ∧ drawsOk _ = true
  exact ⟨by kernel_rfl, by kernel_rfl⟩⟩
noncomputable def cx8 : Cx := ⟨tb, [], [(23, spSort)]⟩
theorem specs8 : SpecsOk Try.prog cx8.specs := .cons refSort_ok .nil
def spNewest : DSpec
  | [.lst (.st [.str, .str, .bool, .int .i64]) l] => some (True, .tup [.lst entT (if errAll l = 0 then (nwF false (sortX l)).1 else []), .int .i64 (errAll l)])
  | _ => none
/-- The key of the entry ahead, if there is one. -/
theorem nwF_state {b : Bool} {l : List entT.El} {i : Nat} (hi : i < l.length) : (nwF b (l.take i)).2 = (match i with | 0 => (false, ⟨#[]⟩) | j + 1 => (true, (l[j]'(by omega)).1)) := by
  cases i with
  | zero => rfl
  | succ j =>
    rw [nwF_take (List.getElem?_eq_getElem (by omega))]
    rfl
theorem nw_new {s : List entT.El} {i : Nat} {x : entT.El} (hx : s[i]? = some x) (h : i = 0 ∨ ∃ y, s[i - 1]? = some y ∧ sEq x.1 y.1 = false) : (nwF false (s.take (i + 1))).1 = (nwF false (s.take i)).1 ++ [x] := by
  have hi : i < s.length := (List.getElem?_eq_some_iff.1 hx).1
  rw [nwF_take hx, nwStep, nwF_state hi]
  cases i with
  | zero => rfl
  | succ j =>
    obtain ⟨y, hy, he⟩ := h.resolve_left (by omega)
    have hy : s[j]? = some y := hy
    have : s[j] = y := by rw [List.getElem?_eq_getElem (by omega)] at hy; exact Option.some.inj hy
    simp only [this, he]
    rfl
theorem nw_old {s : List entT.El} {i : Nat} {x : entT.El} (hx : s[i]? = some x) (h0 : i ≠ 0) {y : entT.El} (hy : s[i - 1]? = some y) (he : sEq x.1 y.1 = true) : (nwF false (s.take (i + 1))).1 = (nwF false (s.take i)).1 := by
  have hi : i < s.length := (List.getElem?_eq_some_iff.1 hx).1
  rw [nwF_take hx, nwStep, nwF_state hi]
  cases i with
  | zero => exact absurd rfl h0
  | succ j =>
    have hy : s[j]? = some y := hy
    have : s[j] = y := by rw [List.getElem?_eq_getElem (by omega)] at hy; exact Option.some.inj hy
    simp only [this, he]
    rfl
theorem own_eq {id g n m : Nat} {c : AV} (h : n = m) : [AV.own id g n, c] = [AV.own id g m, c] := by rw [h]
theorem heap_keep2 {b : AObj} {T : TypeId} {t : Ty} {g : Nat} {l m : List t.El} (hl : l = m) : [b, .arr T t l false g] = [b, AObj.arr T t m false g] := by
  subst hl
  rfl
set_option maxRecDepth 100000 in
set_option maxHeartbeats 2000000 in
theorem refNewest_ok : SpecOk Try.prog 24 spNewest := by
  refine spec_body (C := cx8) mixed tbOk specs8 (callN_ok (C := cx8) mixed tbOk specs8 FnsOk.nil 0) fnOk_refNewest ?_
  intro ys p r h hp
  unfold spNewest at h
  split at h
  · rename_i l
    cases h
    conv => whnf
    repeat' first
      | (refine br_true (by first | with_reducible exact rfl | assumption | decide) ?_; conv => whnf)
      | (refine br_false (by first | with_reducible exact rfl | assumption | decide) ?_; conv => whnf)
      | (with_reducible refine br_kt (by assumption) ?_; conv => whnf)
      | (with_reducible refine br_kf (by assumption) ?_; conv => whnf)
      | (with_reducible refine br_nt (by assumption) ?_; conv => whnf)
      | (with_reducible refine br_nf (by assumption) ?_; conv => whnf)
      | (with_reducible refine br_et (by assumption) ?_; conv => whnf)
      | (with_reducible refine br_ef (by assumption) ?_; conv => whnf)
      | ((with_reducible refine br_dec (fun h => ?_) (fun h => ?_)) <;> first | (exfalso; omega) | conv => whnf)
      | ((with_reducible refine br_ndec (fun h => ?_) (fun h => ?_)) <;> first | (exfalso; omega) | conv => whnf)
      | ((with_reducible refine br_ne (fun h => ?_) (fun h => ?_)) <;> first | (exfalso; omega) | conv => whnf)
      | ((with_reducible refine br_eq (fun h => ?_) (fun h => ?_)) <;> first | (exfalso; omega) | conv => whnf)
      | (refine br_intro (fun h => ?_) (fun h => ?_) <;> conv => whnf)
      | (refine need_in (by first | exact trivial | assumption | exact ⟨rfl, Nat.le_refl _⟩ | (simp only [inR]; omega) | omega | (simp only [roomP, true_and, and_true, List.length_take, List.length_drop, List.length_append, List.length_cons, List.length_nil, List.length_set, List.length_replicate]; omega) | (refine ⟨by first | exact trivial | rfl, by first | exact Nat.le_refl _ | omega, ?_⟩; change roomP _ _ 1; simp only [roomP]; omega) | (change roomP _ _ 1; simp only [roomP]; omega) | (simp; omega) | (simp; done)) ?_; conv => whnf)
      | (refine idx_nat (by omega) (fun x hx => ?_); conv => whnf)
      | (refine idx_intro (by omega) (by omega) (fun x hx => ?_); conv => whnf)
    · rw [if_neg h]; rfl
    · have hm := (errAll_mem h).1
      rw [if_pos h, if_pos h, h]
      generalize hs : sortX l = s
      have hsl := sortX_len l
      rw [hs] at hsl
      refine loop_inv [] [6, 7] (fun vs h => ∃ (i g : Nat) (out : List entT.El), vs = [.own 1 g out.length, .int .i64 (i : Int)] ∧ h = [.arr 25 entT [] false 0, .arr 25 entT out false g] ∧ i ≤ s.length ∧ (nwF false (s.take i)).1 = out) (fun vs _ => match vs with | [_, .int _ k] => s.length - k.toNat | _ => 0) ?_
      conv => whnf
      refine ⟨⟨0, 0, [], rfl, rfl, Nat.zero_le _, rfl⟩, ?_⟩
      rintro vs h' - ⟨i, g, out, rfl, rfl, hi, hnw⟩
      have hol := nw_len false (s.take i) ([], false, ⟨#[]⟩)
      rw [show ((s.take i).foldl (nwStep false) ([], false, ⟨#[]⟩)).1 = out from hnw, List.length_take] at hol
      simp only [List.length_nil] at hol
      conv => whnf
      repeat' first
        | (refine br_true (by first | with_reducible exact rfl | assumption | decide) ?_; conv => whnf)
        | (refine br_false (by first | with_reducible exact rfl | assumption | decide) ?_; conv => whnf)
        | (with_reducible refine br_kt (by assumption) ?_; conv => whnf)
        | (with_reducible refine br_kf (by assumption) ?_; conv => whnf)
        | (with_reducible refine br_nt (by assumption) ?_; conv => whnf)
        | (with_reducible refine br_nf (by assumption) ?_; conv => whnf)
        | (with_reducible refine br_et (by assumption) ?_; conv => whnf)
        | (with_reducible refine br_ef (by assumption) ?_; conv => whnf)
        | ((with_reducible refine br_dec (fun h => ?_) (fun h => ?_)) <;> first | (exfalso; omega) | conv => whnf)
        | ((with_reducible refine br_ndec (fun h => ?_) (fun h => ?_)) <;> first | (exfalso; omega) | conv => whnf)
        | ((with_reducible refine br_ne (fun h => ?_) (fun h => ?_)) <;> first | (exfalso; omega) | conv => whnf)
        | ((with_reducible refine br_eq (fun h => ?_) (fun h => ?_)) <;> first | (exfalso; omega) | conv => whnf)
        | (refine br_intro (fun h => ?_) (fun h => ?_) <;> conv => whnf)
        | (refine need_in (by first | exact trivial | assumption | exact ⟨rfl, Nat.le_refl _⟩ | (simp only [inR]; omega) | omega | (simp only [roomP, true_and, and_true, List.length_take, List.length_drop, List.length_append, List.length_cons, List.length_nil, List.length_set, List.length_replicate]; omega) | (refine ⟨by first | exact trivial | rfl, by first | exact Nat.le_refl _ | omega, ?_⟩; change roomP _ _ 1; simp only [roomP]; omega) | (change roomP _ _ 1; simp only [roomP]; omega) | (simp; omega) | (simp; done)) ?_; conv => whnf)
        | (refine idx_nat (by omega) (fun x hx => ?_); conv => whnf)
        | (refine idx_intro (by omega) (by omega) (fun x hx => ?_); conv => whnf)
      · refine back_intro (by conv => whnf) rfl ⟨i + 1, g + 1, out ++ [x], own_eq ?_, heap_keep2 ?_, by omega, (nw_new hx (.inl (by omega))).trans (congrArg (· ++ [x]) hnw)⟩ ?_
        · rw [List.length_append]; rfl
        · simp only [cast_self, List.take_length]; rfl
        · show s.length - ((i : Int) + 1).toNat < s.length - (i : Int).toNat
          omega
      · rename_i x1 hx1 y hy
        rw [show ((i : Int) - 1).toNat = i - 1 by omega] at hy
        obtain rfl : x1 = x := Option.some.inj (hx1.symm.trans hx)
        refine back_intro (by conv => whnf) rfl ⟨i + 1, g + 1, out ++ [x1], own_eq ?_, heap_keep2 ?_, by omega, (nw_new hx (.inr ⟨y, hy, by simpa using h⟩)).trans (congrArg (· ++ [x1]) hnw)⟩ ?_
        · rw [List.length_append]; rfl
        · simp only [cast_self, List.take_length]; rfl
        · show s.length - ((i : Int) + 1).toNat < s.length - (i : Int).toNat
          omega
      · rename_i x1 hx1
        rw [show ((i : Int) - 1).toNat = i - 1 by omega] at hx
        refine back_intro (by conv => whnf) rfl ⟨i + 1, g, out, rfl, rfl, by omega, (nw_old hx1 (by omega) hx (by simpa using h)).trans hnw⟩ ?_
        show s.length - ((i : Int) + 1).toNat < s.length - (i : Int).toNat
        omega
      · rw [List.take_length, ← hnw, List.take_of_length_le (by omega)]
  · cases h
theorem fnOk_sameEnts : FnOk Try.prog 22 Try.f22 := ⟨by rfl, by kernel_rfl, by
  show okCode _ _ = true ∧ drawsOk _ = true
  exact ⟨by kernel_rfl, by kernel_rfl⟩⟩
def sameL (t : Ty) : List t.El → List t.El → Bool
  | [], [] => true
  | x :: a, y :: b => eqT t x y && sameL t a b
  | _, _ => false
theorem bnt {b : Bool} (h : (!b) = true) : b = false := by simpa using h
theorem bnf {b : Bool} (h : (!b) = false) : b = true := by simpa using h
theorem same_len {t : Ty} : ∀ {a b : List t.El}, a.length ≠ b.length → sameL t a b = false
  | [], [], h => absurd rfl h
  | [], _ :: _, _ => rfl
  | _ :: _, [], _ => rfl
  | x :: a, y :: b, h => by
    rw [sameL, same_len (a := a) (b := b) (fun e => h (by simp [e]))]
    simp
theorem same_step {t : Ty} {x y : t.El} : ∀ {i : Nat} {a b : List t.El}, a[i]? = some x → b[i]? = some y → sameL t (a.drop i) (b.drop i) = (eqT t x y && sameL t (a.drop (i + 1)) (b.drop (i + 1)))
  | 0, u :: a, v :: b, hx, hy => by cases hx; cases hy; rfl
  | i + 1, u :: a, v :: b, hx, hy => same_step (i := i) (a := a) (b := b) (by simpa using hx) (by simpa using hy)
  | _, [], _, hx, _ => by simp at hx
  | _, _ :: _, [], _, hy => by simp at hy
theorem same_end {t : Ty} {a b : List t.El} {i : Nat} (h : a.length ≤ i) (hb : b.length ≤ i) : sameL t (a.drop i) (b.drop i) = true := by
  rw [List.drop_eq_nil_of_le h, List.drop_eq_nil_of_le hb]
  rfl
def spSame : DSpec
  | [.lst (.st [.str, .str, .bool, .int .i64]) a, .lst (.st [.str, .str, .bool, .int .i64]) b] => some (a.length ≤ 4611686018427387904, .bool (sameL entT a b))
  | _ => none
set_option maxRecDepth 100000 in
set_option maxHeartbeats 2000000 in
theorem sameEnts_ok : SpecOk Try.prog 22 spSame := by
  refine spec_body (C := cx0) mixed tbOk SpecsOk.nil (callN_ok (C := cx0) mixed tbOk SpecsOk.nil FnsOk.nil 0) fnOk_sameEnts ?_
  intro ys p r h hp
  unfold spSame at h
  split at h
  · rename_i a b
    cases h
    conv => whnf
    repeat' first
      | (refine br_true (by first | with_reducible exact rfl | assumption | decide) ?_; conv => whnf)
      | (refine br_false (by first | with_reducible exact rfl | assumption | decide) ?_; conv => whnf)
      | (with_reducible refine br_kt (by assumption) ?_; conv => whnf)
      | (with_reducible refine br_kf (by assumption) ?_; conv => whnf)
      | (with_reducible refine br_nt (by assumption) ?_; conv => whnf)
      | (with_reducible refine br_nf (by assumption) ?_; conv => whnf)
      | (with_reducible refine br_et (by assumption) ?_; conv => whnf)
      | (with_reducible refine br_ef (by assumption) ?_; conv => whnf)
      | ((with_reducible refine br_dec (fun h => ?_) (fun h => ?_)) <;> first | (exfalso; omega) | conv => whnf)
      | ((with_reducible refine br_ndec (fun h => ?_) (fun h => ?_)) <;> first | (exfalso; omega) | conv => whnf)
      | ((with_reducible refine br_ne (fun h => ?_) (fun h => ?_)) <;> first | (exfalso; omega) | conv => whnf)
      | ((with_reducible refine br_eq (fun h => ?_) (fun h => ?_)) <;> first | (exfalso; omega) | conv => whnf)
      | (refine br_intro (fun h => ?_) (fun h => ?_) <;> conv => whnf)
      | (refine need_in (by first | exact trivial | assumption | exact ⟨rfl, Nat.le_refl _⟩ | (simp only [inR]; omega) | omega | (simp only [roomP, true_and, and_true, List.length_take, List.length_drop, List.length_append, List.length_cons, List.length_nil, List.length_set, List.length_replicate]; omega) | (refine ⟨by first | exact trivial | rfl, by first | exact Nat.le_refl _ | omega, ?_⟩; change roomP _ _ 1; simp only [roomP]; omega) | (change roomP _ _ 1; simp only [roomP]; omega) | (simp; omega) | (simp; done)) ?_; conv => whnf)
      | (refine idx_nat (by omega) (fun x hx => ?_); conv => whnf)
      | (refine idx_intro (by omega) (by omega) (fun x hx => ?_); conv => whnf)
    · refine congrArg AV.bool (same_len ?_).symm
      omega
    · refine loop_inv [] [5] (fun vs h => ∃ i : Nat, vs = [.int .i64 (i : Int)] ∧ h = [] ∧ i ≤ a.length ∧ sameL entT a b = sameL entT (a.drop i) (b.drop i)) (fun vs _ => match vs with | [.int _ k] => a.length - k.toNat | _ => 0) ?_
      refine ⟨⟨0, rfl, rfl, Nat.zero_le _, rfl⟩, ?_⟩
      rintro vs h' - ⟨i, rfl, rfl, hi, hs⟩
      conv => whnf
      repeat' first
        | (refine br_true (by first | with_reducible exact rfl | assumption | decide) ?_; conv => whnf)
        | (refine br_false (by first | with_reducible exact rfl | assumption | decide) ?_; conv => whnf)
        | (with_reducible refine br_kt (by assumption) ?_; conv => whnf)
        | (with_reducible refine br_kf (by assumption) ?_; conv => whnf)
        | (with_reducible refine br_nt (by assumption) ?_; conv => whnf)
        | (with_reducible refine br_nf (by assumption) ?_; conv => whnf)
        | (with_reducible refine br_et (by assumption) ?_; conv => whnf)
        | (with_reducible refine br_ef (by assumption) ?_; conv => whnf)
        | ((with_reducible refine br_dec (fun h => ?_) (fun h => ?_)) <;> first | (exfalso; omega) | conv => whnf)
        | ((with_reducible refine br_ndec (fun h => ?_) (fun h => ?_)) <;> first | (exfalso; omega) | conv => whnf)
        | ((with_reducible refine br_ne (fun h => ?_) (fun h => ?_)) <;> first | (exfalso; omega) | conv => whnf)
        | ((with_reducible refine br_eq (fun h => ?_) (fun h => ?_)) <;> first | (exfalso; omega) | conv => whnf)
        | (refine br_intro (fun h => ?_) (fun h => ?_) <;> conv => whnf)
        | (refine need_in (by first | exact trivial | assumption | exact ⟨rfl, Nat.le_refl _⟩ | (simp only [inR]; omega) | omega | (simp only [roomP, true_and, and_true, List.length_take, List.length_drop, List.length_append, List.length_cons, List.length_nil, List.length_set, List.length_replicate]; omega) | (refine ⟨by first | exact trivial | rfl, by first | exact Nat.le_refl _ | omega, ?_⟩; change roomP _ _ 1; simp only [roomP]; omega) | (change roomP _ _ 1; simp only [roomP]; omega) | (simp; omega) | (simp; done)) ?_; conv => whnf)
        | (refine idx_nat (by omega) (fun x hx => ?_); conv => whnf)
        | (refine idx_intro (by omega) (by omega) (fun x hx => ?_); conv => whnf)
      · rename_i y hy
        rw [hs, same_step hy hx, show eqT entT y x = false from bnt h]
        rfl
      · rename_i y hy
        rw [same_step hy hx, show eqT entT y x = true from bnf h] at hs
        refine back_intro (by conv => whnf) rfl ⟨i + 1, rfl, rfl, by omega, hs⟩ ?_
        show a.length - ((i : Int) + 1).toNat < a.length - (i : Int).toNat
        omega
      · rw [hs, same_end (by omega) (by omega)]
  · cases h
end Go.Proofs.Ytmegjnanieafbaa
