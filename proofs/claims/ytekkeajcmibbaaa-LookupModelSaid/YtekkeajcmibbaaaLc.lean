/-
  Ascending lists of entries: their first fault, by both.
  Checks of runs and of views.
  Keys, ranges; the error of a view and a key.
-/
import Derived.Test.YtekkeajcmibbaaaE2
import Derived.Test.YtekkeajcmibbaaaE4
import Derived.Test.YtekkeajcmibbaaaE5
import Derived.Test.YtekkeajcmibbaaaGP
namespace Go.Proofs.Ytekkeajcmibbaaa
open Av Bk

def spCL : DSpec
  | [.lst (.st [.str, .str, .bool, .int .i64]) l] => some (True, .tup [.int .i64 (clL l).1, .int .i64 (clL l).2])
  | _ => none
set_option maxRecDepth 100000 in
theorem fnOk_entsCL : FnOk Try.prog 74 Try.f74 := ⟨by rfl, by kernel_rfl, by
  show okCode _ _ = true ∧ drawsOk _ = true
  exact ⟨by kernel_rfl, by kernel_rfl⟩⟩
noncomputable def cx20 : Cx := ⟨tb, [], [(93, spCheck)]⟩
theorem specs20 : SpecsOk Try.prog cx20.specs := .cons entCheck_ok .nil
set_option maxRecDepth 100000 in
set_option maxHeartbeats 2000000 in
theorem entsCL_ok : SpecOk Try.prog 74 spCL := by
  refine spec_body (C := cx20) mixed tbOk specs20 (callN_ok (C := cx20) mixed tbOk specs20 FnsOk.nil 0) fnOk_entsCL ?_
  intro ys p r h hp
  unfold spCL at h
  split at h
  · rename_i l
    cases h
    conv => whnf
    repeat' first
      | ((first | refine br_true (by first | with_reducible exact rfl | assumption | decide) ?_ | refine br_false (by first | with_reducible exact rfl | assumption | decide) ?_ | with_reducible first | refine br_kt (by assumption) ?_ | refine br_kf (by assumption) ?_ | refine br_nt (by assumption) ?_ | refine br_nf (by assumption) ?_ | refine br_et (by assumption) ?_ | refine br_ef (by assumption) ?_); conv => whnf)
      | ((with_reducible first | refine br_dec (fun h => ?_) (fun h => ?_) | refine br_ndec (fun h => ?_) (fun h => ?_) | refine br_ne (fun h => ?_) (fun h => ?_) | refine br_eq (fun h => ?_) (fun h => ?_)) <;> first | (exfalso; omega) | conv => whnf)
      | (refine br_intro (fun h => ?_) (fun h => ?_) <;> conv => whnf)
      | ((first | refine need_in (by first | exact trivial | assumption | exact ⟨rfl, Nat.le_refl _⟩ | exact ⟨rfl, rfl⟩ | (simp only [inR]; omega) | omega | (simp only [roomP, true_and, and_true, List.length_take, List.length_drop, List.length_append, List.length_cons, List.length_nil, List.length_set, List.length_replicate]; omega) | (refine ⟨by first | exact trivial | rfl, by first | exact Nat.le_refl _ | omega | (simp; omega), ?_⟩; change roomP _ _ 1; simp only [roomP]; omega) | (change roomP _ _ 1; simp only [roomP]; omega) | (simp; omega) | (simp [inR]; omega) | (simp [inR]; done) | decide | (simp; done)) ?_ | refine idx_nat (by omega) (fun x hx => ?_) | refine frz_auto ?_ | refine draw_plain ?_ | refine idx_intro (by first | omega | (simp; omega) | (simp; done)) (by first | omega | (simp; omega) | (simp; done)) (fun x hx => ?_)); conv => whnf)
    · rw [clL, if_pos (by omega)]
    · refine loop_inv [] [12] (fun vs h => ∃ i : Nat, vs = [.int .i64 (i : Int)] ∧ h = [] ∧ i ≤ l.length ∧ clL l = clGo (pvAt l i) (i : Int) (l.drop i)) (fun vs _ => match vs with | [.int _ k] => l.length - k.toNat | _ => 0) ?_
      refine ⟨⟨0, rfl, rfl, by omega, by rw [clL, if_neg (by omega)]; rfl⟩, ?_⟩
      rintro vs h' - ⟨i, rfl, rfl, hi, hc⟩
      conv => whnf
      repeat' first
        | ((first | refine br_true (by first | with_reducible exact rfl | assumption | decide) ?_ | refine br_false (by first | with_reducible exact rfl | assumption | decide) ?_ | with_reducible first | refine br_kt (by assumption) ?_ | refine br_kf (by assumption) ?_ | refine br_nt (by assumption) ?_ | refine br_nf (by assumption) ?_ | refine br_et (by assumption) ?_ | refine br_ef (by assumption) ?_); conv => whnf)
        | ((with_reducible first | refine br_dec (fun h => ?_) (fun h => ?_) | refine br_ndec (fun h => ?_) (fun h => ?_) | refine br_ne (fun h => ?_) (fun h => ?_) | refine br_eq (fun h => ?_) (fun h => ?_)) <;> first | (exfalso; omega) | conv => whnf)
        | (refine br_intro (fun h => ?_) (fun h => ?_) <;> conv => whnf)
        | ((first | refine need_in (by first | exact trivial | assumption | exact ⟨rfl, Nat.le_refl _⟩ | exact ⟨rfl, rfl⟩ | (simp only [inR]; omega) | omega | (simp only [roomP, true_and, and_true, List.length_take, List.length_drop, List.length_append, List.length_cons, List.length_nil, List.length_set, List.length_replicate]; omega) | (refine ⟨by first | exact trivial | rfl, by first | exact Nat.le_refl _ | omega | (simp; omega), ?_⟩; change roomP _ _ 1; simp only [roomP]; omega) | (change roomP _ _ 1; simp only [roomP]; omega) | (simp; omega) | (simp [inR]; omega) | (simp [inR]; done) | decide | (simp; done)) ?_ | refine idx_nat (by omega) (fun x hx => ?_) | refine frz_auto ?_ | refine draw_plain ?_ | refine idx_intro (by first | omega | (simp; omega) | (simp; done)) (by first | omega | (simp; omega) | (simp; done)) (fun x hx => ?_)); conv => whnf)
      · rw [clL_err hc hx h]; rfl
      · rename_i y hy _ _
        rw [show ((i : Int) - 1).toNat = i - 1 by omega] at hx
        rw [clL_form hc hy (by assumption) (by omega) hx (bnt h)]
      · rename_i y hy _ _
        rw [show ((i : Int) - 1).toNat = i - 1 by omega] at hx
        refine back_intro (by conv => whnf) rfl ⟨i + 1, rfl, rfl, by omega, clL_next hc hy (by assumption) (.inr ⟨x, hx, bnf h⟩)⟩ ?_
        show l.length - ((i : Int) + 1).toNat < l.length - (i : Int).toNat
        omega
      · refine back_intro (by conv => whnf) rfl ⟨i + 1, rfl, rfl, by omega, clL_next hc hx (by assumption) (.inl (by omega))⟩ ?_
        show l.length - ((i : Int) + 1).toNat < l.length - (i : Int).toNat
        omega
      · rw [clL_end (by omega) hc (by omega)]
  · cases h
set_option maxRecDepth 100000 in
theorem fnOk_refCL : FnOk Try.prog 63 Try.f63 := ⟨by rfl, by kernel_rfl, by
  show okCode _ _ = true ∧ drawsOk _ = true
  exact ⟨by kernel_rfl, by kernel_rfl⟩⟩
noncomputable def cx21 : Cx := ⟨tb, [], [(32, spCheck), (60, spOrder)]⟩
theorem specs21 : SpecsOk Try.prog cx21.specs := .cons refCheck_ok (.cons refOrder_ok .nil)
set_option maxRecDepth 100000 in
set_option maxHeartbeats 2000000 in
theorem refCL_ok : SpecOk Try.prog 63 spCL := by
  refine spec_body (C := cx21) mixed tbOk specs21 (callN_ok (C := cx21) mixed tbOk specs21 FnsOk.nil 0) fnOk_refCL ?_
  intro ys p r h hp
  unfold spCL at h
  split at h
  · rename_i l
    cases h
    conv => whnf
    repeat' first
      | ((first | refine br_true (by first | with_reducible exact rfl | assumption | decide) ?_ | refine br_false (by first | with_reducible exact rfl | assumption | decide) ?_ | with_reducible first | refine br_kt (by assumption) ?_ | refine br_kf (by assumption) ?_ | refine br_nt (by assumption) ?_ | refine br_nf (by assumption) ?_ | refine br_et (by assumption) ?_ | refine br_ef (by assumption) ?_); conv => whnf)
      | ((with_reducible first | refine br_dec (fun h => ?_) (fun h => ?_) | refine br_ndec (fun h => ?_) (fun h => ?_) | refine br_ne (fun h => ?_) (fun h => ?_) | refine br_eq (fun h => ?_) (fun h => ?_)) <;> first | (exfalso; omega) | conv => whnf)
      | (refine br_intro (fun h => ?_) (fun h => ?_) <;> conv => whnf)
      | ((first | refine need_in (by first | exact trivial | assumption | exact ⟨rfl, Nat.le_refl _⟩ | exact ⟨rfl, rfl⟩ | (simp only [inR]; omega) | omega | (simp only [roomP, true_and, and_true, List.length_take, List.length_drop, List.length_append, List.length_cons, List.length_nil, List.length_set, List.length_replicate]; omega) | (refine ⟨by first | exact trivial | rfl, by first | exact Nat.le_refl _ | omega | (simp; omega), ?_⟩; change roomP _ _ 1; simp only [roomP]; omega) | (change roomP _ _ 1; simp only [roomP]; omega) | (simp; omega) | (simp [inR]; omega) | (simp [inR]; done) | decide | (simp; done)) ?_ | refine idx_nat (by omega) (fun x hx => ?_) | refine frz_auto ?_ | refine draw_plain ?_ | refine idx_intro (by first | omega | (simp; omega) | (simp; done)) (by first | omega | (simp; omega) | (simp; done)) (fun x hx => ?_)); conv => whnf)
    · rw [clL, if_pos (by omega)]
    · refine loop_inv [] [4] (fun vs h => ∃ i : Nat, vs = [.int .i64 (i : Int)] ∧ h = [] ∧ i ≤ l.length ∧ clL l = clGo (pvAt l i) (i : Int) (l.drop i) ∧ ∀ y ∈ l.take i, errX y = 0) (fun vs _ => match vs with | [.int _ k] => l.length - k.toNat | _ => 0) ?_
      refine ⟨⟨0, rfl, rfl, by omega, by rw [clL, if_neg (by omega)]; rfl, by simp⟩, ?_⟩
      rintro vs h' - ⟨i, rfl, rfl, hi, hc, hall⟩
      conv => whnf
      repeat' first
        | ((first | refine br_true (by first | with_reducible exact rfl | assumption | decide) ?_ | refine br_false (by first | with_reducible exact rfl | assumption | decide) ?_ | with_reducible first | refine br_kt (by assumption) ?_ | refine br_kf (by assumption) ?_ | refine br_nt (by assumption) ?_ | refine br_nf (by assumption) ?_ | refine br_et (by assumption) ?_ | refine br_ef (by assumption) ?_); conv => whnf)
        | ((with_reducible first | refine br_dec (fun h => ?_) (fun h => ?_) | refine br_ndec (fun h => ?_) (fun h => ?_) | refine br_ne (fun h => ?_) (fun h => ?_) | refine br_eq (fun h => ?_) (fun h => ?_)) <;> first | (exfalso; omega) | conv => whnf)
        | (refine br_intro (fun h => ?_) (fun h => ?_) <;> conv => whnf)
        | ((first | refine need_in (by first | exact trivial | assumption | exact ⟨rfl, Nat.le_refl _⟩ | exact ⟨rfl, rfl⟩ | (simp only [inR]; omega) | omega | (simp only [roomP, true_and, and_true, List.length_take, List.length_drop, List.length_append, List.length_cons, List.length_nil, List.length_set, List.length_replicate]; omega) | (refine ⟨by first | exact trivial | rfl, by first | exact Nat.le_refl _ | omega | (simp; omega), ?_⟩; change roomP _ _ 1; simp only [roomP]; omega) | (change roomP _ _ 1; simp only [roomP]; omega) | (simp; omega) | (simp [inR]; omega) | (simp [inR]; done) | decide | (simp; done)) ?_ | refine idx_nat (by omega) (fun x hx => ?_) | refine frz_auto ?_ | refine draw_plain ?_ | refine idx_intro (by first | omega | (simp; omega) | (simp; done)) (by first | omega | (simp; omega) | (simp; done)) (fun x hx => ?_)); conv => whnf)
      · rename_i x1 hx1 he h0 y hy
        rw [show ((i : Int) - 1).toNat = i - 1 by omega] at hy
        refine need_in (errX_key (hall y (List.mem_iff_getElem?.2 ⟨i - 1, by rw [List.getElem?_take, if_pos (by omega)]; exact hy⟩))) ?_
        conv => whnf
        repeat' first
          | ((first | refine br_true (by first | with_reducible exact rfl | assumption | decide) ?_ | refine br_false (by first | with_reducible exact rfl | assumption | decide) ?_ | with_reducible first | refine br_kt (by assumption) ?_ | refine br_kf (by assumption) ?_ | refine br_nt (by assumption) ?_ | refine br_nf (by assumption) ?_ | refine br_et (by assumption) ?_ | refine br_ef (by assumption) ?_); conv => whnf)
          | ((with_reducible first | refine br_dec (fun h => ?_) (fun h => ?_) | refine br_ndec (fun h => ?_) (fun h => ?_) | refine br_ne (fun h => ?_) (fun h => ?_) | refine br_eq (fun h => ?_) (fun h => ?_)) <;> first | (exfalso; omega) | conv => whnf)
          | (refine br_intro (fun h => ?_) (fun h => ?_) <;> conv => whnf)
          | ((first | refine need_in (by first | exact trivial | assumption | exact ⟨rfl, Nat.le_refl _⟩ | exact ⟨rfl, rfl⟩ | (simp only [inR]; omega) | omega | (simp only [roomP, true_and, and_true, List.length_take, List.length_drop, List.length_append, List.length_cons, List.length_nil, List.length_set, List.length_replicate]; omega) | (refine ⟨by first | exact trivial | rfl, by first | exact Nat.le_refl _ | omega | (simp; omega), ?_⟩; change roomP _ _ 1; simp only [roomP]; omega) | (change roomP _ _ 1; simp only [roomP]; omega) | (simp; omega) | (simp [inR]; omega) | (simp [inR]; done) | decide | (simp; done)) ?_ | refine idx_nat (by omega) (fun x hx => ?_) | refine frz_auto ?_ | refine draw_plain ?_ | refine idx_intro (by first | omega | (simp; omega) | (simp; done)) (by first | omega | (simp; omega) | (simp; done)) (fun x hx => ?_)); conv => whnf)
        · obtain rfl : hx1 = x := Option.some.inj (he.symm.trans hx)
          rw [clL_form hc hx h0 (by omega) hy (ordL_ge.1 h)]
        · obtain rfl : hx1 = x := Option.some.inj (he.symm.trans hx)
          refine back_intro (by conv => whnf) rfl ⟨i + 1, rfl, rfl, by omega, clL_next hc hx h0 (.inr ⟨y, hy, ?_⟩), take_succ_all hall hx h0⟩ ?_
          · cases hl : sLt y.1 hx1.1 with
            | true => rfl
            | false => exact absurd (ordL_ge.2 hl) h
          · show l.length - ((i : Int) + 1).toNat < l.length - (i : Int).toNat
            omega
      · refine back_intro (by conv => whnf) rfl ⟨i + 1, rfl, rfl, by omega, clL_next hc hx (by assumption) (.inl (by omega)), take_succ_all hall hx (by assumption)⟩ ?_
        show l.length - ((i : Int) + 1).toNat < l.length - (i : Int).toNat
        omega
      · rw [clL_err hc hx h]; rfl
      · rw [clL_end (by omega) hc (by omega)]
  · cases h
theorem clL_len {l : List entT.El} (h : (clL l).2 = 0) : l.length ≤ 5000 := by
  unfold clL at h
  split at h
  · cases h
  · omega
end Go.Proofs.Ytekkeajcmibbaaa
namespace Go.Proofs.Ytekkeajcmibbaaa
open Av Bk

abbrev runT : Ty := .st [.int .i64, .sl entT]
def rcL (x : runT.El) : Int × Int := if x.1 < 1 ∨ 1000000 < x.1 then (-1, 7) else clL x.2.1
def spRC : DSpec
  | [.agg [.int .i64 id, .lst (.st [.str, .str, .bool, .int .i64]) l]] => some (True, .tup [.int .i64 (rcL (id, l, ())).1, .int .i64 (rcL (id, l, ())).2])
  | _ => none
set_option maxRecDepth 100000 in
theorem fnOk_runsC : FnOk Try.prog 75 Try.f75 := ⟨by rfl, by kernel_rfl, by
  show okCode _ _ = true ∧ drawsOk _ = true
  exact ⟨by kernel_rfl, by kernel_rfl⟩⟩
set_option maxRecDepth 100000 in
theorem fnOk_ref08C : FnOk Try.prog 64 Try.f64 := ⟨by rfl, by kernel_rfl, by
  show okCode _ _ = true ∧ drawsOk _ = true
  exact ⟨by kernel_rfl, by kernel_rfl⟩⟩
noncomputable def cxb1 : Cx := ⟨tb, [], [(74, spCL)]⟩
theorem specsb1 : SpecsOk Try.prog cxb1.specs := .cons entsCL_ok .nil
noncomputable def cxb2 : Cx := ⟨tb, [], [(63, spCL)]⟩
theorem specsb2 : SpecsOk Try.prog cxb2.specs := .cons refCL_ok .nil
set_option maxRecDepth 100000 in
theorem runsC_ok : SpecOk Try.prog 75 spRC := by
  refine spec_body (C := cxb1) mixed tbOk specsb1 (callN_ok (C := cxb1) mixed tbOk specsb1 FnsOk.nil 0) fnOk_runsC ?_
  intro ys p r h hp
  unfold spRC at h
  split at h
  · rename_i id l
    cases h
    conv => whnf
    repeat' first
      | ((first | refine br_true (by first | with_reducible exact rfl | assumption | decide) ?_ | refine br_false (by first | with_reducible exact rfl | assumption | decide) ?_ | with_reducible first | refine br_kt (by assumption) ?_ | refine br_kf (by assumption) ?_ | refine br_nt (by assumption) ?_ | refine br_nf (by assumption) ?_ | refine br_et (by assumption) ?_ | refine br_ef (by assumption) ?_); conv => whnf)
      | ((with_reducible first | refine br_dec (fun h => ?_) (fun h => ?_) | refine br_ndec (fun h => ?_) (fun h => ?_) | refine br_ne (fun h => ?_) (fun h => ?_) | refine br_eq (fun h => ?_) (fun h => ?_)) <;> first | (exfalso; omega) | conv => whnf)
      | (refine br_intro (fun h => ?_) (fun h => ?_) <;> conv => whnf)
      | ((first | refine need_in (by first | exact trivial | assumption | exact ⟨rfl, Nat.le_refl _⟩ | exact ⟨rfl, rfl⟩ | (simp only [inR]; omega) | omega | (simp only [roomP, true_and, and_true, List.length_take, List.length_drop, List.length_append, List.length_cons, List.length_nil, List.length_set, List.length_replicate]; omega) | (refine ⟨by first | exact trivial | rfl, by first | exact Nat.le_refl _ | omega | (simp; omega), ?_⟩; change roomP _ _ 1; simp only [roomP]; omega) | (change roomP _ _ 1; simp only [roomP]; omega) | (simp; omega) | (simp [inR]; omega) | (simp [inR]; done) | decide | (simp; done)) ?_ | refine idx_nat (by omega) (fun x hx => ?_) | refine frz_auto ?_ | refine draw_plain ?_ | refine idx_intro (by first | omega | (simp; omega) | (simp; done)) (by first | omega | (simp; omega) | (simp; done)) (fun x hx => ?_)); conv => whnf)
    all_goals simp [rcL, *]
  · cases h
set_option maxRecDepth 100000 in
theorem ref08C_ok : SpecOk Try.prog 64 spRC := by
  refine spec_body (C := cxb2) mixed tbOk specsb2 (callN_ok (C := cxb2) mixed tbOk specsb2 FnsOk.nil 0) fnOk_ref08C ?_
  intro ys p r h hp
  unfold spRC at h
  split at h
  · rename_i id l
    cases h
    conv => whnf
    repeat' first
      | ((first | refine br_true (by first | with_reducible exact rfl | assumption | decide) ?_ | refine br_false (by first | with_reducible exact rfl | assumption | decide) ?_ | with_reducible first | refine br_kt (by assumption) ?_ | refine br_kf (by assumption) ?_ | refine br_nt (by assumption) ?_ | refine br_nf (by assumption) ?_ | refine br_et (by assumption) ?_ | refine br_ef (by assumption) ?_); conv => whnf)
      | ((with_reducible first | refine br_dec (fun h => ?_) (fun h => ?_) | refine br_ndec (fun h => ?_) (fun h => ?_) | refine br_ne (fun h => ?_) (fun h => ?_) | refine br_eq (fun h => ?_) (fun h => ?_)) <;> first | (exfalso; omega) | conv => whnf)
      | (refine br_intro (fun h => ?_) (fun h => ?_) <;> conv => whnf)
      | ((first | refine need_in (by first | exact trivial | assumption | exact ⟨rfl, Nat.le_refl _⟩ | exact ⟨rfl, rfl⟩ | (simp only [inR]; omega) | omega | (simp only [roomP, true_and, and_true, List.length_take, List.length_drop, List.length_append, List.length_cons, List.length_nil, List.length_set, List.length_replicate]; omega) | (refine ⟨by first | exact trivial | rfl, by first | exact Nat.le_refl _ | omega | (simp; omega), ?_⟩; change roomP _ _ 1; simp only [roomP]; omega) | (change roomP _ _ 1; simp only [roomP]; omega) | (simp; omega) | (simp [inR]; omega) | (simp [inR]; done) | decide | (simp; done)) ?_ | refine idx_nat (by omega) (fun x hx => ?_) | refine frz_auto ?_ | refine draw_plain ?_ | refine idx_intro (by first | omega | (simp; omega) | (simp; done)) (by first | omega | (simp; omega) | (simp; done)) (fun x hx => ?_)); conv => whnf)
    all_goals simp [rcL, *]
  · cases h

/-- The first fault of the runs of a view. -/
def vcGo (pre : List runT.El) : List runT.El → Int × Int
  | [] => (0, 0)
  | x :: l => if (rcL x).2 ≠ 0 then (pre.length, (rcL x).2) else if pre.any (fun y => y.1 == x.1) then (pre.length, 8) else vcGo (pre ++ [x]) l
def vcL (b : List entT.El) (rs : List runT.El) : Int × Int :=
  if 16 < b.length then (-1, 3) else if (clL b).2 ≠ 0 then (-1, (clL b).2) else if 24 < rs.length then (-1, 3) else vcGo [] rs
theorem vc_step {rs : List runT.El} {i : Nat} {x : runT.El} (hx : rs[i]? = some x) : vcGo (rs.take i) (rs.drop i) = if (rcL x).2 ≠ 0 then ((i : Int), (rcL x).2) else if (rs.take i).any (fun y => y.1 == x.1) then ((i : Int), 8) else vcGo (rs.take (i + 1)) (rs.drop (i + 1)) := by
  have hi := (List.getElem?_eq_some_iff.1 hx).1
  have he := (List.getElem?_eq_some_iff.1 hx).2
  rw [List.drop_eq_getElem_cons hi, he, vcGo, List.take_add_one, hx, List.length_take, Nat.min_eq_left (by omega)]
  rfl
theorem vc_end {rs : List runT.El} {i : Nat} (h : rs.length ≤ i) : vcGo (rs.take i) (rs.drop i) = (0, 0) := by
  rw [List.drop_eq_nil_of_le h]; rfl
theorem any_no {rs : List runT.El} {id : Int} (h : ∀ y ∈ rs, y.1 ≠ id) : rs.any (fun y => y.1 == id) = false := by
  rw [List.any_eq_false]
  intro y hy
  have := h y hy
  simpa using this
theorem any_yes {rs : List runT.El} {i j : Nat} {y : runT.El} {id : Int} (hj : j < i) (hy : rs[j]? = some y) (he : y.1 = id) : (rs.take i).any (fun y => y.1 == id) = true := by
  rw [List.any_eq_true]
  refine ⟨y, List.mem_iff_getElem?.2 ⟨j, by rw [List.getElem?_take, if_pos hj]; exact hy⟩, by simpa using he⟩
def spVC : DSpec
  | [.agg [.lst (.st [.str, .str, .bool, .int .i64]) b, .lst (.st [.int .i64, .sl (.st [.str, .str, .bool, .int .i64])]) rs]] => some (True, .tup [.int .i64 (vcL b rs).1, .int .i64 (vcL b rs).2])
  | _ => none
set_option maxRecDepth 100000 in
theorem fnOk_verC : FnOk Try.prog 47 Try.f47 := ⟨by rfl, by kernel_rfl, by
  show okCode _ _ = true ∧ drawsOk _ = true
  exact ⟨by kernel_rfl, by kernel_rfl⟩⟩
set_option maxRecDepth 100000 in
theorem fnOk_verC1 : FnOk Try.prog 77 Try.f77 := ⟨by rfl, by kernel_rfl, by
  show okCode _ _ = true ∧ drawsOk _ = true
  exact ⟨by kernel_rfl, by kernel_rfl⟩⟩
set_option maxRecDepth 100000 in
theorem fnOk_contRun : FnOk Try.prog 76 Try.f76 := ⟨by rfl, by kernel_rfl, by
  show okCode _ _ = true ∧ drawsOk _ = true
  exact ⟨by kernel_rfl, by kernel_rfl⟩⟩
set_option maxRecDepth 100000 in
theorem fnOk_idxRun : FnOk Try.prog 94 Try.f94 := ⟨by rfl, by kernel_rfl, by
  show okCode _ _ = true ∧ drawsOk _ = true
  exact ⟨by kernel_rfl, by kernel_rfl⟩⟩
set_option maxRecDepth 100000 in
theorem fnOk_ref25C : FnOk Try.prog 31 Try.f31 := ⟨by rfl, by kernel_rfl, by
  show okCode _ _ = true ∧ drawsOk _ = true
  exact ⟨by kernel_rfl, by kernel_rfl⟩⟩
noncomputable def cxb3 : Cx := ⟨tb, [(77, Try.f77), (76, Try.f76), (94, Try.f94)], [(74, spCL), (75, spRC)]⟩
theorem specsb3 : SpecsOk Try.prog cxb3.specs := .cons entsCL_ok (.cons runsC_ok .nil)
theorem fnsb3 : FnsOk Try.prog cxb3.fns := .cons fnOk_verC1 (.cons fnOk_contRun (.cons fnOk_idxRun .nil))
set_option pp.maxSteps 100000 in
set_option pp.deepTerms true in
set_option maxRecDepth 100000 in
theorem verC_ok : SpecOk Try.prog 47 spVC := by
  refine spec_body (C := cxb3) mixed tbOk specsb3 (callN_ok (C := cxb3) mixed tbOk specsb3 fnsb3 4) fnOk_verC ?_
  intro ys p r h hp
  unfold spVC at h
  split at h
  · rename_i b rs
    cases h
    conv => whnf
    repeat' first
      | ((first | refine br_true (by first | with_reducible exact rfl | assumption | decide) ?_ | refine br_false (by first | with_reducible exact rfl | assumption | decide) ?_ | with_reducible first | refine br_kt (by assumption) ?_ | refine br_kf (by assumption) ?_ | refine br_nt (by assumption) ?_ | refine br_nf (by assumption) ?_ | refine br_et (by assumption) ?_ | refine br_ef (by assumption) ?_); conv => whnf)
      | ((with_reducible first | refine br_dec (fun h => ?_) (fun h => ?_) | refine br_ndec (fun h => ?_) (fun h => ?_) | refine br_ne (fun h => ?_) (fun h => ?_) | refine br_eq (fun h => ?_) (fun h => ?_)) <;> first | (exfalso; omega) | conv => whnf)
      | (refine br_intro (fun h => ?_) (fun h => ?_) <;> conv => whnf)
      | ((first | refine need_in (by first | exact trivial | assumption | exact ⟨rfl, Nat.le_refl _⟩ | exact ⟨rfl, rfl⟩ | (simp only [inR]; omega) | omega | (simp only [roomP, true_and, and_true, List.length_take, List.length_drop, List.length_append, List.length_cons, List.length_nil, List.length_set, List.length_replicate]; omega) | (refine ⟨by first | exact trivial | rfl, by first | exact Nat.le_refl _ | omega | (simp; omega), ?_⟩; change roomP _ _ 1; simp only [roomP]; omega) | (change roomP _ _ 1; simp only [roomP]; omega) | (simp; omega) | (simp [inR]; omega) | (simp [inR]; done) | decide | (simp; done)) ?_ | refine idx_nat (by omega) (fun x hx => ?_) | refine frz_auto ?_ | refine draw_plain ?_ | refine idx_intro (by first | omega | (simp; omega) | (simp; done)) (by first | omega | (simp; omega) | (simp; done)) (fun x hx => ?_)); conv => whnf)
    · rw [vcL, if_pos (by omega)]
    · rw [vcL, if_neg (by omega), if_pos (by assumption)]
    · rw [vcL, if_neg (by omega), if_neg (fun e => e (by assumption)), if_pos (by omega)]
    · refine loop_inv [] [30] (fun vs h => ∃ i : Nat, vs = [.int .i64 (i : Int)] ∧ h = [.cells 25 [.lst entT b, .lst runT rs]] ∧ i ≤ rs.length ∧ vcGo [] rs = vcGo (rs.take i) (rs.drop i)) (fun vs _ => match vs with | [.int _ k] => rs.length - k.toNat | _ => 0) ?_
      refine ⟨⟨0, rfl, rfl, by omega, rfl⟩, ?_⟩
      rintro vs h' - ⟨i, rfl, rfl, hi, hc⟩
      conv => whnf
      repeat' first
        | ((first | refine br_true (by first | with_reducible exact rfl | assumption | decide) ?_ | refine br_false (by first | with_reducible exact rfl | assumption | decide) ?_ | with_reducible first | refine br_kt (by assumption) ?_ | refine br_kf (by assumption) ?_ | refine br_nt (by assumption) ?_ | refine br_nf (by assumption) ?_ | refine br_et (by assumption) ?_ | refine br_ef (by assumption) ?_); conv => whnf)
        | ((with_reducible first | refine br_dec (fun h => ?_) (fun h => ?_) | refine br_ndec (fun h => ?_) (fun h => ?_) | refine br_ne (fun h => ?_) (fun h => ?_) | refine br_eq (fun h => ?_) (fun h => ?_)) <;> first | (exfalso; omega) | conv => whnf)
        | (refine br_intro (fun h => ?_) (fun h => ?_) <;> conv => whnf)
        | ((first | refine need_in (by first | exact trivial | assumption | exact ⟨rfl, Nat.le_refl _⟩ | exact ⟨rfl, rfl⟩ | (simp only [inR]; omega) | omega | (simp only [roomP, true_and, and_true, List.length_take, List.length_drop, List.length_append, List.length_cons, List.length_nil, List.length_set, List.length_replicate]; omega) | (refine ⟨by first | exact trivial | rfl, by first | exact Nat.le_refl _ | omega | (simp; omega), ?_⟩; change roomP _ _ 1; simp only [roomP]; omega) | (change roomP _ _ 1; simp only [roomP]; omega) | (simp; omega) | (simp [inR]; omega) | (simp [inR]; done) | decide | (simp; done)) ?_ | refine idx_nat (by omega) (fun x hx => ?_) | refine frz_auto ?_ | refine draw_plain ?_ | refine idx_intro (by first | omega | (simp; omega) | (simp; done)) (by first | omega | (simp; omega) | (simp; done)) (fun x hx => ?_)); conv => whnf)
      · rw [vcL, if_neg (by omega), if_neg (fun e => e (by assumption)), if_neg (by omega), hc, vc_step hx, if_pos h]
      · refine loop_inv [] [8] (fun vs h => ∃ j : Nat, vs = [.int .i64 (j : Int)] ∧ h = [.cells 25 [.lst entT b, .lst runT rs], .cells 62 [.int .i64 x.1, .lst entT x.2.1]] ∧ j ≤ i ∧ ∀ y ∈ rs.take j, y.1 ≠ x.1) (fun vs _ => match vs with | [.int _ k] => rs.length - k.toNat | _ => 0) ?_
        refine ⟨⟨0, rfl, rfl, by omega, by simp⟩, ?_⟩
        rintro vs h' - ⟨j, rfl, rfl, hj, hall⟩
        conv => whnf
        repeat' first
          | ((first | refine br_true (by first | with_reducible exact rfl | assumption | decide) ?_ | refine br_false (by first | with_reducible exact rfl | assumption | decide) ?_ | with_reducible first | refine br_kt (by assumption) ?_ | refine br_kf (by assumption) ?_ | refine br_nt (by assumption) ?_ | refine br_nf (by assumption) ?_ | refine br_et (by assumption) ?_ | refine br_ef (by assumption) ?_); conv => whnf)
          | ((with_reducible first | refine br_dec (fun h => ?_) (fun h => ?_) | refine br_ndec (fun h => ?_) (fun h => ?_) | refine br_ne (fun h => ?_) (fun h => ?_) | refine br_eq (fun h => ?_) (fun h => ?_)) <;> first | (exfalso; omega) | conv => whnf)
          | (refine br_intro (fun h => ?_) (fun h => ?_) <;> conv => whnf)
          | ((first | refine need_in (by first | exact trivial | assumption | exact ⟨rfl, Nat.le_refl _⟩ | exact ⟨rfl, rfl⟩ | (simp only [inR]; omega) | omega | (simp only [roomP, true_and, and_true, List.length_take, List.length_drop, List.length_append, List.length_cons, List.length_nil, List.length_set, List.length_replicate]; omega) | (refine ⟨by first | exact trivial | rfl, by first | exact Nat.le_refl _ | omega | (simp; omega), ?_⟩; change roomP _ _ 1; simp only [roomP]; omega) | (change roomP _ _ 1; simp only [roomP]; omega) | (simp; omega) | (simp [inR]; omega) | (simp [inR]; done) | decide | (simp; done)) ?_ | refine idx_nat (by omega) (fun x hx => ?_) | refine frz_auto ?_ | refine draw_plain ?_ | refine idx_intro (by first | omega | (simp; omega) | (simp; done)) (by first | omega | (simp; omega) | (simp; done)) (fun x hx => ?_)); conv => whnf)
        · rename_i x0 hx0 hr _ he
          have hy : (rs.take i)[j]? = some x := hx
          have hj : j < i := by
            have := (List.getElem?_eq_some_iff.1 hy).1
            rw [List.length_take] at this
            omega
          rw [List.getElem?_take, if_pos hj] at hy
          rw [vcL, if_neg (by omega), if_neg (fun e => e (by assumption)), if_neg (by omega), hc, vc_step hx0, if_neg (fun e => e hr), if_pos (any_yes hj hy he)]
        · have hy : (rs.take i)[j]? = some x := hx
          have hj : j < i := by
            have := (List.getElem?_eq_some_iff.1 hy).1
            rw [List.length_take] at this
            omega
          rw [List.getElem?_take, if_pos hj] at hy
          refine back_intro (by conv => whnf) rfl ⟨j + 1, rfl, rfl, by omega, take_succ_all hall hy h⟩ ?_
          show rs.length - ((j : Int) + 1).toNat < rs.length - (j : Int).toNat
          omega
        · have hl : ¬ (j : Int) < ((rs.take i).length : Int) := h
          rw [List.length_take] at hl
          have hji : j = i := by omega
          subst hji
          rw [vc_step hx, if_neg (fun e => e (by assumption)), if_neg (by rw [any_no hall]; decide)] at hc
          refine back_intro (by conv => whnf) rfl ⟨j + 1, rfl, rfl, by omega, hc⟩ ?_
          show rs.length - ((j : Int) + 1).toNat < rs.length - (j : Int).toNat
          omega
      · rw [vcL, if_neg (by omega), if_neg (fun e => e (by assumption)), if_neg (by omega), hc, vc_end (by omega)]
  · cases h
noncomputable def cxb4 : Cx := ⟨tb, [], [(63, spCL), (64, spRC)]⟩
theorem specsb4 : SpecsOk Try.prog cxb4.specs := .cons refCL_ok (.cons ref08C_ok .nil)
set_option pp.maxSteps 100000 in
set_option pp.deepTerms true in
set_option maxRecDepth 100000 in
theorem ref25C_ok : SpecOk Try.prog 31 spVC := by
  refine spec_body (C := cxb4) mixed tbOk specsb4 (callN_ok (C := cxb4) mixed tbOk specsb4 FnsOk.nil 4) fnOk_ref25C ?_
  intro ys p r h hp
  unfold spVC at h
  split at h
  · rename_i b rs
    cases h
    conv => whnf
    repeat' first
      | ((first | refine br_true (by first | with_reducible exact rfl | assumption | decide) ?_ | refine br_false (by first | with_reducible exact rfl | assumption | decide) ?_ | with_reducible first | refine br_kt (by assumption) ?_ | refine br_kf (by assumption) ?_ | refine br_nt (by assumption) ?_ | refine br_nf (by assumption) ?_ | refine br_et (by assumption) ?_ | refine br_ef (by assumption) ?_); conv => whnf)
      | ((with_reducible first | refine br_dec (fun h => ?_) (fun h => ?_) | refine br_ndec (fun h => ?_) (fun h => ?_) | refine br_ne (fun h => ?_) (fun h => ?_) | refine br_eq (fun h => ?_) (fun h => ?_)) <;> first | (exfalso; omega) | conv => whnf)
      | (refine br_intro (fun h => ?_) (fun h => ?_) <;> conv => whnf)
      | ((first | refine need_in (by first | exact trivial | assumption | exact ⟨rfl, Nat.le_refl _⟩ | exact ⟨rfl, rfl⟩ | (simp only [inR]; omega) | omega | (simp only [roomP, true_and, and_true, List.length_take, List.length_drop, List.length_append, List.length_cons, List.length_nil, List.length_set, List.length_replicate]; omega) | (refine ⟨by first | exact trivial | rfl, by first | exact Nat.le_refl _ | omega | (simp; omega), ?_⟩; change roomP _ _ 1; simp only [roomP]; omega) | (change roomP _ _ 1; simp only [roomP]; omega) | (simp; omega) | (simp [inR]; omega) | (simp [inR]; done) | decide | (simp; done)) ?_ | refine idx_nat (by omega) (fun x hx => ?_) | refine frz_auto ?_ | refine draw_plain ?_ | refine idx_intro (by first | omega | (simp; omega) | (simp; done)) (by first | omega | (simp; omega) | (simp; done)) (fun x hx => ?_)); conv => whnf)
    · rw [vcL, if_pos (by omega)]
    · rw [vcL, if_neg (by omega), if_pos (by assumption)]
    · rw [vcL, if_neg (by omega), if_neg (fun e => e (by assumption)), if_pos (by omega)]
    · refine loop_inv [] [6] (fun vs h => ∃ i : Nat, vs = [.int .i64 (i : Int)] ∧ h = [.cells 25 [.lst entT b, .lst runT rs]] ∧ i ≤ rs.length ∧ vcGo [] rs = vcGo (rs.take i) (rs.drop i)) (fun vs _ => match vs with | [.int _ k] => rs.length - k.toNat | _ => 0) ?_
      refine ⟨⟨0, rfl, rfl, by omega, rfl⟩, ?_⟩
      rintro vs h' - ⟨i, rfl, rfl, hi, hc⟩
      conv => whnf
      repeat' first
        | ((first | refine br_true (by first | with_reducible exact rfl | assumption | decide) ?_ | refine br_false (by first | with_reducible exact rfl | assumption | decide) ?_ | with_reducible first | refine br_kt (by assumption) ?_ | refine br_kf (by assumption) ?_ | refine br_nt (by assumption) ?_ | refine br_nf (by assumption) ?_ | refine br_et (by assumption) ?_ | refine br_ef (by assumption) ?_); conv => whnf)
        | ((with_reducible first | refine br_dec (fun h => ?_) (fun h => ?_) | refine br_ndec (fun h => ?_) (fun h => ?_) | refine br_ne (fun h => ?_) (fun h => ?_) | refine br_eq (fun h => ?_) (fun h => ?_)) <;> first | (exfalso; omega) | conv => whnf)
        | (refine br_intro (fun h => ?_) (fun h => ?_) <;> conv => whnf)
        | ((first | refine need_in (by first | exact trivial | assumption | exact ⟨rfl, Nat.le_refl _⟩ | exact ⟨rfl, rfl⟩ | (simp only [inR]; omega) | omega | (simp only [roomP, true_and, and_true, List.length_take, List.length_drop, List.length_append, List.length_cons, List.length_nil, List.length_set, List.length_replicate]; omega) | (refine ⟨by first | exact trivial | rfl, by first | exact Nat.le_refl _ | omega | (simp; omega), ?_⟩; change roomP _ _ 1; simp only [roomP]; omega) | (change roomP _ _ 1; simp only [roomP]; omega) | (simp; omega) | (simp [inR]; omega) | (simp [inR]; done) | decide | (simp; done)) ?_ | refine idx_nat (by omega) (fun x hx => ?_) | refine frz_auto ?_ | refine draw_plain ?_ | refine idx_intro (by first | omega | (simp; omega) | (simp; done)) (by first | omega | (simp; omega) | (simp; done)) (fun x hx => ?_)); conv => whnf)
      · rw [vcL, if_neg (by omega), if_neg (fun e => e (by assumption)), if_neg (by omega), hc, vc_step hx, if_pos h]
      · refine loop_inv [] [9] (fun vs h => ∃ j : Nat, vs = [.int .i64 (j : Int)] ∧ h = [.cells 25 [.lst entT b, .lst runT rs]] ∧ j ≤ i ∧ ∀ y ∈ rs.take j, y.1 ≠ x.1) (fun vs _ => match vs with | [.int _ k] => rs.length - k.toNat | _ => 0) ?_
        refine ⟨⟨0, rfl, rfl, by omega, by simp⟩, ?_⟩
        rintro vs h' - ⟨j, rfl, rfl, hj, hall⟩
        conv => whnf
        repeat' first
          | ((first | refine idx_kn (by assumption) ?_ | refine idx_ki (by assumption) (by omega) ?_ | refine br_true (by first | with_reducible exact rfl | assumption | decide) ?_ | refine br_false (by first | with_reducible exact rfl | assumption | decide) ?_ | with_reducible first | refine br_kt (by assumption) ?_ | refine br_kf (by assumption) ?_ | refine br_nt (by assumption) ?_ | refine br_nf (by assumption) ?_ | refine br_et (by assumption) ?_ | refine br_ef (by assumption) ?_); conv => whnf)
          | ((with_reducible first | refine br_dec (fun h => ?_) (fun h => ?_) | refine br_ndec (fun h => ?_) (fun h => ?_) | refine br_ne (fun h => ?_) (fun h => ?_) | refine br_eq (fun h => ?_) (fun h => ?_)) <;> first | (exfalso; omega) | conv => whnf)
          | (refine br_intro (fun h => ?_) (fun h => ?_) <;> conv => whnf)
          | ((first | refine need_in (by first | exact trivial | assumption | exact ⟨rfl, Nat.le_refl _⟩ | exact ⟨rfl, rfl⟩ | (simp only [inR]; omega) | omega | (simp only [roomP, true_and, and_true, List.length_take, List.length_drop, List.length_append, List.length_cons, List.length_nil, List.length_set, List.length_replicate]; omega) | (refine ⟨by first | exact trivial | rfl, by first | exact Nat.le_refl _ | omega | (simp; omega), ?_⟩; change roomP _ _ 1; simp only [roomP]; omega) | (change roomP _ _ 1; simp only [roomP]; omega) | (simp; omega) | (simp [inR]; omega) | (simp [inR]; done) | decide | (simp; done)) ?_ | refine idx_nat (by omega) (fun x hx => ?_) | refine frz_auto ?_ | refine draw_plain ?_ | refine idx_intro (by first | omega | (simp; omega) | (simp; done)) (by first | omega | (simp; omega) | (simp; done)) (fun x hx => ?_)); conv => whnf)
        · rename_i x0 hx0 hr _
          rw [vcL, if_neg (by omega), if_neg (fun e => e (by assumption)), if_neg (by omega), hc, vc_step hx0, if_neg (fun e => e hr), if_pos (any_yes (by omega) hx h)]
        · refine back_intro (by conv => whnf) rfl ⟨j + 1, rfl, rfl, by omega, take_succ_all hall hx h⟩ ?_
          show rs.length - ((j : Int) + 1).toNat < rs.length - (j : Int).toNat
          have := (List.getElem?_eq_some_iff.1 hx).1
          omega
        · have hji : j = i := by omega
          subst hji
          rw [vc_step hx, if_neg (fun e => e (by assumption)), if_neg (by rw [any_no hall]; decide)] at hc
          refine back_intro (by conv => whnf) rfl ⟨j + 1, rfl, rfl, by omega, hc⟩ ?_
          show rs.length - ((j : Int) + 1).toNat < rs.length - (j : Int).toNat
          omega
      · rw [vcL, if_neg (by omega), if_neg (fun e => e (by assumption)), if_neg (by omega), hc, vc_end (by omega)]
  · cases h
end Go.Proofs.Ytekkeajcmibbaaa
namespace Go.Proofs.Ytekkeajcmibbaaa
open Av Bk

set_option maxRecDepth 100000 in
theorem fnOk_ref02C : FnOk Try.prog 73 Try.f73 := ⟨by rfl, by kernel_rfl, by
  show okCode _ _ = true ∧ drawsOk _ = true
  exact ⟨by kernel_rfl, by kernel_rfl⟩⟩
set_option maxRecDepth 100000 in
theorem ref02C_ok : SpecOk Try.prog 73 spKey := by
  refine spec_body (C := cx0) mixed tbOk SpecsOk.nil (callN_ok (C := cx0) mixed tbOk SpecsOk.nil FnsOk.nil 0) fnOk_ref02C ?_
  intro ys p r h hp
  unfold spKey at h
  split at h
  · rename_i k
    cases h
    conv => whnf
    repeat' first
      | ((first | refine br_true (by first | with_reducible exact rfl | assumption | decide) ?_ | refine br_false (by first | with_reducible exact rfl | assumption | decide) ?_ | with_reducible first | refine br_kt (by assumption) ?_ | refine br_kf (by assumption) ?_ | refine br_nt (by assumption) ?_ | refine br_nf (by assumption) ?_ | refine br_et (by assumption) ?_ | refine br_ef (by assumption) ?_); conv => whnf)
      | ((with_reducible first | refine br_dec (fun h => ?_) (fun h => ?_) | refine br_ndec (fun h => ?_) (fun h => ?_) | refine br_ne (fun h => ?_) (fun h => ?_) | refine br_eq (fun h => ?_) (fun h => ?_)) <;> first | (exfalso; omega) | conv => whnf)
      | (refine br_intro (fun h => ?_) (fun h => ?_) <;> conv => whnf)
      | ((first | refine need_in (by first | exact trivial | assumption | exact ⟨rfl, Nat.le_refl _⟩ | exact ⟨rfl, rfl⟩ | (simp only [inR]; omega) | omega | (simp only [roomP, true_and, and_true, List.length_take, List.length_drop, List.length_append, List.length_cons, List.length_nil, List.length_set, List.length_replicate]; omega) | (refine ⟨by first | exact trivial | rfl, by first | exact Nat.le_refl _ | omega | (simp; omega), ?_⟩; change roomP _ _ 1; simp only [roomP]; omega) | (change roomP _ _ 1; simp only [roomP]; omega) | (simp; omega) | (simp [inR]; omega) | (simp [inR]; done) | decide | (simp; done)) ?_ | refine idx_nat (by omega) (fun x hx => ?_) | refine frz_auto ?_ | refine draw_plain ?_ | refine idx_intro (by first | omega | (simp; omega) | (simp; done)) (by first | omega | (simp; omega) | (simp; done)) (fun x hx => ?_)); conv => whnf)
    all_goals (refine congrArg (AV.int .i64) ?_; simp [*])
  · cases h
def keyE (k : ByteArray) : Int := bif decide (32 < (k.size : Int)) then 3 else 0
abbrev rgT : Ty := .st [.str, .str, .bool]
def rgE (lo hi : ByteArray) (bd : Bool) : Int := if keyE lo ≠ 0 then keyE lo else if keyE hi ≠ 0 then keyE hi else if bd = false ∧ sEq hi ⟨#[]⟩ = false then 6 else 0
def spRg : DSpec
  | [.agg [.str lo, .str hi, .bool bd]] => some (True, .int .i64 (rgE lo hi bd))
  | _ => none
set_option maxRecDepth 100000 in
theorem fnOk_keysRg : FnOk Try.prog 48 Try.f48 := ⟨by rfl, by kernel_rfl, by
  show okCode _ _ = true ∧ drawsOk _ = true
  exact ⟨by kernel_rfl, by kernel_rfl⟩⟩
set_option maxRecDepth 100000 in
theorem fnOk_keysAll : FnOk Try.prog 78 Try.f78 := ⟨by rfl, by kernel_rfl, by
  show okCode _ _ = true ∧ drawsOk _ = true
  exact ⟨by kernel_rfl, by kernel_rfl⟩⟩
set_option maxRecDepth 100000 in
theorem fnOk_ref02Rg : FnOk Try.prog 26 Try.f26 := ⟨by rfl, by kernel_rfl, by
  show okCode _ _ = true ∧ drawsOk _ = true
  exact ⟨by kernel_rfl, by kernel_rfl⟩⟩
set_option maxRecDepth 100000 in
theorem fnOk_ref02Two : FnOk Try.prog 59 Try.f59 := ⟨by rfl, by kernel_rfl, by
  show okCode _ _ = true ∧ drawsOk _ = true
  exact ⟨by kernel_rfl, by kernel_rfl⟩⟩
noncomputable def cxc1 : Cx := ⟨tb, [(78, Try.f78)], [(72, spKey)]⟩
theorem specsc1 : SpecsOk Try.prog cxc1.specs := .cons keysCheck_ok .nil
theorem fnsc1 : FnsOk Try.prog cxc1.fns := .cons fnOk_keysAll .nil
noncomputable def cxc2 : Cx := ⟨tb, [(59, Try.f59)], [(73, spKey)]⟩
theorem specsc2 : SpecsOk Try.prog cxc2.specs := .cons ref02C_ok .nil
theorem fnsc2 : FnsOk Try.prog cxc2.fns := .cons fnOk_ref02Two .nil
set_option maxRecDepth 100000 in
theorem keysRg_ok : SpecOk Try.prog 48 spRg := by
  refine spec_body (C := cxc1) mixed tbOk specsc1 (callN_ok (C := cxc1) mixed tbOk specsc1 fnsc1 3) fnOk_keysRg ?_
  intro ys p r h hp
  unfold spRg at h
  split at h
  · rename_i lo hi bd
    cases h
    conv => whnf
    repeat' first
      | ((first | refine br_true (by first | with_reducible exact rfl | assumption | decide) ?_ | refine br_false (by first | with_reducible exact rfl | assumption | decide) ?_ | with_reducible first | refine br_kt (by assumption) ?_ | refine br_kf (by assumption) ?_ | refine br_nt (by assumption) ?_ | refine br_nf (by assumption) ?_ | refine br_et (by assumption) ?_ | refine br_ef (by assumption) ?_); conv => whnf)
      | ((with_reducible first | refine br_dec (fun h => ?_) (fun h => ?_) | refine br_ndec (fun h => ?_) (fun h => ?_) | refine br_ne (fun h => ?_) (fun h => ?_) | refine br_eq (fun h => ?_) (fun h => ?_)) <;> first | (exfalso; omega) | conv => whnf)
      | (refine br_intro (fun h => ?_) (fun h => ?_) <;> conv => whnf)
      | ((first | refine need_in (by first | exact trivial | assumption | exact ⟨rfl, Nat.le_refl _⟩ | exact ⟨rfl, rfl⟩ | (simp only [inR]; omega) | omega | (simp only [roomP, true_and, and_true, List.length_take, List.length_drop, List.length_append, List.length_cons, List.length_nil, List.length_set, List.length_replicate]; omega) | (refine ⟨by first | exact trivial | rfl, by first | exact Nat.le_refl _ | omega | (simp; omega), ?_⟩; change roomP _ _ 1; simp only [roomP]; omega) | (change roomP _ _ 1; simp only [roomP]; omega) | (simp; omega) | (simp [inR]; omega) | (simp [inR]; done) | decide | (simp; done)) ?_ | refine idx_nat (by omega) (fun x hx => ?_) | refine frz_auto ?_ | refine draw_plain ?_ | refine idx_intro (by first | omega | (simp; omega) | (simp; done)) (by first | omega | (simp; omega) | (simp; done)) (fun x hx => ?_)); conv => whnf)
    refine loop_turns 3 ?_
    conv => whnf
    repeat' first
      | ((first | refine br_true (by first | with_reducible exact rfl | assumption | decide) ?_ | refine br_false (by first | with_reducible exact rfl | assumption | decide) ?_ | with_reducible first | refine br_kt (by assumption) ?_ | refine br_kf (by assumption) ?_ | refine br_nt (by assumption) ?_ | refine br_nf (by assumption) ?_ | refine br_et (by assumption) ?_ | refine br_ef (by assumption) ?_); conv => whnf)
      | ((with_reducible first | refine br_dec (fun h => ?_) (fun h => ?_) | refine br_ndec (fun h => ?_) (fun h => ?_) | refine br_ne (fun h => ?_) (fun h => ?_) | refine br_eq (fun h => ?_) (fun h => ?_)) <;> first | (exfalso; omega) | conv => whnf)
      | (refine br_intro (fun h => ?_) (fun h => ?_) <;> conv => whnf)
      | ((first | refine need_in (by first | exact trivial | assumption | exact ⟨rfl, Nat.le_refl _⟩ | exact ⟨rfl, rfl⟩ | (simp only [inR]; omega) | omega | (simp only [roomP, true_and, and_true, List.length_take, List.length_drop, List.length_append, List.length_cons, List.length_nil, List.length_set, List.length_replicate]; omega) | (refine ⟨by first | exact trivial | rfl, by first | exact Nat.le_refl _ | omega | (simp; omega), ?_⟩; change roomP _ _ 1; simp only [roomP]; omega) | (change roomP _ _ 1; simp only [roomP]; omega) | (simp; omega) | (simp [inR]; omega) | (simp [inR]; done) | decide | (simp; done)) ?_ | refine idx_nat (by omega) (fun x hx => ?_) | refine frz_auto ?_ | refine draw_plain ?_ | refine idx_intro (by first | omega | (simp; omega) | (simp; done)) (by first | omega | (simp; omega) | (simp; done)) (fun x hx => ?_)); conv => whnf)
    all_goals (refine congrArg (AV.int .i64) ?_; cases bd <;> simp_all [rgE, keyE])
  · cases h
set_option maxRecDepth 100000 in
theorem ref02Rg_ok : SpecOk Try.prog 26 spRg := by
  refine spec_body (C := cxc2) mixed tbOk specsc2 (callN_ok (C := cxc2) mixed tbOk specsc2 fnsc2 3) fnOk_ref02Rg ?_
  intro ys p r h hp
  unfold spRg at h
  split at h
  · rename_i lo hi bd
    cases h
    conv => whnf
    repeat' first
      | ((first | refine br_true (by first | with_reducible exact rfl | assumption | decide) ?_ | refine br_false (by first | with_reducible exact rfl | assumption | decide) ?_ | with_reducible first | refine br_kt (by assumption) ?_ | refine br_kf (by assumption) ?_ | refine br_nt (by assumption) ?_ | refine br_nf (by assumption) ?_ | refine br_et (by assumption) ?_ | refine br_ef (by assumption) ?_); conv => whnf)
      | ((with_reducible first | refine br_dec (fun h => ?_) (fun h => ?_) | refine br_ndec (fun h => ?_) (fun h => ?_) | refine br_ne (fun h => ?_) (fun h => ?_) | refine br_eq (fun h => ?_) (fun h => ?_)) <;> first | (exfalso; omega) | conv => whnf)
      | (refine br_intro (fun h => ?_) (fun h => ?_) <;> conv => whnf)
      | ((first | refine need_in (by first | exact trivial | assumption | exact ⟨rfl, Nat.le_refl _⟩ | exact ⟨rfl, rfl⟩ | (simp only [inR]; omega) | omega | (simp only [roomP, true_and, and_true, List.length_take, List.length_drop, List.length_append, List.length_cons, List.length_nil, List.length_set, List.length_replicate]; omega) | (refine ⟨by first | exact trivial | rfl, by first | exact Nat.le_refl _ | omega | (simp; omega), ?_⟩; change roomP _ _ 1; simp only [roomP]; omega) | (change roomP _ _ 1; simp only [roomP]; omega) | (simp; omega) | (simp [inR]; omega) | (simp [inR]; done) | decide | (simp; done)) ?_ | refine idx_nat (by omega) (fun x hx => ?_) | refine frz_auto ?_ | refine draw_plain ?_ | refine idx_intro (by first | omega | (simp; omega) | (simp; done)) (by first | omega | (simp; omega) | (simp; done)) (fun x hx => ?_)); conv => whnf)
    all_goals (refine congrArg (AV.int .i64) ?_; cases bd <;> simp_all [rgE, keyE])
  · cases h
end Go.Proofs.Ytekkeajcmibbaaa
