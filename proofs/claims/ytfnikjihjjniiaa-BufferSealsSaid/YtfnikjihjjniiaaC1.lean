/-
  Buffers: their checks, by both; new ones; whether two are the same; sealing.
-/
import Derived.Test.YtfnikjihjjniiaaE2
import Derived.Test.YtfnikjihjjniiaaE5
import Derived.Test.YtfnikjihjjniiaaGF
namespace Go.Proofs.Ytfnikjihjjniiaa
open Av Bk

def chB (m : Int) (l : List entT.El) : Int × Int := if m < 1 ∨ 16 < m then (0, 7) else if m < (l.length : Int) then (0, 3) else clGo none 0 l
def spChB : DSpec
  | [.agg [.int .i64 m, .lst (.st [.str, .str, .bool, .int .i64]) l]] => some (True, .tup [.int .i64 (chB m l).1, .int .i64 (chB m l).2])
  | _ => none
theorem fnOk_bChk : FnOk Try.prog 24 Try.f24 := ⟨by rfl, by kernel_rfl, by
  show okCode _ _ = true ∧ drawsOk _ = true
  exact ⟨by kernel_rfl, by kernel_rfl⟩⟩
noncomputable def cx20 : Cx := ⟨tb, [], [(36, spCheck)]⟩
theorem specs20 : SpecsOk Try.prog cx20.specs := .cons entCheck_ok .nil
set_option maxRecDepth 100000 in
set_option maxHeartbeats 2000000 in
theorem bChk_ok : SpecOk Try.prog 24 spChB := by
  refine spec_body (C := cx20) mixed tbOk specs20 (callN_ok (C := cx20) mixed tbOk specs20 FnsOk.nil 0) fnOk_bChk ?_
  intro ys p r h hp
  unfold spChB at h
  split at h
  · rename_i m l
    cases h
    conv => whnf
    repeat' first
      | (refine br_true (by first | with_reducible exact rfl | assumption | decide) ?_; conv => whnf)
      | (refine br_false (by first | with_reducible exact rfl | assumption | decide) ?_; conv => whnf)
      | ((with_reducible refine br_kt (by assumption) ?_); conv => whnf)
      | ((with_reducible refine br_kf (by assumption) ?_); conv => whnf)
      | ((with_reducible refine br_nt (by assumption) ?_); conv => whnf)
      | ((with_reducible refine br_nf (by assumption) ?_); conv => whnf)
      | ((with_reducible refine br_et (by assumption) ?_); conv => whnf)
      | ((with_reducible refine br_ef (by assumption) ?_); conv => whnf)
      | ((with_reducible refine br_dec (fun h => ?_) (fun h => ?_)) <;> first | (exfalso; omega) | conv => whnf)
      | ((with_reducible refine br_ndec (fun h => ?_) (fun h => ?_)) <;> first | (exfalso; omega) | conv => whnf)
      | ((with_reducible refine br_ne (fun h => ?_) (fun h => ?_)) <;> first | (exfalso; omega) | conv => whnf)
      | ((with_reducible refine br_eq (fun h => ?_) (fun h => ?_)) <;> first | (exfalso; omega) | conv => whnf)
      | (refine br_intro (fun h => ?_) (fun h => ?_) <;> conv => whnf)
      | (refine need_in (by first | exact trivial | assumption | exact ⟨rfl, Nat.le_refl _⟩ | exact ⟨rfl, rfl⟩ | (simp only [inR]; omega) | omega | (simp only [roomP, true_and, and_true, List.length_take, List.length_drop, List.length_append, List.length_cons, List.length_nil, List.length_set, List.length_replicate]; omega) | (refine ⟨by first | exact trivial | rfl, by first | exact Nat.le_refl _ | omega, ?_⟩; change roomP _ _ 1; simp only [roomP]; omega) | (change roomP _ _ 1; simp only [roomP]; omega) | (simp; omega) | (simp [inR]; omega) | (simp [inR]; done) | decide | (simp; done)) ?_; conv => whnf)
      | (refine idx_nat (by omega) (fun x hx => ?_); conv => whnf)
      | (refine frz_auto ?_; conv => whnf)
      | (refine draw_plain ?_; conv => whnf)
      | (refine idx_intro (by omega) (by omega) (fun x hx => ?_); conv => whnf)
      | (refine idx_intro (by first | omega | (simp; omega) | (simp; done)) (by first | omega | (simp; omega) | (simp; done)) (fun x hx => ?_); conv => whnf)
      | fail
    · rw [chB, if_pos (.inl h)]
    · rw [chB, if_pos (.inr h)]
    · rw [chB, if_neg (by omega), if_pos (by omega)]
    · refine loop_inv [] [26] (fun vs h => ∃ i : Nat, vs = [.int .i64 (i : Int)] ∧ h = [.cells 24 [.int .i64 m, .lst entT l]] ∧ i ≤ l.length ∧ chB m l = clGo (pvAt l i) (i : Int) (l.drop i)) (fun vs _ => match vs with | [.int _ k] => l.length - k.toNat | _ => 0) ?_
      refine ⟨⟨0, rfl, rfl, by omega, by rw [chB, if_neg (by omega), if_neg (by omega)]; rfl⟩, ?_⟩
      rintro vs h' - ⟨i, rfl, rfl, hi, hc⟩
      conv => whnf
      repeat' first
        | (refine br_true (by first | with_reducible exact rfl | assumption | decide) ?_; conv => whnf)
        | (refine br_false (by first | with_reducible exact rfl | assumption | decide) ?_; conv => whnf)
        | ((with_reducible refine br_kt (by assumption) ?_); conv => whnf)
        | ((with_reducible refine br_kf (by assumption) ?_); conv => whnf)
        | ((with_reducible refine br_nt (by assumption) ?_); conv => whnf)
        | ((with_reducible refine br_nf (by assumption) ?_); conv => whnf)
        | ((with_reducible refine br_et (by assumption) ?_); conv => whnf)
        | ((with_reducible refine br_ef (by assumption) ?_); conv => whnf)
        | ((with_reducible refine br_dec (fun h => ?_) (fun h => ?_)) <;> first | (exfalso; omega) | conv => whnf)
        | ((with_reducible refine br_ndec (fun h => ?_) (fun h => ?_)) <;> first | (exfalso; omega) | conv => whnf)
        | ((with_reducible refine br_ne (fun h => ?_) (fun h => ?_)) <;> first | (exfalso; omega) | conv => whnf)
        | ((with_reducible refine br_eq (fun h => ?_) (fun h => ?_)) <;> first | (exfalso; omega) | conv => whnf)
        | (refine br_intro (fun h => ?_) (fun h => ?_) <;> conv => whnf)
        | (refine need_in (by first | exact trivial | assumption | exact ⟨rfl, Nat.le_refl _⟩ | exact ⟨rfl, rfl⟩ | (simp only [inR]; omega) | omega | (simp only [roomP, true_and, and_true, List.length_take, List.length_drop, List.length_append, List.length_cons, List.length_nil, List.length_set, List.length_replicate]; omega) | (refine ⟨by first | exact trivial | rfl, by first | exact Nat.le_refl _ | omega, ?_⟩; change roomP _ _ 1; simp only [roomP]; omega) | (change roomP _ _ 1; simp only [roomP]; omega) | (simp; omega) | (simp [inR]; omega) | (simp [inR]; done) | decide | (simp; done)) ?_; conv => whnf)
        | (refine idx_nat (by omega) (fun x hx => ?_); conv => whnf)
        | (refine frz_auto ?_; conv => whnf)
        | (refine draw_plain ?_; conv => whnf)
        | (refine idx_intro (by omega) (by omega) (fun x hx => ?_); conv => whnf)
        | (refine idx_intro (by first | omega | (simp; omega) | (simp; done)) (by first | omega | (simp; omega) | (simp; done)) (fun x hx => ?_); conv => whnf)
        | fail
      · rw [cg_err hc hx h]; rfl
      · rename_i y hy _ _
        rw [show ((i : Int) - 1).toNat = i - 1 by omega] at hx
        rw [cg_form hc hy (by assumption) (by omega) hx (bnt h)]
      · rename_i y hy _ _
        rw [show ((i : Int) - 1).toNat = i - 1 by omega] at hx
        refine back_intro (by conv => whnf) rfl ⟨i + 1, rfl, rfl, by omega, cg_next hc hy (by assumption) (.inr ⟨x, hx, bnf h⟩)⟩ ?_
        show l.length - ((i : Int) + 1).toNat < l.length - (i : Int).toNat
        omega
      · refine back_intro (by conv => whnf) rfl ⟨i + 1, rfl, rfl, by omega, cg_next hc hx (by assumption) (.inl (by omega))⟩ ?_
        show l.length - ((i : Int) + 1).toNat < l.length - (i : Int).toNat
        omega
      · rw [cg_end hc (by omega)]
  · cases h
theorem fnOk_rChk : FnOk Try.prog 25 Try.f25 := ⟨by rfl, by kernel_rfl, by
  show okCode _ _ = true ∧ drawsOk _ = true
  exact ⟨by kernel_rfl, by kernel_rfl⟩⟩
noncomputable def cx21 : Cx := ⟨tb, [], [(37, spCheck)]⟩
theorem specs21 : SpecsOk Try.prog cx21.specs := .cons refCheck_ok .nil
set_option maxRecDepth 100000 in
set_option maxHeartbeats 2000000 in
theorem rChk_ok : SpecOk Try.prog 25 spChB := by
  refine spec_body (C := cx21) mixed tbOk specs21 (callN_ok (C := cx21) mixed tbOk specs21 FnsOk.nil 0) fnOk_rChk ?_
  intro ys p r h hp
  unfold spChB at h
  split at h
  · rename_i m l
    cases h
    conv => whnf
    repeat' first
      | (refine br_true (by first | with_reducible exact rfl | assumption | decide) ?_; conv => whnf)
      | (refine br_false (by first | with_reducible exact rfl | assumption | decide) ?_; conv => whnf)
      | ((with_reducible refine br_kt (by assumption) ?_); conv => whnf)
      | ((with_reducible refine br_kf (by assumption) ?_); conv => whnf)
      | ((with_reducible refine br_nt (by assumption) ?_); conv => whnf)
      | ((with_reducible refine br_nf (by assumption) ?_); conv => whnf)
      | ((with_reducible refine br_et (by assumption) ?_); conv => whnf)
      | ((with_reducible refine br_ef (by assumption) ?_); conv => whnf)
      | ((with_reducible refine br_dec (fun h => ?_) (fun h => ?_)) <;> first | (exfalso; omega) | conv => whnf)
      | ((with_reducible refine br_ndec (fun h => ?_) (fun h => ?_)) <;> first | (exfalso; omega) | conv => whnf)
      | ((with_reducible refine br_ne (fun h => ?_) (fun h => ?_)) <;> first | (exfalso; omega) | conv => whnf)
      | ((with_reducible refine br_eq (fun h => ?_) (fun h => ?_)) <;> first | (exfalso; omega) | conv => whnf)
      | (refine br_intro (fun h => ?_) (fun h => ?_) <;> conv => whnf)
      | (refine need_in (by first | exact trivial | assumption | exact ⟨rfl, Nat.le_refl _⟩ | exact ⟨rfl, rfl⟩ | (simp only [inR]; omega) | omega | (simp only [roomP, true_and, and_true, List.length_take, List.length_drop, List.length_append, List.length_cons, List.length_nil, List.length_set, List.length_replicate]; omega) | (refine ⟨by first | exact trivial | rfl, by first | exact Nat.le_refl _ | omega, ?_⟩; change roomP _ _ 1; simp only [roomP]; omega) | (change roomP _ _ 1; simp only [roomP]; omega) | (simp; omega) | (simp [inR]; omega) | (simp [inR]; done) | decide | (simp; done)) ?_; conv => whnf)
      | (refine idx_nat (by omega) (fun x hx => ?_); conv => whnf)
      | (refine frz_auto ?_; conv => whnf)
      | (refine draw_plain ?_; conv => whnf)
      | (refine idx_intro (by omega) (by omega) (fun x hx => ?_); conv => whnf)
      | (refine idx_intro (by first | omega | (simp; omega) | (simp; done)) (by first | omega | (simp; omega) | (simp; done)) (fun x hx => ?_); conv => whnf)
      | fail
    · rw [chB, if_pos (.inl h)]
    · rw [chB, if_pos (.inr h)]
    · rw [chB, if_neg (by omega), if_pos (by omega)]
    · refine loop_inv [] [4] (fun vs h => ∃ i : Nat, vs = [.int .i64 (i : Int)] ∧ h = [.cells 24 [.int .i64 m, .lst entT l]] ∧ i ≤ l.length ∧ chB m l = clGo (pvAt l i) (i : Int) (l.drop i)) (fun vs _ => match vs with | [.int _ k] => l.length - k.toNat | _ => 0) ?_
      refine ⟨⟨0, rfl, rfl, by omega, by rw [chB, if_neg (by omega), if_neg (by omega)]; rfl⟩, ?_⟩
      rintro vs h' - ⟨i, rfl, rfl, hi, hc⟩
      conv => whnf
      repeat' first
        | (refine br_true (by first | with_reducible exact rfl | assumption | decide) ?_; conv => whnf)
        | (refine br_false (by first | with_reducible exact rfl | assumption | decide) ?_; conv => whnf)
        | ((with_reducible refine br_kt (by assumption) ?_); conv => whnf)
        | ((with_reducible refine br_kf (by assumption) ?_); conv => whnf)
        | ((with_reducible refine br_nt (by assumption) ?_); conv => whnf)
        | ((with_reducible refine br_nf (by assumption) ?_); conv => whnf)
        | ((with_reducible refine br_et (by assumption) ?_); conv => whnf)
        | ((with_reducible refine br_ef (by assumption) ?_); conv => whnf)
        | ((with_reducible refine br_dec (fun h => ?_) (fun h => ?_)) <;> first | (exfalso; omega) | conv => whnf)
        | ((with_reducible refine br_ndec (fun h => ?_) (fun h => ?_)) <;> first | (exfalso; omega) | conv => whnf)
        | ((with_reducible refine br_ne (fun h => ?_) (fun h => ?_)) <;> first | (exfalso; omega) | conv => whnf)
        | ((with_reducible refine br_eq (fun h => ?_) (fun h => ?_)) <;> first | (exfalso; omega) | conv => whnf)
        | (refine br_intro (fun h => ?_) (fun h => ?_) <;> conv => whnf)
        | (refine need_in (by first | exact trivial | assumption | exact ⟨rfl, Nat.le_refl _⟩ | exact ⟨rfl, rfl⟩ | (simp only [inR]; omega) | omega | (simp only [roomP, true_and, and_true, List.length_take, List.length_drop, List.length_append, List.length_cons, List.length_nil, List.length_set, List.length_replicate]; omega) | (refine ⟨by first | exact trivial | rfl, by first | exact Nat.le_refl _ | omega, ?_⟩; change roomP _ _ 1; simp only [roomP]; omega) | (change roomP _ _ 1; simp only [roomP]; omega) | (simp; omega) | (simp [inR]; omega) | (simp [inR]; done) | decide | (simp; done)) ?_; conv => whnf)
        | (refine idx_nat (by omega) (fun x hx => ?_); conv => whnf)
        | (refine frz_auto ?_; conv => whnf)
        | (refine draw_plain ?_; conv => whnf)
        | (refine idx_intro (by omega) (by omega) (fun x hx => ?_); conv => whnf)
        | (refine idx_intro (by first | omega | (simp; omega) | (simp; done)) (by first | omega | (simp; omega) | (simp; done)) (fun x hx => ?_); conv => whnf)
        | fail
      · rw [cg_err hc hx h]; rfl
      · rename_i y hy e0 _ z hz
        obtain rfl := Option.some.inj (hy.symm.trans hz)
        rw [show ((i : Int) - 1).toNat = i - 1 by omega] at hx
        rw [cg_form hc hy e0 (by omega) hx (bnt h)]
      · rename_i y hy e0 _ z hz
        obtain rfl := Option.some.inj (hy.symm.trans hz)
        rw [show ((i : Int) - 1).toNat = i - 1 by omega] at hx
        refine back_intro (by conv => whnf) rfl ⟨i + 1, rfl, rfl, by omega, cg_next hc hy e0 (.inr ⟨x, hx, bnf h⟩)⟩ ?_
        show l.length - ((i : Int) + 1).toNat < l.length - (i : Int).toNat
        omega
      · refine back_intro (by conv => whnf) rfl ⟨i + 1, rfl, rfl, by omega, cg_next hc hx (by assumption) (.inl (by omega))⟩ ?_
        show l.length - ((i : Int) + 1).toNat < l.length - (i : Int).toNat
        omega
      · rw [cg_end hc (by omega)]
  · cases h
theorem fnOk_bNew : FnOk Try.prog 22 Try.f22 := ⟨by rfl, by kernel_rfl, by
  show okCode _ _ = true ∧ drawsOk _ = true
  exact ⟨by kernel_rfl, by kernel_rfl⟩⟩
theorem fnOk_rNew : FnOk Try.prog 23 Try.f23 := ⟨by rfl, by kernel_rfl, by
  show okCode _ _ = true ∧ drawsOk _ = true
  exact ⟨by kernel_rfl, by kernel_rfl⟩⟩
def spNew : DSpec
  | [.int .i64 m] => some (True, .tup [.agg [.int .i64 (if m < 1 ∨ 16 < m then 0 else m), .lst entT []], .int .i64 (if m < 1 ∨ 16 < m then 7 else 0)])
  | _ => none
theorem bNew_ok : SpecOk Try.prog 22 spNew := by
  refine spec_body (C := cx0) mixed tbOk SpecsOk.nil (callN_ok (C := cx0) mixed tbOk SpecsOk.nil FnsOk.nil 0) fnOk_bNew ?_
  intro ys p r h hp
  unfold spNew at h
  split at h
  · rename_i m
    cases h
    conv => whnf
    repeat' first
      | (refine br_true (by first | with_reducible exact rfl | assumption | decide) ?_; conv => whnf)
      | (refine br_false (by first | with_reducible exact rfl | assumption | decide) ?_; conv => whnf)
      | ((with_reducible refine br_kt (by assumption) ?_); conv => whnf)
      | ((with_reducible refine br_kf (by assumption) ?_); conv => whnf)
      | ((with_reducible refine br_nt (by assumption) ?_); conv => whnf)
      | ((with_reducible refine br_nf (by assumption) ?_); conv => whnf)
      | ((with_reducible refine br_et (by assumption) ?_); conv => whnf)
      | ((with_reducible refine br_ef (by assumption) ?_); conv => whnf)
      | ((with_reducible refine br_dec (fun h => ?_) (fun h => ?_)) <;> first | (exfalso; omega) | conv => whnf)
      | ((with_reducible refine br_ndec (fun h => ?_) (fun h => ?_)) <;> first | (exfalso; omega) | conv => whnf)
      | ((with_reducible refine br_ne (fun h => ?_) (fun h => ?_)) <;> first | (exfalso; omega) | conv => whnf)
      | ((with_reducible refine br_eq (fun h => ?_) (fun h => ?_)) <;> first | (exfalso; omega) | conv => whnf)
      | (refine br_intro (fun h => ?_) (fun h => ?_) <;> conv => whnf)
      | (refine need_in (by first | exact trivial | assumption | exact ⟨rfl, Nat.le_refl _⟩ | exact ⟨rfl, rfl⟩ | (simp only [inR]; omega) | omega | (simp only [roomP, true_and, and_true, List.length_take, List.length_drop, List.length_append, List.length_cons, List.length_nil, List.length_set, List.length_replicate]; omega) | (refine ⟨by first | exact trivial | rfl, by first | exact Nat.le_refl _ | omega, ?_⟩; change roomP _ _ 1; simp only [roomP]; omega) | (change roomP _ _ 1; simp only [roomP]; omega) | (simp; omega) | (simp [inR]; omega) | (simp [inR]; done) | decide | (simp; done)) ?_; conv => whnf)
      | (refine idx_nat (by omega) (fun x hx => ?_); conv => whnf)
      | (refine frz_auto ?_; conv => whnf)
      | (refine draw_plain ?_; conv => whnf)
      | (refine idx_intro (by omega) (by omega) (fun x hx => ?_); conv => whnf)
      | (refine idx_intro (by first | omega | (simp; omega) | (simp; done)) (by first | omega | (simp; omega) | (simp; done)) (fun x hx => ?_); conv => whnf)
      | fail
    all_goals first
      | rw [if_pos (by omega), if_pos (by omega)]
      | rw [if_neg (by omega), if_neg (by omega)]
  · cases h
theorem rNew_ok : SpecOk Try.prog 23 spNew := by
  refine spec_body (C := cx0) mixed tbOk SpecsOk.nil (callN_ok (C := cx0) mixed tbOk SpecsOk.nil FnsOk.nil 0) fnOk_rNew ?_
  intro ys p r h hp
  unfold spNew at h
  split at h
  · rename_i m
    cases h
    conv => whnf
    repeat' first
      | (refine br_true (by first | with_reducible exact rfl | assumption | decide) ?_; conv => whnf)
      | (refine br_false (by first | with_reducible exact rfl | assumption | decide) ?_; conv => whnf)
      | ((with_reducible refine br_kt (by assumption) ?_); conv => whnf)
      | ((with_reducible refine br_kf (by assumption) ?_); conv => whnf)
      | ((with_reducible refine br_nt (by assumption) ?_); conv => whnf)
      | ((with_reducible refine br_nf (by assumption) ?_); conv => whnf)
      | ((with_reducible refine br_et (by assumption) ?_); conv => whnf)
      | ((with_reducible refine br_ef (by assumption) ?_); conv => whnf)
      | ((with_reducible refine br_dec (fun h => ?_) (fun h => ?_)) <;> first | (exfalso; omega) | conv => whnf)
      | ((with_reducible refine br_ndec (fun h => ?_) (fun h => ?_)) <;> first | (exfalso; omega) | conv => whnf)
      | ((with_reducible refine br_ne (fun h => ?_) (fun h => ?_)) <;> first | (exfalso; omega) | conv => whnf)
      | ((with_reducible refine br_eq (fun h => ?_) (fun h => ?_)) <;> first | (exfalso; omega) | conv => whnf)
      | (refine br_intro (fun h => ?_) (fun h => ?_) <;> conv => whnf)
      | (refine need_in (by first | exact trivial | assumption | exact ⟨rfl, Nat.le_refl _⟩ | exact ⟨rfl, rfl⟩ | (simp only [inR]; omega) | omega | (simp only [roomP, true_and, and_true, List.length_take, List.length_drop, List.length_append, List.length_cons, List.length_nil, List.length_set, List.length_replicate]; omega) | (refine ⟨by first | exact trivial | rfl, by first | exact Nat.le_refl _ | omega, ?_⟩; change roomP _ _ 1; simp only [roomP]; omega) | (change roomP _ _ 1; simp only [roomP]; omega) | (simp; omega) | (simp [inR]; omega) | (simp [inR]; done) | decide | (simp; done)) ?_; conv => whnf)
      | (refine idx_nat (by omega) (fun x hx => ?_); conv => whnf)
      | (refine frz_auto ?_; conv => whnf)
      | (refine draw_plain ?_; conv => whnf)
      | (refine idx_intro (by omega) (by omega) (fun x hx => ?_); conv => whnf)
      | (refine idx_intro (by first | omega | (simp; omega) | (simp; done)) (by first | omega | (simp; omega) | (simp; done)) (fun x hx => ?_); conv => whnf)
      | fail
    all_goals first
      | rw [if_pos (by omega), if_pos (by omega)]
      | rw [if_neg (by omega), if_neg (by omega)]
  · cases h
def spSame : DSpec
  | [.lst (.st [.str, .str, .bool, .int .i64]) a, .lst (.st [.str, .str, .bool, .int .i64]) b] => some (a.length ≤ 4611686018427387904, .bool (sameL entT a b))
  | _ => none
theorem same_fin {t : Ty} {a b : List t.El} {i : Nat} (h : a.length ≤ i ∨ b.length ≤ i) (ha : i ≤ a.length) (hb : i ≤ b.length) : sameL t (a.drop i) (b.drop i) = ((a.length : Int) == b.length) := by
  by_cases e : a.length = b.length
  · rw [same_end (by omega) (by omega), e, beq_self_eq_true]
  · rw [same_len (by rw [List.length_drop, List.length_drop]; omega)]
    exact (beq_eq_false_iff_ne.2 (by omega)).symm
theorem fnOk_rSameL : FnOk Try.prog 21 Try.f21 := ⟨by rfl, by kernel_rfl, by
  show okCode _ _ = true ∧ drawsOk _ = true
  exact ⟨by kernel_rfl, by kernel_rfl⟩⟩
set_option maxRecDepth 100000 in
set_option maxHeartbeats 2000000 in
theorem rSameL_ok : SpecOk Try.prog 21 spSame := by
  refine spec_body (C := cx0) mixed tbOk SpecsOk.nil (callN_ok (C := cx0) mixed tbOk SpecsOk.nil FnsOk.nil 0) fnOk_rSameL ?_
  intro ys p r h hp
  unfold spSame at h
  split at h
  · rename_i a b
    cases h
    conv => whnf
    refine loop_inv [] [5] (fun vs h => ∃ i : Nat, vs = [.int .i64 (i : Int)] ∧ h = [] ∧ i ≤ a.length ∧ i ≤ b.length ∧ sameL entT a b = sameL entT (a.drop i) (b.drop i)) (fun vs _ => match vs with | [.int _ k] => a.length - k.toNat | _ => 0) ?_
    refine ⟨⟨0, rfl, rfl, Nat.zero_le _, Nat.zero_le _, rfl⟩, ?_⟩
    rintro vs h' - ⟨i, rfl, rfl, hi, hi2, hs⟩
    conv => whnf
    repeat' first
      | (refine br_true (by first | with_reducible exact rfl | assumption | decide) ?_; conv => whnf)
      | (refine br_false (by first | with_reducible exact rfl | assumption | decide) ?_; conv => whnf)
      | ((with_reducible refine br_kt (by assumption) ?_); conv => whnf)
      | ((with_reducible refine br_kf (by assumption) ?_); conv => whnf)
      | ((with_reducible refine br_nt (by assumption) ?_); conv => whnf)
      | ((with_reducible refine br_nf (by assumption) ?_); conv => whnf)
      | ((with_reducible refine br_et (by assumption) ?_); conv => whnf)
      | ((with_reducible refine br_ef (by assumption) ?_); conv => whnf)
      | ((with_reducible refine br_dec (fun h => ?_) (fun h => ?_)) <;> first | (exfalso; omega) | conv => whnf)
      | ((with_reducible refine br_ndec (fun h => ?_) (fun h => ?_)) <;> first | (exfalso; omega) | conv => whnf)
      | ((with_reducible refine br_ne (fun h => ?_) (fun h => ?_)) <;> first | (exfalso; omega) | conv => whnf)
      | ((with_reducible refine br_eq (fun h => ?_) (fun h => ?_)) <;> first | (exfalso; omega) | conv => whnf)
      | (refine br_intro (fun h => ?_) (fun h => ?_) <;> conv => whnf)
      | (refine need_in (by first | exact trivial | assumption | exact ⟨rfl, Nat.le_refl _⟩ | exact ⟨rfl, rfl⟩ | (simp only [inR]; omega) | omega | (simp only [roomP, true_and, and_true, List.length_take, List.length_drop, List.length_append, List.length_cons, List.length_nil, List.length_set, List.length_replicate]; omega) | (refine ⟨by first | exact trivial | rfl, by first | exact Nat.le_refl _ | omega, ?_⟩; change roomP _ _ 1; simp only [roomP]; omega) | (change roomP _ _ 1; simp only [roomP]; omega) | (simp; omega) | (simp [inR]; omega) | (simp [inR]; done) | decide | (simp; done)) ?_; conv => whnf)
      | (refine idx_nat (by omega) (fun x hx => ?_); conv => whnf)
      | (refine frz_auto ?_; conv => whnf)
      | (refine draw_plain ?_; conv => whnf)
      | (refine idx_intro (by omega) (by omega) (fun x hx => ?_); conv => whnf)
      | (refine idx_intro (by first | omega | (simp; omega) | (simp; done)) (by first | omega | (simp; omega) | (simp; done)) (fun x hx => ?_); conv => whnf)
      | fail
    · rename_i y hy
      rw [hs, same_step hy hx, show eqT entT y x = false from bnt h]
      rfl
    · rename_i y hy
      rw [same_step hy hx, show eqT entT y x = true from bnf h] at hs
      refine back_intro (by conv => whnf) rfl ⟨i + 1, rfl, rfl, by omega, by omega, hs⟩ ?_
      show a.length - ((i : Int) + 1).toNat < a.length - (i : Int).toNat
      omega
    · rw [hs, same_fin (by omega) hi hi2]
    · rw [hs, same_fin (by omega) hi hi2]
  · cases h
theorem fnOk_rSame : FnOk Try.prog 16 Try.f16 := ⟨by rfl, by kernel_rfl, by
  show okCode _ _ = true ∧ drawsOk _ = true
  exact ⟨by kernel_rfl, by kernel_rfl⟩⟩
def spBSame : DSpec
  | [.agg [.int .i64 i, .lst (.st [.str, .str, .bool, .int .i64]) a], .agg [.int .i64 j, .lst (.st [.str, .str, .bool, .int .i64]) b]] => some (a.length ≤ 4611686018427387904, .bool (i == j && sameL entT a b))
  | _ => none
noncomputable def cx24 : Cx := ⟨tb, [], [(21, spSame)]⟩
theorem specs24 : SpecsOk Try.prog cx24.specs := .cons rSameL_ok .nil
set_option maxRecDepth 100000 in
set_option maxHeartbeats 2000000 in
theorem rSame_ok : SpecOk Try.prog 16 spBSame := by
  refine spec_body (C := cx24) mixed tbOk specs24 (callN_ok (C := cx24) mixed tbOk specs24 FnsOk.nil 0) fnOk_rSame ?_
  intro ys p r h hp
  unfold spBSame at h
  split at h
  · rename_i i a j b
    cases h
    conv => whnf
    repeat' first
      | (refine br_true (by first | with_reducible exact rfl | assumption | decide) ?_; conv => whnf)
      | (refine br_false (by first | with_reducible exact rfl | assumption | decide) ?_; conv => whnf)
      | ((with_reducible refine br_kt (by assumption) ?_); conv => whnf)
      | ((with_reducible refine br_kf (by assumption) ?_); conv => whnf)
      | ((with_reducible refine br_nt (by assumption) ?_); conv => whnf)
      | ((with_reducible refine br_nf (by assumption) ?_); conv => whnf)
      | ((with_reducible refine br_et (by assumption) ?_); conv => whnf)
      | ((with_reducible refine br_ef (by assumption) ?_); conv => whnf)
      | ((with_reducible refine br_dec (fun h => ?_) (fun h => ?_)) <;> first | (exfalso; omega) | conv => whnf)
      | ((with_reducible refine br_ndec (fun h => ?_) (fun h => ?_)) <;> first | (exfalso; omega) | conv => whnf)
      | ((with_reducible refine br_ne (fun h => ?_) (fun h => ?_)) <;> first | (exfalso; omega) | conv => whnf)
      | ((with_reducible refine br_eq (fun h => ?_) (fun h => ?_)) <;> first | (exfalso; omega) | conv => whnf)
      | (refine br_intro (fun h => ?_) (fun h => ?_) <;> conv => whnf)
      | (refine need_in (by first | exact trivial | assumption | exact ⟨rfl, Nat.le_refl _⟩ | exact ⟨rfl, rfl⟩ | (simp only [inR]; omega) | omega | (simp only [roomP, true_and, and_true, List.length_take, List.length_drop, List.length_append, List.length_cons, List.length_nil, List.length_set, List.length_replicate]; omega) | (refine ⟨by first | exact trivial | rfl, by first | exact Nat.le_refl _ | omega, ?_⟩; change roomP _ _ 1; simp only [roomP]; omega) | (change roomP _ _ 1; simp only [roomP]; omega) | (simp; omega) | (simp [inR]; omega) | (simp [inR]; done) | decide | (simp; done)) ?_; conv => whnf)
      | (refine idx_nat (by omega) (fun x hx => ?_); conv => whnf)
      | (refine frz_auto ?_; conv => whnf)
      | (refine draw_plain ?_; conv => whnf)
      | (refine idx_intro (by omega) (by omega) (fun x hx => ?_); conv => whnf)
      | (refine idx_intro (by first | omega | (simp; omega) | (simp; done)) (by first | omega | (simp; omega) | (simp; done)) (fun x hx => ?_); conv => whnf)
      | fail
    all_goals simp [*]
  · cases h
end Go.Proofs.Ytfnikjihjjniiaa
