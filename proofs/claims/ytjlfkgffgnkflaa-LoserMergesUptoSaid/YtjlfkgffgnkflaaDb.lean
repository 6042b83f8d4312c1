/-
  Replacing the winner's key: plain laws.
-/
import Derived.Test.YtjlfkgffgnkflaaD5
import Derived.Test.YtjlfkgffgnkflaaOrd
namespace Go.Proofs.Ytjlfkgffgnkflaa
open Av Lz

theorem chk_zero {ks : List keyT.El} {lo : List intT.El} {w : Int} (h : (chkE ks lo w).2 = 0) : rightE ks = 0 ∧ lo = loseL ks ∧ w = winI ks := by
  unfold chkE at h
  split at h
  · rename_i h1; exact absurd h h1
  · rename_i h1
    have h1 : rightE ks = 0 := by omega
    split at h
    · cases h
    · rename_i h2
      split at h
      · cases h
      · rename_i hf
        split at h
        · rename_i h3
          exact ⟨h1, fd_none (by rw [loseL_len]; omega) hf, h3⟩
        · cases h
theorem chk_tree {ks : List keyT.El} (h : rightE ks = 0) : chkE ks (loseL ks) (winI ks) = (0, 0) := by
  rw [chkE, if_neg (by omega), if_neg (by rw [loseL_len]; simp), fd_self, if_pos rfl]
def keyAt (ks : List keyT.El) (w : Int) : keyT.El := (ks[w.toNat]?).getD ((⟨#[]⟩ : ByteArray), false, ())
def opE (ks : List keyT.El) (lo : List intT.El) (w : Int) : Int := if (chkE ks lo w).2 ≠ 0 then (chkE ks lo w).2 else if (keyAt ks w).2.1 = true then 12 else 0
def spOpen : DSpec
  | [.agg [.lst (.st [.str, .bool]) ks, .lst (.int .i64) lo, .int .i64 w]] => some (True, .int .i64 (opE ks lo w))
  | _ => none
theorem fnOk_lOpen : FnOk Try.prog 33 Try.f33 := ⟨by rfl, by kernel_rfl, by
  show okCode _ _ = true ∧ drawsOk _ = true
  exact ⟨by kernel_rfl, by kernel_rfl⟩⟩
theorem fnOk_rEnded : FnOk Try.prog 34 Try.f34 := ⟨by rfl, by kernel_rfl, by
  show okCode _ _ = true ∧ drawsOk _ = true
  exact ⟨by kernel_rfl, by kernel_rfl⟩⟩
noncomputable def cx6 : Cx := ⟨tb, [], [(14, spChk), (15, spChk)]⟩
theorem specs6 : SpecsOk Try.prog cx6.specs := .cons lChkT_ok (.cons rChkT_ok .nil)
theorem win_lt {ks : List keyT.El} {lo : List intT.El} {w : Int} (h : (chkE ks lo w).2 = 0) : ∃ q : Nat, w = (q : Int) ∧ q < ks.length ∧ q = (pl ks 1).1 := by
  obtain ⟨h1, _, h3⟩ := chk_zero h
  have := rightE_ok h1
  exact ⟨(pl ks 1).1, h3, pl_lt1 (Nat.le_refl _) (by omega), rfl⟩
theorem keyAt_get {ks : List keyT.El} {q : Nat} {x : keyT.El} (hx : ks[q]? = some x) : keyAt ks (q : Int) = x := by
  unfold keyAt
  rw [Int.toNat_natCast, hx]
  rfl
set_option maxRecDepth 100000 in
set_option maxHeartbeats 4000000 in
theorem lOpen_ok : SpecOk Try.prog 33 spOpen := by
  refine spec_body (C := cx6) mixed tbOk specs6 (callN_ok (C := cx6) mixed tbOk specs6 FnsOk.nil 0) fnOk_lOpen ?_
  intro ys p r h hp
  unfold spOpen at h
  split at h
  · rename_i ks lo w
    cases h
    by_cases hc : (chkE ks lo w).2 = 0
    · obtain ⟨q, rfl, hq, _⟩ := win_lt hc
      obtain ⟨x, hx⟩ : ∃ x, ks[q]? = some x := ⟨_, List.getElem?_eq_getElem hq⟩
      rw [opE, if_neg (by omega), keyAt_get hx]
      conv => whnf
      repeat' first
        | (refine idx_kn (by assumption) ?_; conv => whnf)
        | (refine idx_ki (by assumption) (by omega) ?_; conv => whnf)
        | (refine br_true (by first | with_reducible exact rfl | assumption | decide) ?_; conv => whnf)
        | (refine br_false (by first | with_reducible exact rfl | assumption | decide) ?_; conv => whnf)
        | ((with_reducible refine br_kt (by assumption) ?_); conv => whnf)
        | ((with_reducible refine br_kf (by assumption) ?_); conv => whnf)
        | ((with_reducible refine br_nt (by assumption) ?_); conv => whnf)
        | ((with_reducible refine br_nf (by assumption) ?_); conv => whnf)
        | ((with_reducible refine br_et (by assumption) ?_); conv => whnf)
        | ((with_reducible refine br_ef (by assumption) ?_); conv => whnf)
        | ((with_reducible refine br_dec (fun h => ?_) (fun h => ?_)) <;> first | (exfalso; omega) | conv => whnf)
        | ((with_reducible refine br_ndec (fun h => ?_) (fun h => ?_)) <;> first | (exfalso; omega) | conv => whnf)
        | ((with_reducible refine br_ne (fun h => ?_) (fun h => ?_)) <;> first | (exfalso; omega) | conv => whnf)
        | ((with_reducible refine br_eq (fun h => ?_) (fun h => ?_)) <;> first | (exfalso; omega) | conv => whnf)
        | (refine br_intro (fun h => ?_) (fun h => ?_) <;> conv => whnf)
        | (refine need_in (by first | exact trivial | assumption | exact ⟨rfl, Nat.le_refl _⟩ | exact ⟨rfl, rfl⟩ | (simp only [inR]; omega) | omega | (simp only [roomP, true_and, and_true, List.length_take, List.length_drop, List.length_append, List.length_cons, List.length_nil, List.length_set, List.length_replicate]; omega) | (refine ⟨by first | exact trivial | rfl, by first | exact Nat.le_refl _ | omega, ?_⟩; change roomP _ _ 1; simp only [roomP]; omega) | (change roomP _ _ 1; simp only [roomP]; omega) | (simp; omega) | (simp [inR]; omega) | (simp [inR]; done) | decide | (simp; done)) ?_; conv => whnf)
        | (refine idx_nat (by omega) (fun x hx => ?_); conv => whnf)
        | (refine frz_auto ?_; conv => whnf)
        | (refine draw_plain ?_; conv => whnf)
        | (refine idx_intro (by omega) (by omega) (fun x hx => ?_); conv => whnf)
        | (refine idx_intro (by first | omega | (simp; omega) | (simp; done)) (by first | omega | (simp; omega) | (simp; done)) (fun x hx => ?_); conv => whnf)
        | fail
      · rw [if_pos h]
      · rw [if_neg (by rw [h]; decide)]
    · rw [opE, if_pos hc]
      conv => whnf
      repeat' first
        | (refine br_true (by first | with_reducible exact rfl | assumption | decide) ?_; conv => whnf)
        | (refine br_false (by first | with_reducible exact rfl | assumption | decide) ?_; conv => whnf)
        | ((with_reducible refine br_kt (by assumption) ?_); conv => whnf)
        | ((with_reducible refine br_kf (by assumption) ?_); conv => whnf)
        | ((with_reducible refine br_nt (by assumption) ?_); conv => whnf)
        | ((with_reducible refine br_nf (by assumption) ?_); conv => whnf)
        | ((with_reducible refine br_et (by assumption) ?_); conv => whnf)
        | ((with_reducible refine br_ef (by assumption) ?_); conv => whnf)
        | ((with_reducible refine br_dec (fun h => ?_) (fun h => ?_)) <;> first | (exfalso; omega) | conv => whnf)
        | ((with_reducible refine br_ndec (fun h => ?_) (fun h => ?_)) <;> first | (exfalso; omega) | conv => whnf)
        | ((with_reducible refine br_ne (fun h => ?_) (fun h => ?_)) <;> first | (exfalso; omega) | conv => whnf)
        | ((with_reducible refine br_eq (fun h => ?_) (fun h => ?_)) <;> first | (exfalso; omega) | conv => whnf)
        | (refine br_intro (fun h => ?_) (fun h => ?_) <;> conv => whnf)
        | (refine need_in (by first | exact trivial | assumption | exact ⟨rfl, Nat.le_refl _⟩ | exact ⟨rfl, rfl⟩ | (simp only [inR]; omega) | omega | (simp only [roomP, true_and, and_true, List.length_take, List.length_drop, List.length_append, List.length_cons, List.length_nil, List.length_set, List.length_replicate]; omega) | (refine ⟨by first | exact trivial | rfl, by first | exact Nat.le_refl _ | omega, ?_⟩; change roomP _ _ 1; simp only [roomP]; omega) | (change roomP _ _ 1; simp only [roomP]; omega) | (simp; omega) | (simp [inR]; omega) | (simp [inR]; done) | decide | (simp; done)) ?_; conv => whnf)
        | (refine idx_nat (by omega) (fun x hx => ?_); conv => whnf)
        | (refine frz_auto ?_; conv => whnf)
        | (refine draw_plain ?_; conv => whnf)
        | (refine idx_intro (by omega) (by omega) (fun x hx => ?_); conv => whnf)
        | (refine idx_intro (by first | omega | (simp; omega) | (simp; done)) (by first | omega | (simp; omega) | (simp; done)) (fun x hx => ?_); conv => whnf)
        | fail
  · cases h
set_option maxRecDepth 100000 in
set_option maxHeartbeats 4000000 in
theorem rEnded_ok : SpecOk Try.prog 34 spOpen := by
  refine spec_body (C := cx6) mixed tbOk specs6 (callN_ok (C := cx6) mixed tbOk specs6 FnsOk.nil 0) fnOk_rEnded ?_
  intro ys p r h hp
  unfold spOpen at h
  split at h
  · rename_i ks lo w
    cases h
    by_cases hc : (chkE ks lo w).2 = 0
    · obtain ⟨q, rfl, hq, _⟩ := win_lt hc
      obtain ⟨x, hx⟩ : ∃ x, ks[q]? = some x := ⟨_, List.getElem?_eq_getElem hq⟩
      rw [opE, if_neg (by omega), keyAt_get hx]
      conv => whnf
      repeat' first
        | (refine idx_kn (by assumption) ?_; conv => whnf)
        | (refine idx_ki (by assumption) (by omega) ?_; conv => whnf)
        | (refine br_true (by first | with_reducible exact rfl | assumption | decide) ?_; conv => whnf)
        | (refine br_false (by first | with_reducible exact rfl | assumption | decide) ?_; conv => whnf)
        | ((with_reducible refine br_kt (by assumption) ?_); conv => whnf)
        | ((with_reducible refine br_kf (by assumption) ?_); conv => whnf)
        | ((with_reducible refine br_nt (by assumption) ?_); conv => whnf)
        | ((with_reducible refine br_nf (by assumption) ?_); conv => whnf)
        | ((with_reducible refine br_et (by assumption) ?_); conv => whnf)
        | ((with_reducible refine br_ef (by assumption) ?_); conv => whnf)
        | ((with_reducible refine br_dec (fun h => ?_) (fun h => ?_)) <;> first | (exfalso; omega) | conv => whnf)
        | ((with_reducible refine br_ndec (fun h => ?_) (fun h => ?_)) <;> first | (exfalso; omega) | conv => whnf)
        | ((with_reducible refine br_ne (fun h => ?_) (fun h => ?_)) <;> first | (exfalso; omega) | conv => whnf)
        | ((with_reducible refine br_eq (fun h => ?_) (fun h => ?_)) <;> first | (exfalso; omega) | conv => whnf)
        | (refine br_intro (fun h => ?_) (fun h => ?_) <;> conv => whnf)
        | (refine need_in (by first | exact trivial | assumption | exact ⟨rfl, Nat.le_refl _⟩ | exact ⟨rfl, rfl⟩ | (simp only [inR]; omega) | omega | (simp only [roomP, true_and, and_true, List.length_take, List.length_drop, List.length_append, List.length_cons, List.length_nil, List.length_set, List.length_replicate]; omega) | (refine ⟨by first | exact trivial | rfl, by first | exact Nat.le_refl _ | omega, ?_⟩; change roomP _ _ 1; simp only [roomP]; omega) | (change roomP _ _ 1; simp only [roomP]; omega) | (simp; omega) | (simp [inR]; omega) | (simp [inR]; done) | decide | (simp; done)) ?_; conv => whnf)
        | (refine idx_nat (by omega) (fun x hx => ?_); conv => whnf)
        | (refine frz_auto ?_; conv => whnf)
        | (refine draw_plain ?_; conv => whnf)
        | (refine idx_intro (by omega) (by omega) (fun x hx => ?_); conv => whnf)
        | (refine idx_intro (by first | omega | (simp; omega) | (simp; done)) (by first | omega | (simp; omega) | (simp; done)) (fun x hx => ?_); conv => whnf)
        | fail
      · rw [if_pos h]
      · rw [if_neg (by rw [h]; decide), hc]
    · rw [opE, if_pos hc]
      conv => whnf
      repeat' first
        | (refine br_true (by first | with_reducible exact rfl | assumption | decide) ?_; conv => whnf)
        | (refine br_false (by first | with_reducible exact rfl | assumption | decide) ?_; conv => whnf)
        | ((with_reducible refine br_kt (by assumption) ?_); conv => whnf)
        | ((with_reducible refine br_kf (by assumption) ?_); conv => whnf)
        | ((with_reducible refine br_nt (by assumption) ?_); conv => whnf)
        | ((with_reducible refine br_nf (by assumption) ?_); conv => whnf)
        | ((with_reducible refine br_et (by assumption) ?_); conv => whnf)
        | ((with_reducible refine br_ef (by assumption) ?_); conv => whnf)
        | ((with_reducible refine br_dec (fun h => ?_) (fun h => ?_)) <;> first | (exfalso; omega) | conv => whnf)
        | ((with_reducible refine br_ndec (fun h => ?_) (fun h => ?_)) <;> first | (exfalso; omega) | conv => whnf)
        | ((with_reducible refine br_ne (fun h => ?_) (fun h => ?_)) <;> first | (exfalso; omega) | conv => whnf)
        | ((with_reducible refine br_eq (fun h => ?_) (fun h => ?_)) <;> first | (exfalso; omega) | conv => whnf)
        | (refine br_intro (fun h => ?_) (fun h => ?_) <;> conv => whnf)
        | (refine need_in (by first | exact trivial | assumption | exact ⟨rfl, Nat.le_refl _⟩ | exact ⟨rfl, rfl⟩ | (simp only [inR]; omega) | omega | (simp only [roomP, true_and, and_true, List.length_take, List.length_drop, List.length_append, List.length_cons, List.length_nil, List.length_set, List.length_replicate]; omega) | (refine ⟨by first | exact trivial | rfl, by first | exact Nat.le_refl _ | omega, ?_⟩; change roomP _ _ 1; simp only [roomP]; omega) | (change roomP _ _ 1; simp only [roomP]; omega) | (simp; omega) | (simp [inR]; omega) | (simp [inR]; done) | decide | (simp; done)) ?_; conv => whnf)
        | (refine idx_nat (by omega) (fun x hx => ?_); conv => whnf)
        | (refine frz_auto ?_; conv => whnf)
        | (refine draw_plain ?_; conv => whnf)
        | (refine idx_intro (by omega) (by omega) (fun x hx => ?_); conv => whnf)
        | (refine idx_intro (by first | omega | (simp; omega) | (simp; done)) (by first | omega | (simp; omega) | (simp; done)) (fun x hx => ?_); conv => whnf)
        | fail
  · cases h
/-! ### Winners -/
def spWinner : DSpec
  | [.agg [.lst (.st [.str, .bool]) ks, .lst (.int .i64) lo, .int .i64 w]] => some (True, .tup [.int .i64 (if opE ks lo w = 0 then w else 0), .str (if opE ks lo w = 0 then (keyAt ks w).1 else ⟨#[]⟩), .int .i64 (opE ks lo w)])
  | _ => none
theorem op_zero {ks : List keyT.El} {lo : List intT.El} {w : Int} (h : opE ks lo w = 0) : (chkE ks lo w).2 = 0 ∧ (keyAt ks w).2.1 = false := by
  unfold opE at h
  split at h
  · rename_i h1; exact absurd h h1
  · rename_i h1
    split at h
    · cases h
    · rename_i h2
      exact ⟨by omega, by simpa using h2⟩
theorem fnOk_lWinner : FnOk Try.prog 19 Try.f19 := ⟨by rfl, by kernel_rfl, by
  show okCode _ _ = true ∧ drawsOk _ = true
  exact ⟨by kernel_rfl, by kernel_rfl⟩⟩
theorem fnOk_rWinner : FnOk Try.prog 20 Try.f20 := ⟨by rfl, by kernel_rfl, by
  show okCode _ _ = true ∧ drawsOk _ = true
  exact ⟨by kernel_rfl, by kernel_rfl⟩⟩
noncomputable def cx7 : Cx := ⟨tb, [], [(33, spOpen), (34, spOpen)]⟩
theorem specs7 : SpecsOk Try.prog cx7.specs := .cons lOpen_ok (.cons rEnded_ok .nil)
set_option maxRecDepth 100000 in
set_option maxHeartbeats 4000000 in
theorem lWinner_ok : SpecOk Try.prog 19 spWinner := by
  refine spec_body (C := cx7) mixed tbOk specs7 (callN_ok (C := cx7) mixed tbOk specs7 FnsOk.nil 0) fnOk_lWinner ?_
  intro ys p r h hp
  unfold spWinner at h
  split at h
  · rename_i ks lo w
    cases h
    by_cases hc : opE ks lo w = 0
    · obtain ⟨q, hw, hq, _⟩ := win_lt (op_zero hc).1
      subst hw
      obtain ⟨x, hx⟩ : ∃ x, ks[q]? = some x := ⟨_, List.getElem?_eq_getElem hq⟩
      rw [if_pos hc, if_pos hc, keyAt_get hx, hc]
      conv => whnf
      repeat' first
        | (refine idx_kn (by assumption) ?_; conv => whnf)
        | (refine idx_ki (by assumption) (by omega) ?_; conv => whnf)
        | (refine br_true (by first | with_reducible exact rfl | assumption | decide) ?_; conv => whnf)
        | (refine br_false (by first | with_reducible exact rfl | assumption | decide) ?_; conv => whnf)
        | ((with_reducible refine br_kt (by assumption) ?_); conv => whnf)
        | ((with_reducible refine br_kf (by assumption) ?_); conv => whnf)
        | ((with_reducible refine br_nt (by assumption) ?_); conv => whnf)
        | ((with_reducible refine br_nf (by assumption) ?_); conv => whnf)
        | ((with_reducible refine br_et (by assumption) ?_); conv => whnf)
        | ((with_reducible refine br_ef (by assumption) ?_); conv => whnf)
        | ((with_reducible refine br_dec (fun h => ?_) (fun h => ?_)) <;> first | (exfalso; omega) | conv => whnf)
        | ((with_reducible refine br_ndec (fun h => ?_) (fun h => ?_)) <;> first | (exfalso; omega) | conv => whnf)
        | ((with_reducible refine br_ne (fun h => ?_) (fun h => ?_)) <;> first | (exfalso; omega) | conv => whnf)
        | ((with_reducible refine br_eq (fun h => ?_) (fun h => ?_)) <;> first | (exfalso; omega) | conv => whnf)
        | (refine br_intro (fun h => ?_) (fun h => ?_) <;> conv => whnf)
        | (refine need_in (by first | exact trivial | assumption | exact ⟨rfl, Nat.le_refl _⟩ | exact ⟨rfl, rfl⟩ | (simp only [inR]; omega) | omega | (simp only [roomP, true_and, and_true, List.length_take, List.length_drop, List.length_append, List.length_cons, List.length_nil, List.length_set, List.length_replicate]; omega) | (refine ⟨by first | exact trivial | rfl, by first | exact Nat.le_refl _ | omega, ?_⟩; change roomP _ _ 1; simp only [roomP]; omega) | (change roomP _ _ 1; simp only [roomP]; omega) | (simp; omega) | (simp [inR]; omega) | (simp [inR]; done) | decide | (simp; done)) ?_; conv => whnf)
        | (refine idx_nat (by omega) (fun x hx => ?_); conv => whnf)
        | (refine frz_auto ?_; conv => whnf)
        | (refine draw_plain ?_; conv => whnf)
        | (refine idx_intro (by omega) (by omega) (fun x hx => ?_); conv => whnf)
        | (refine idx_intro (by first | omega | (simp; omega) | (simp; done)) (by first | omega | (simp; omega) | (simp; done)) (fun x hx => ?_); conv => whnf)
        | fail
    · rw [if_neg hc, if_neg hc]
      conv => whnf
      repeat' first
        | (refine br_true (by first | with_reducible exact rfl | assumption | decide) ?_; conv => whnf)
        | (refine br_false (by first | with_reducible exact rfl | assumption | decide) ?_; conv => whnf)
        | ((with_reducible refine br_kt (by assumption) ?_); conv => whnf)
        | ((with_reducible refine br_kf (by assumption) ?_); conv => whnf)
        | ((with_reducible refine br_nt (by assumption) ?_); conv => whnf)
        | ((with_reducible refine br_nf (by assumption) ?_); conv => whnf)
        | ((with_reducible refine br_et (by assumption) ?_); conv => whnf)
        | ((with_reducible refine br_ef (by assumption) ?_); conv => whnf)
        | ((with_reducible refine br_dec (fun h => ?_) (fun h => ?_)) <;> first | (exfalso; omega) | conv => whnf)
        | ((with_reducible refine br_ndec (fun h => ?_) (fun h => ?_)) <;> first | (exfalso; omega) | conv => whnf)
        | ((with_reducible refine br_ne (fun h => ?_) (fun h => ?_)) <;> first | (exfalso; omega) | conv => whnf)
        | ((with_reducible refine br_eq (fun h => ?_) (fun h => ?_)) <;> first | (exfalso; omega) | conv => whnf)
        | (refine br_intro (fun h => ?_) (fun h => ?_) <;> conv => whnf)
        | (refine need_in (by first | exact trivial | assumption | exact ⟨rfl, Nat.le_refl _⟩ | exact ⟨rfl, rfl⟩ | (simp only [inR]; omega) | omega | (simp only [roomP, true_and, and_true, List.length_take, List.length_drop, List.length_append, List.length_cons, List.length_nil, List.length_set, List.length_replicate]; omega) | (refine ⟨by first | exact trivial | rfl, by first | exact Nat.le_refl _ | omega, ?_⟩; change roomP _ _ 1; simp only [roomP]; omega) | (change roomP _ _ 1; simp only [roomP]; omega) | (simp; omega) | (simp [inR]; omega) | (simp [inR]; done) | decide | (simp; done)) ?_; conv => whnf)
        | (refine idx_nat (by omega) (fun x hx => ?_); conv => whnf)
        | (refine frz_auto ?_; conv => whnf)
        | (refine draw_plain ?_; conv => whnf)
        | (refine idx_intro (by omega) (by omega) (fun x hx => ?_); conv => whnf)
        | (refine idx_intro (by first | omega | (simp; omega) | (simp; done)) (by first | omega | (simp; omega) | (simp; done)) (fun x hx => ?_); conv => whnf)
        | fail
  · cases h
set_option maxRecDepth 100000 in
set_option maxHeartbeats 4000000 in
theorem rWinner_ok : SpecOk Try.prog 20 spWinner := by
  refine spec_body (C := cx7) mixed tbOk specs7 (callN_ok (C := cx7) mixed tbOk specs7 FnsOk.nil 0) fnOk_rWinner ?_
  intro ys p r h hp
  unfold spWinner at h
  split at h
  · rename_i ks lo w
    cases h
    by_cases hc : opE ks lo w = 0
    · obtain ⟨q, hw, hq, _⟩ := win_lt (op_zero hc).1
      subst hw
      obtain ⟨x, hx⟩ : ∃ x, ks[q]? = some x := ⟨_, List.getElem?_eq_getElem hq⟩
      rw [if_pos hc, if_pos hc, keyAt_get hx, hc]
      conv => whnf
      repeat' first
        | (refine idx_kn (by assumption) ?_; conv => whnf)
        | (refine idx_ki (by assumption) (by omega) ?_; conv => whnf)
        | (refine br_true (by first | with_reducible exact rfl | assumption | decide) ?_; conv => whnf)
        | (refine br_false (by first | with_reducible exact rfl | assumption | decide) ?_; conv => whnf)
        | ((with_reducible refine br_kt (by assumption) ?_); conv => whnf)
        | ((with_reducible refine br_kf (by assumption) ?_); conv => whnf)
        | ((with_reducible refine br_nt (by assumption) ?_); conv => whnf)
        | ((with_reducible refine br_nf (by assumption) ?_); conv => whnf)
        | ((with_reducible refine br_et (by assumption) ?_); conv => whnf)
        | ((with_reducible refine br_ef (by assumption) ?_); conv => whnf)
        | ((with_reducible refine br_dec (fun h => ?_) (fun h => ?_)) <;> first | (exfalso; omega) | conv => whnf)
        | ((with_reducible refine br_ndec (fun h => ?_) (fun h => ?_)) <;> first | (exfalso; omega) | conv => whnf)
        | ((with_reducible refine br_ne (fun h => ?_) (fun h => ?_)) <;> first | (exfalso; omega) | conv => whnf)
        | ((with_reducible refine br_eq (fun h => ?_) (fun h => ?_)) <;> first | (exfalso; omega) | conv => whnf)
        | (refine br_intro (fun h => ?_) (fun h => ?_) <;> conv => whnf)
        | (refine need_in (by first | exact trivial | assumption | exact ⟨rfl, Nat.le_refl _⟩ | exact ⟨rfl, rfl⟩ | (simp only [inR]; omega) | omega | (simp only [roomP, true_and, and_true, List.length_take, List.length_drop, List.length_append, List.length_cons, List.length_nil, List.length_set, List.length_replicate]; omega) | (refine ⟨by first | exact trivial | rfl, by first | exact Nat.le_refl _ | omega, ?_⟩; change roomP _ _ 1; simp only [roomP]; omega) | (change roomP _ _ 1; simp only [roomP]; omega) | (simp; omega) | (simp [inR]; omega) | (simp [inR]; done) | decide | (simp; done)) ?_; conv => whnf)
        | (refine idx_nat (by omega) (fun x hx => ?_); conv => whnf)
        | (refine frz_auto ?_; conv => whnf)
        | (refine draw_plain ?_; conv => whnf)
        | (refine idx_intro (by omega) (by omega) (fun x hx => ?_); conv => whnf)
        | (refine idx_intro (by first | omega | (simp; omega) | (simp; done)) (by first | omega | (simp; omega) | (simp; done)) (fun x hx => ?_); conv => whnf)
        | fail
    · rw [if_neg hc, if_neg hc]
      conv => whnf
      repeat' first
        | (refine br_true (by first | with_reducible exact rfl | assumption | decide) ?_; conv => whnf)
        | (refine br_false (by first | with_reducible exact rfl | assumption | decide) ?_; conv => whnf)
        | ((with_reducible refine br_kt (by assumption) ?_); conv => whnf)
        | ((with_reducible refine br_kf (by assumption) ?_); conv => whnf)
        | ((with_reducible refine br_nt (by assumption) ?_); conv => whnf)
        | ((with_reducible refine br_nf (by assumption) ?_); conv => whnf)
        | ((with_reducible refine br_et (by assumption) ?_); conv => whnf)
        | ((with_reducible refine br_ef (by assumption) ?_); conv => whnf)
        | ((with_reducible refine br_dec (fun h => ?_) (fun h => ?_)) <;> first | (exfalso; omega) | conv => whnf)
        | ((with_reducible refine br_ndec (fun h => ?_) (fun h => ?_)) <;> first | (exfalso; omega) | conv => whnf)
        | ((with_reducible refine br_ne (fun h => ?_) (fun h => ?_)) <;> first | (exfalso; omega) | conv => whnf)
        | ((with_reducible refine br_eq (fun h => ?_) (fun h => ?_)) <;> first | (exfalso; omega) | conv => whnf)
        | (refine br_intro (fun h => ?_) (fun h => ?_) <;> conv => whnf)
        | (refine need_in (by first | exact trivial | assumption | exact ⟨rfl, Nat.le_refl _⟩ | exact ⟨rfl, rfl⟩ | (simp only [inR]; omega) | omega | (simp only [roomP, true_and, and_true, List.length_take, List.length_drop, List.length_append, List.length_cons, List.length_nil, List.length_set, List.length_replicate]; omega) | (refine ⟨by first | exact trivial | rfl, by first | exact Nat.le_refl _ | omega, ?_⟩; change roomP _ _ 1; simp only [roomP]; omega) | (change roomP _ _ 1; simp only [roomP]; omega) | (simp; omega) | (simp [inR]; omega) | (simp [inR]; done) | decide | (simp; done)) ?_; conv => whnf)
        | (refine idx_nat (by omega) (fun x hx => ?_); conv => whnf)
        | (refine frz_auto ?_; conv => whnf)
        | (refine draw_plain ?_; conv => whnf)
        | (refine idx_intro (by omega) (by omega) (fun x hx => ?_); conv => whnf)
        | (refine idx_intro (by first | omega | (simp; omega) | (simp; done)) (by first | omega | (simp; omega) | (simp; done)) (fun x hx => ?_); conv => whnf)
        | fail
  · cases h
end Go.Proofs.Ytjlfkgffgnkflaa
