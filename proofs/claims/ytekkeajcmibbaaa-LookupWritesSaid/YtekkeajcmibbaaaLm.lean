/-
  The pairs near a key, by the reference.
-/
import Derived.Test.YtekkeajcmibbaaaLma
import Derived.Test.YtekkeajcmibbaaaLda
namespace Go.Proofs.Ytekkeajcmibbaaa
open Av Bk

set_option maxRecDepth 100000 in
theorem fnOk_rfNear : FnOk Try.prog 68 Try.f68 := ⟨by rfl, by kernel_rfl, by
  show okCode _ _ = true ∧ drawsOk _ = true
  exact ⟨by kernel_rfl, by kernel_rfl⟩⟩
noncomputable def cxm1 : Cx := ⟨tb, [], [(45, spAsk), (53, spMap)]⟩
theorem specsm1 : SpecsOk Try.prog cxm1.specs := .cons ref26Asked_ok (.cons rMap_ok .nil)
set_option maxRecDepth 100000 in
set_option maxHeartbeats 4000000 in
theorem rfNear_ok : SpecOk Try.prog 68 spNear := by
  refine spec_body (C := cxm1) mixed tbOk specsm1 (callN_ok (C := cxm1) mixed tbOk specsm1 FnsOk.nil 3) fnOk_rfNear ?_
  intro ys p r h hp
  unfold spNear at h
  split at h
  · rename_i b rs k w bh
    cases h
    by_cases ha : askE b rs k = 0
    · obtain ⟨hg, _⟩ := askE_zero ha
      have hal := all_len hg
      have hml := mapL_len (allE b rs)
      have hgo := near_go (w := w) (bh := bh) ha
      rw [hgo]
      conv => whnf
      repeat' first
        | (refine idx_kn (by assumption) ?_; conv => whnf)
        | (refine idx_ki (by assumption) (by omega) ?_; conv => whnf)
        | (refine br_true (by first | with_reducible exact rfl | assumption | decide) ?_; conv => whnf)
        | (refine br_false (by first | with_reducible exact rfl | assumption | decide) ?_; conv => whnf)
        | ((with_reducible refine br_kt (by assumption) ?_); conv => whnf)
        | ((with_reducible refine br_kf (by assumption) ?_); conv => whnf)
        | ((with_reducible refine br_nt (by assumption) ?_); conv => whnf)
        | ((with_reducible refine br_nf (by assumption) ?_); conv => whnf)
        | ((with_reducible refine br_et (by assumption) ?_); conv => whnf)
        | ((with_reducible refine br_ef (by assumption) ?_); conv => whnf)
        | ((with_reducible refine br_dec (fun h => ?_) (fun h => ?_)) <;> first | (exfalso; omega) | conv => whnf)
        | ((with_reducible refine br_ndec (fun h => ?_) (fun h => ?_)) <;> first | (exfalso; omega) | conv => whnf)
        | ((with_reducible refine br_ne (fun h => ?_) (fun h => ?_)) <;> first | (exfalso; omega) | conv => whnf)
        | ((with_reducible refine br_eq (fun h => ?_) (fun h => ?_)) <;> first | (exfalso; omega) | conv => whnf)
        | (refine br_intro (fun h => ?_) (fun h => ?_) <;> conv => whnf)
        | (refine need_in (by first | exact trivial | assumption | exact ⟨rfl, Nat.le_refl _⟩ | exact ⟨rfl, rfl⟩ | (simp only [inR]; omega) | omega | (simp only [roomP, true_and, and_true, List.length_take, List.length_drop, List.length_append, List.length_cons, List.length_nil, List.length_set, List.length_replicate]; omega) | (refine ⟨by first | exact trivial | rfl, by first | exact Nat.le_refl _ | omega | (simp; omega), ?_⟩; change roomP _ _ 1; simp only [roomP]; omega) | (change roomP _ _ 1; simp only [roomP]; omega) | (simp; omega) | (simp [inR]; omega) | (simp [inR]; done) | decide | (simp; done)) ?_; conv => whnf)
        | (refine idx_nat (by omega) (fun x hx => ?_); conv => whnf)
        | (refine frz_auto ?_; conv => whnf)
        | (refine draw_plain ?_; conv => whnf)
        | (refine idx_intro (by omega) (by omega) (fun x hx => ?_); conv => whnf)
        | (refine idx_intro (by first | omega | (simp; omega) | (simp; done)) (by first | omega | (simp; omega) | (simp; done)) (fun x hx => ?_); conv => whnf)
        | fail
      generalize mapL (allE b rs) = m at hml ⊢
      refine loop_inv [] [12] (fun vs h => ∃ i : Nat, vs = [.int .i64 (i : Int)] ∧ h = [.cells 25 [.lst entT b, .lst runT rs], .cells 73 [.str ⟨#[]⟩, .str ⟨#[]⟩]] ∧ i ≤ m.length ∧ ∀ p ∈ m.take i, plcW w k p = true) (fun vs _ => match vs with | [.int _ k] => m.length - k.toNat | _ => 0) ?_
      conv => whnf
      refine ⟨⟨0, rfl, rfl, by omega, by simp⟩, ?_⟩
      rintro vs h' - ⟨i, rfl, rfl, hi, hall⟩
      have hfin := nP_at (q := plcW w k) hall hi
      by_cases hil : i < m.length
      · obtain ⟨x, hx⟩ : ∃ x, m[i]? = some x := ⟨_, List.getElem?_eq_getElem hil⟩
        have hst : plcW w k x = false → nP (plcW w k) m = i := fun h => hfin (.inr ⟨x, hx, h⟩)
        have hbk : plcW w k x = true → ∀ p ∈ m.take (i + 1), plcW w k p = true := fun h => take_succ_all hall hx h
        cases w <;> cases bh
        all_goals
          conv => whnf
          repeat' first
            | (refine idx_kn (by assumption) ?_; conv => whnf)
            | (refine idx_ki (by assumption) (by omega) ?_; conv => whnf)
            | (refine br_true (by first | with_reducible exact rfl | assumption | decide) ?_; conv => whnf)
            | (refine br_false (by first | with_reducible exact rfl | assumption | decide) ?_; conv => whnf)
            | ((with_reducible refine br_kt (by assumption) ?_); conv => whnf)
            | ((with_reducible refine br_kf (by assumption) ?_); conv => whnf)
            | ((with_reducible refine br_nt (by assumption) ?_); conv => whnf)
            | ((with_reducible refine br_nf (by assumption) ?_); conv => whnf)
            | ((with_reducible refine br_et (by assumption) ?_); conv => whnf)
            | ((with_reducible refine br_ef (by assumption) ?_); conv => whnf)
            | ((with_reducible refine br_dec (fun h => ?_) (fun h => ?_)) <;> first | (exfalso; omega) | conv => whnf)
            | ((with_reducible refine br_ndec (fun h => ?_) (fun h => ?_)) <;> first | (exfalso; omega) | conv => whnf)
            | ((with_reducible refine br_ne (fun h => ?_) (fun h => ?_)) <;> first | (exfalso; omega) | conv => whnf)
            | ((with_reducible refine br_eq (fun h => ?_) (fun h => ?_)) <;> first | (exfalso; omega) | conv => whnf)
            | (refine br_intro (fun h => ?_) (fun h => ?_) <;> conv => whnf)
            | (refine need_in (by first | exact trivial | assumption | exact ⟨rfl, Nat.le_refl _⟩ | exact ⟨rfl, rfl⟩ | (simp only [inR]; omega) | omega | (simp only [roomP, true_and, and_true, List.length_take, List.length_drop, List.length_append, List.length_cons, List.length_nil, List.length_set, List.length_replicate]; omega) | (refine ⟨by first | exact trivial | rfl, by first | exact Nat.le_refl _ | omega | (simp; omega), ?_⟩; change roomP _ _ 1; simp only [roomP]; omega) | (change roomP _ _ 1; simp only [roomP]; omega) | (simp; omega) | (simp [inR]; omega) | (simp [inR]; done) | decide | (simp; done)) ?_; conv => whnf)
            | (refine idx_nat (by omega) (fun x hx => ?_); conv => whnf)
            | (refine frz_auto ?_; conv => whnf)
            | (refine draw_plain ?_; conv => whnf)
            | (refine idx_intro (by omega) (by omega) (fun x hx => ?_); conv => whnf)
            | (refine idx_intro (by first | omega | (simp; omega) | (simp; done)) (by first | omega | (simp; omega) | (simp; done)) (fun x hx => ?_); conv => whnf)
            | fail
        all_goals first
          | exact near_some ((near_b (hst (plc_no (by assumption) (by first | (intro _; assumption) | (intro e; cases e; done))))).trans hx)
          | exact near_some (near_ff (hst (plc_no (by assumption) (by first | (intro _; assumption) | (intro e; cases e; done)))) (by omega) hx)
          | exact near_none ((near_f (hst (plc_no (by assumption) (by first | (intro _; assumption) | (intro e; cases e; done))))).trans (if_pos (by omega)))
          | (refine back_intro (by conv => whnf) rfl ⟨i + 1, rfl, rfl, by omega, hbk (by first | exact plc_lt (by assumption) | exact plc_eq (by assumption))⟩ ?_
             show m.length - ((i : Int) + 1).toNat < m.length - (i : Int).toNat
             omega)
      · have hn := hfin (.inl (by omega))
        cases bh with
        | true =>
          conv => whnf
          repeat' first
            | (refine idx_kn (by assumption) ?_; conv => whnf)
            | (refine idx_ki (by assumption) (by omega) ?_; conv => whnf)
            | (refine br_true (by first | with_reducible exact rfl | assumption | decide) ?_; conv => whnf)
            | (refine br_false (by first | with_reducible exact rfl | assumption | decide) ?_; conv => whnf)
            | ((with_reducible refine br_kt (by assumption) ?_); conv => whnf)
            | ((with_reducible refine br_kf (by assumption) ?_); conv => whnf)
            | ((with_reducible refine br_nt (by assumption) ?_); conv => whnf)
            | ((with_reducible refine br_nf (by assumption) ?_); conv => whnf)
            | ((with_reducible refine br_et (by assumption) ?_); conv => whnf)
            | ((with_reducible refine br_ef (by assumption) ?_); conv => whnf)
            | ((with_reducible refine br_dec (fun h => ?_) (fun h => ?_)) <;> first | (exfalso; omega) | conv => whnf)
            | ((with_reducible refine br_ndec (fun h => ?_) (fun h => ?_)) <;> first | (exfalso; omega) | conv => whnf)
            | ((with_reducible refine br_ne (fun h => ?_) (fun h => ?_)) <;> first | (exfalso; omega) | conv => whnf)
            | ((with_reducible refine br_eq (fun h => ?_) (fun h => ?_)) <;> first | (exfalso; omega) | conv => whnf)
            | (refine br_intro (fun h => ?_) (fun h => ?_) <;> conv => whnf)
            | (refine need_in (by first | exact trivial | assumption | exact ⟨rfl, Nat.le_refl _⟩ | exact ⟨rfl, rfl⟩ | (simp only [inR]; omega) | omega | (simp only [roomP, true_and, and_true, List.length_take, List.length_drop, List.length_append, List.length_cons, List.length_nil, List.length_set, List.length_replicate]; omega) | (refine ⟨by first | exact trivial | rfl, by first | exact Nat.le_refl _ | omega | (simp; omega), ?_⟩; change roomP _ _ 1; simp only [roomP]; omega) | (change roomP _ _ 1; simp only [roomP]; omega) | (simp; omega) | (simp [inR]; omega) | (simp [inR]; done) | decide | (simp; done)) ?_; conv => whnf)
            | (refine idx_nat (by omega) (fun x hx => ?_); conv => whnf)
            | (refine frz_auto ?_; conv => whnf)
            | (refine draw_plain ?_; conv => whnf)
            | (refine idx_intro (by omega) (by omega) (fun x hx => ?_); conv => whnf)
            | (refine idx_intro (by first | omega | (simp; omega) | (simp; done)) (by first | omega | (simp; omega) | (simp; done)) (fun x hx => ?_); conv => whnf)
            | fail
          exact near_none ((near_b hn).trans (List.getElem?_eq_none (by omega)))
        | false =>
          conv => whnf
          repeat' first
            | (refine idx_kn (by assumption) ?_; conv => whnf)
            | (refine idx_ki (by assumption) (by omega) ?_; conv => whnf)
            | (refine br_true (by first | with_reducible exact rfl | assumption | decide) ?_; conv => whnf)
            | (refine br_false (by first | with_reducible exact rfl | assumption | decide) ?_; conv => whnf)
            | ((with_reducible refine br_kt (by assumption) ?_); conv => whnf)
            | ((with_reducible refine br_kf (by assumption) ?_); conv => whnf)
            | ((with_reducible refine br_nt (by assumption) ?_); conv => whnf)
            | ((with_reducible refine br_nf (by assumption) ?_); conv => whnf)
            | ((with_reducible refine br_et (by assumption) ?_); conv => whnf)
            | ((with_reducible refine br_ef (by assumption) ?_); conv => whnf)
            | ((with_reducible refine br_dec (fun h => ?_) (fun h => ?_)) <;> first | (exfalso; omega) | conv => whnf)
            | ((with_reducible refine br_ndec (fun h => ?_) (fun h => ?_)) <;> first | (exfalso; omega) | conv => whnf)
            | ((with_reducible refine br_ne (fun h => ?_) (fun h => ?_)) <;> first | (exfalso; omega) | conv => whnf)
            | ((with_reducible refine br_eq (fun h => ?_) (fun h => ?_)) <;> first | (exfalso; omega) | conv => whnf)
            | (refine br_intro (fun h => ?_) (fun h => ?_) <;> conv => whnf)
            | (refine need_in (by first | exact trivial | assumption | exact ⟨rfl, Nat.le_refl _⟩ | exact ⟨rfl, rfl⟩ | (simp only [inR]; omega) | omega | (simp only [roomP, true_and, and_true, List.length_take, List.length_drop, List.length_append, List.length_cons, List.length_nil, List.length_set, List.length_replicate]; omega) | (refine ⟨by first | exact trivial | rfl, by first | exact Nat.le_refl _ | omega | (simp; omega), ?_⟩; change roomP _ _ 1; simp only [roomP]; omega) | (change roomP _ _ 1; simp only [roomP]; omega) | (simp; omega) | (simp [inR]; omega) | (simp [inR]; done) | decide | (simp; done)) ?_; conv => whnf)
            | (refine idx_nat (by omega) (fun x hx => ?_); conv => whnf)
            | (refine frz_auto ?_; conv => whnf)
            | (refine draw_plain ?_; conv => whnf)
            | (refine idx_intro (by omega) (by omega) (fun x hx => ?_); conv => whnf)
            | (refine idx_intro (by first | omega | (simp; omega) | (simp; done)) (by first | omega | (simp; omega) | (simp; done)) (fun x hx => ?_); conv => whnf)
            | fail
          · exact near_some (near_ff hn (by omega) hx)
          · exact near_none ((near_f hn).trans (if_pos (by omega)))
    · conv => whnf
      repeat' first
        | (refine idx_kn (by assumption) ?_; conv => whnf)
        | (refine idx_ki (by assumption) (by omega) ?_; conv => whnf)
        | (refine br_true (by first | with_reducible exact rfl | assumption | decide) ?_; conv => whnf)
        | (refine br_false (by first | with_reducible exact rfl | assumption | decide) ?_; conv => whnf)
        | ((with_reducible refine br_kt (by assumption) ?_); conv => whnf)
        | ((with_reducible refine br_kf (by assumption) ?_); conv => whnf)
        | ((with_reducible refine br_nt (by assumption) ?_); conv => whnf)
        | ((with_reducible refine br_nf (by assumption) ?_); conv => whnf)
        | ((with_reducible refine br_et (by assumption) ?_); conv => whnf)
        | ((with_reducible refine br_ef (by assumption) ?_); conv => whnf)
        | ((with_reducible refine br_dec (fun h => ?_) (fun h => ?_)) <;> first | (exfalso; omega) | conv => whnf)
        | ((with_reducible refine br_ndec (fun h => ?_) (fun h => ?_)) <;> first | (exfalso; omega) | conv => whnf)
        | ((with_reducible refine br_ne (fun h => ?_) (fun h => ?_)) <;> first | (exfalso; omega) | conv => whnf)
        | ((with_reducible refine br_eq (fun h => ?_) (fun h => ?_)) <;> first | (exfalso; omega) | conv => whnf)
        | (refine br_intro (fun h => ?_) (fun h => ?_) <;> conv => whnf)
        | (refine need_in (by first | exact trivial | assumption | exact ⟨rfl, Nat.le_refl _⟩ | exact ⟨rfl, rfl⟩ | (simp only [inR]; omega) | omega | (simp only [roomP, true_and, and_true, List.length_take, List.length_drop, List.length_append, List.length_cons, List.length_nil, List.length_set, List.length_replicate]; omega) | (refine ⟨by first | exact trivial | rfl, by first | exact Nat.le_refl _ | omega | (simp; omega), ?_⟩; change roomP _ _ 1; simp only [roomP]; omega) | (change roomP _ _ 1; simp only [roomP]; omega) | (simp; omega) | (simp [inR]; omega) | (simp [inR]; done) | decide | (simp; done)) ?_; conv => whnf)
        | (refine idx_nat (by omega) (fun x hx => ?_); conv => whnf)
        | (refine frz_auto ?_; conv => whnf)
        | (refine draw_plain ?_; conv => whnf)
        | (refine idx_intro (by omega) (by omega) (fun x hx => ?_); conv => whnf)
        | (refine idx_intro (by first | omega | (simp; omega) | (simp; done)) (by first | omega | (simp; omega) | (simp; done)) (fun x hx => ?_); conv => whnf)
        | fail
      rw [near_ask ha]
  · cases h
end Go.Proofs.Ytekkeajcmibbaaa
