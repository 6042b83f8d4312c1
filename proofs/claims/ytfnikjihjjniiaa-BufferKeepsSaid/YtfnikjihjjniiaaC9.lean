/-
  The law of writes into a buffer.
-/
import Derived.Test.YtfnikjihjjniiaaC8
namespace Go.Proofs.Ytfnikjihjjniiaa
open Av Bk

theorem wr_len (m : Int) : ∀ (l out : List entT.El) (w : Int), (wrGo m l out w).1.length ≤ out.length + l.length
  | [], out, w => by simp [wrGo]
  | x :: l, out, w => by
    have h1 := wr_len m l (put1 out x) (w + wk1 out x)
    have h2 := (put1_ge out x).2
    rw [wrGo]
    split
    · simp only [List.length_cons]; omega
    · split
      · simp only [List.length_cons]; omega
      · simp only [List.length_cons]; omega
theorem bt_len (m : Int) (b l : List entT.El) : (bt m b l).2.1.length ≤ b.length + l.length := by
  have := wr_len m l b 0
  unfold bt
  split
  · simp
  · split
    · simp
    · exact this
theorem fnOk_lWr : FnOk Try.prog 3 Try.f3 := ⟨by rfl, by kernel_rfl, by
  show okCode _ _ = true ∧ drawsOk _ = true
  exact ⟨by kernel_rfl, by kernel_rfl⟩⟩
noncomputable def lWr_C : Cx := ⟨tb, [], [(11, spShown), (10, spLong), (12, spFits), (13, spFits), (14, spBatch), (15, spBatch), (17, spWr1), (18, spWr1), (16, spBSame)]⟩
theorem lWr_D : SpecsOk Try.prog lWr_C.specs := .cons shown_ok (.cons lLong_ok (.cons bFits_ok (.cons rFits_ok (.cons bBatch_ok (.cons rBatch_ok (.cons bWr1_ok (.cons rWr1_ok (.cons rSame_ok .nil))))))))
theorem lWr_F : FnsOk Try.prog lWr_C.fns := FnsOk.nil
abbrev lWr_N : Nat := 0
abbrev lWr_T : List Ty := [bufT, .sl entT]
abbrev lWr_FN := fnOk_lWr
set_option maxRecDepth 100000 in
set_option maxHeartbeats 8000000 in
theorem lWr' (m : Int) (b l : List entT.El) : bodyA lWr_C (callN lWr_C lWr_N) Try.f3 [.agg [.int .i64 m, .lst entT b], .lst entT l] [] (fun v _ => v = .bool true) := by
  have hlb := @longL_len b
  have hll := @longL_len l
  have hbt := bt_len m b l
  by_cases h1 : longL b = true
  · conv => whnf
    repeat' first
      | (refine br_true (by first | with_reducible exact rfl | assumption | decide) ?_; conv => whnf)
      | (refine br_false (by first | with_reducible exact rfl | assumption | decide) ?_; conv => whnf)
      | ((with_reducible refine br_kt (by assumption) ?_); conv => whnf)
      | ((with_reducible refine br_kf (by assumption) ?_); conv => whnf)
      | ((with_reducible refine br_nt (by assumption) ?_); conv => whnf)
      | ((with_reducible refine br_nf (by assumption) ?_); conv => whnf)
      | ((with_reducible refine br_et (by assumption) ?_); conv => whnf)
      | ((with_reducible refine br_ef (by assumption) ?_); conv => whnf)
      | ((with_reducible refine br_dec (fun h => ?_) (fun h => ?_)) <;> first | (exfalso; omega) | conv => whnf)
      | ((with_reducible refine br_ndec (fun h => ?_) (fun h => ?_)) <;> first | (exfalso; omega) | conv => whnf)
      | ((with_reducible refine br_ne (fun h => ?_) (fun h => ?_)) <;> first | (exfalso; omega) | conv => whnf)
      | ((with_reducible refine br_eq (fun h => ?_) (fun h => ?_)) <;> first | (exfalso; omega) | conv => whnf)
      | (refine br_intro (fun h => ?_) (fun h => ?_) <;> conv => whnf)
      | (refine need_in (by first | exact trivial | assumption | exact ⟨rfl, Nat.le_refl _⟩ | exact ⟨rfl, rfl⟩ | (simp only [inR]; omega) | omega | (simp only [roomP, true_and, and_true, List.length_take, List.length_drop, List.length_append, List.length_cons, List.length_nil, List.length_set, List.length_replicate]; omega) | (refine ⟨by first | exact trivial | rfl, by first | exact Nat.le_refl _ | omega, ?_⟩; change roomP _ _ 1; simp only [roomP]; omega) | (change roomP _ _ 1; simp only [roomP]; omega) | (simp; omega) | (simp [inR]; omega) | (simp [inR]; done) | decide | (simp; done)) ?_; conv => whnf)
      | (refine idx_nat (by omega) (fun x hx => ?_); conv => whnf)
      | (refine frz_auto ?_; conv => whnf)
      | (refine draw_plain ?_; conv => whnf)
      | (refine idx_intro (by omega) (by omega) (fun x hx => ?_); conv => whnf)
      | (refine idx_intro (by first | omega | (simp; omega) | (simp; done)) (by first | omega | (simp; omega) | (simp; done)) (fun x hx => ?_); conv => whnf)
      | fail
  · have h1 : longL b = false := by simpa using h1
    by_cases h2 : longL l = true
    · conv => whnf
      repeat' first
        | (refine br_true (by first | with_reducible exact rfl | assumption | decide) ?_; conv => whnf)
        | (refine br_false (by first | with_reducible exact rfl | assumption | decide) ?_; conv => whnf)
        | ((with_reducible refine br_kt (by assumption) ?_); conv => whnf)
        | ((with_reducible refine br_kf (by assumption) ?_); conv => whnf)
        | ((with_reducible refine br_nt (by assumption) ?_); conv => whnf)
        | ((with_reducible refine br_nf (by assumption) ?_); conv => whnf)
        | ((with_reducible refine br_et (by assumption) ?_); conv => whnf)
        | ((with_reducible refine br_ef (by assumption) ?_); conv => whnf)
        | ((with_reducible refine br_dec (fun h => ?_) (fun h => ?_)) <;> first | (exfalso; omega) | conv => whnf)
        | ((with_reducible refine br_ndec (fun h => ?_) (fun h => ?_)) <;> first | (exfalso; omega) | conv => whnf)
        | ((with_reducible refine br_ne (fun h => ?_) (fun h => ?_)) <;> first | (exfalso; omega) | conv => whnf)
        | ((with_reducible refine br_eq (fun h => ?_) (fun h => ?_)) <;> first | (exfalso; omega) | conv => whnf)
        | (refine br_intro (fun h => ?_) (fun h => ?_) <;> conv => whnf)
        | (refine need_in (by first | exact trivial | assumption | exact ⟨rfl, Nat.le_refl _⟩ | exact ⟨rfl, rfl⟩ | (simp only [inR]; omega) | omega | (simp only [roomP, true_and, and_true, List.length_take, List.length_drop, List.length_append, List.length_cons, List.length_nil, List.length_set, List.length_replicate]; omega) | (refine ⟨by first | exact trivial | rfl, by first | exact Nat.le_refl _ | omega, ?_⟩; change roomP _ _ 1; simp only [roomP]; omega) | (change roomP _ _ 1; simp only [roomP]; omega) | (simp; omega) | (simp [inR]; omega) | (simp [inR]; done) | decide | (simp; done)) ?_; conv => whnf)
        | (refine idx_nat (by omega) (fun x hx => ?_); conv => whnf)
        | (refine frz_auto ?_; conv => whnf)
        | (refine draw_plain ?_; conv => whnf)
        | (refine idx_intro (by omega) (by omega) (fun x hx => ?_); conv => whnf)
        | (refine idx_intro (by first | omega | (simp; omega) | (simp; done)) (by first | omega | (simp; omega) | (simp; done)) (fun x hx => ?_); conv => whnf)
        | fail
    · have h2 : longL l = false := by simpa using h2
      have hb := hlb h1
      have hl := hll h2
      have hneed : (bt m b l).2.1.length ≤ 4611686018427387904 := by omega
      have hs : ((bt m b l).1 == (bt m b l).1 && sameL entT (bt m b l).2.1 (bt m b l).2.1) = true := by rw [beq_self_eq_true, same_refl]; rfl
      have hs' : (!((bt m b l).1 == (bt m b l).1 && sameL entT (bt m b l).2.1 (bt m b l).2.1)) = false := by rw [hs]; rfl
      conv => whnf
      repeat' first
        | (refine br_true (by first | with_reducible exact rfl | assumption | decide) ?_; conv => whnf)
        | (refine br_false (by first | with_reducible exact rfl | assumption | decide) ?_; conv => whnf)
        | ((with_reducible refine br_kt (by assumption) ?_); conv => whnf)
        | ((with_reducible refine br_kf (by assumption) ?_); conv => whnf)
        | ((with_reducible refine br_nt (by assumption) ?_); conv => whnf)
        | ((with_reducible refine br_nf (by assumption) ?_); conv => whnf)
        | ((with_reducible refine br_et (by assumption) ?_); conv => whnf)
        | ((with_reducible refine br_ef (by assumption) ?_); conv => whnf)
        | ((with_reducible refine br_dec (fun h => ?_) (fun h => ?_)) <;> first | (exfalso; omega) | conv => whnf)
        | ((with_reducible refine br_ndec (fun h => ?_) (fun h => ?_)) <;> first | (exfalso; omega) | conv => whnf)
        | ((with_reducible refine br_ne (fun h => ?_) (fun h => ?_)) <;> first | (exfalso; omega) | conv => whnf)
        | ((with_reducible refine br_eq (fun h => ?_) (fun h => ?_)) <;> first | (exfalso; omega) | conv => whnf)
        | (refine br_intro (fun h => ?_) (fun h => ?_) <;> conv => whnf)
        | (refine need_in (by first | exact trivial | assumption | exact ⟨rfl, Nat.le_refl _⟩ | exact ⟨rfl, rfl⟩ | (simp only [inR]; omega) | omega | (simp only [roomP, true_and, and_true, List.length_take, List.length_drop, List.length_append, List.length_cons, List.length_nil, List.length_set, List.length_replicate]; omega) | (refine ⟨by first | exact trivial | rfl, by first | exact Nat.le_refl _ | omega, ?_⟩; change roomP _ _ 1; simp only [roomP]; omega) | (change roomP _ _ 1; simp only [roomP]; omega) | (simp; omega) | (simp [inR]; omega) | (simp [inR]; done) | decide | (simp; done)) ?_; conv => whnf)
        | (refine idx_nat (by omega) (fun x hx => ?_); conv => whnf)
        | (refine frz_auto ?_; conv => whnf)
        | (refine draw_plain ?_; conv => whnf)
        | (refine idx_intro (by omega) (by omega) (fun x hx => ?_); conv => whnf)
        | (refine idx_intro (by first | omega | (simp; omega) | (simp; done)) (by first | omega | (simp; omega) | (simp; done)) (fun x hx => ?_); conv => whnf)
        | fail
      · exact absurd h (by simp)
      refine loop_inv [] [15] (fun vs h => ∃ i : Nat, vs = [.int .i64 (i : Int)] ∧ h = [.cells 24 [.int .i64 m, .lst entT b], .cells 24 [.int .i64 (bt m b l).1, .lst entT (bt m b l).2.1], .cells 24 [.int .i64 (bt m b l).1, .lst entT (bt m b l).2.1]] ∧ i ≤ l.length) (fun vs _ => match vs with | [.int _ k] => l.length - k.toNat | _ => 0) ?_
      refine ⟨⟨0, rfl, rfl, Nat.zero_le _⟩, ?_⟩
      rintro vs h' - ⟨i, rfl, rfl, hi⟩
      by_cases hil : i < l.length
      · obtain ⟨y, hy⟩ : ∃ y, l[i]? = some y := ⟨_, List.getElem?_eq_getElem hil⟩
        have hn1 : (bt m b [mkE y.1 y.2.1 y.2.2.1 y.2.2.2.1]).2.1.length ≤ 4611686018427387904 := by
          have := bt_len m b [mkE y.1 y.2.1 y.2.2.1 y.2.2.2.1]
          simp only [List.length_cons, List.length_nil] at this
          omega
        have hn2 : (!((bt m b [mkE y.1 y.2.1 y.2.2.1 y.2.2.2.1]).1 == (bt m b [mkE y.1 y.2.1 y.2.2.1 y.2.2.2.1]).1 && sameL entT (bt m b [mkE y.1 y.2.1 y.2.2.1 y.2.2.2.1]).2.1 (bt m b [mkE y.1 y.2.1 y.2.2.1 y.2.2.2.1]).2.1)) = false := by
          rw [beq_self_eq_true, same_refl]; rfl
        conv => whnf
        repeat' first
          | (refine idx_kn (by assumption) ?_; conv => whnf)
          | (refine br_true (by first | with_reducible exact rfl | assumption | decide) ?_; conv => whnf)
          | (refine br_false (by first | with_reducible exact rfl | assumption | decide) ?_; conv => whnf)
          | ((with_reducible refine br_kt (by assumption) ?_); conv => whnf)
          | ((with_reducible refine br_kf (by assumption) ?_); conv => whnf)
          | ((with_reducible refine br_nt (by assumption) ?_); conv => whnf)
          | ((with_reducible refine br_nf (by assumption) ?_); conv => whnf)
          | ((with_reducible refine br_et (by assumption) ?_); conv => whnf)
          | ((with_reducible refine br_ef (by assumption) ?_); conv => whnf)
          | ((with_reducible refine br_dec (fun h => ?_) (fun h => ?_)) <;> first | (exfalso; omega) | conv => whnf)
          | ((with_reducible refine br_ndec (fun h => ?_) (fun h => ?_)) <;> first | (exfalso; omega) | conv => whnf)
          | ((with_reducible refine br_ne (fun h => ?_) (fun h => ?_)) <;> first | (exfalso; omega) | conv => whnf)
          | ((with_reducible refine br_eq (fun h => ?_) (fun h => ?_)) <;> first | (exfalso; omega) | conv => whnf)
          | (refine br_intro (fun h => ?_) (fun h => ?_) <;> conv => whnf)
          | (refine need_in (by first | exact trivial | assumption | exact ⟨rfl, Nat.le_refl _⟩ | exact ⟨rfl, rfl⟩ | (simp only [inR]; omega) | omega | (simp only [roomP, true_and, and_true, List.length_take, List.length_drop, List.length_append, List.length_cons, List.length_nil, List.length_set, List.length_replicate]; omega) | (refine ⟨by first | exact trivial | rfl, by first | exact Nat.le_refl _ | omega, ?_⟩; change roomP _ _ 1; simp only [roomP]; omega) | (change roomP _ _ 1; simp only [roomP]; omega) | (simp; omega) | (simp [inR]; omega) | (simp [inR]; done) | decide | (simp; done)) ?_; conv => whnf)
          | (refine idx_nat (by omega) (fun x hx => ?_); conv => whnf)
          | (refine frz_auto ?_; conv => whnf)
          | (refine draw_plain ?_; conv => whnf)
          | (refine idx_intro (by omega) (by omega) (fun x hx => ?_); conv => whnf)
          | (refine idx_intro (by first | omega | (simp; omega) | (simp; done)) (by first | omega | (simp; omega) | (simp; done)) (fun x hx => ?_); conv => whnf)
          | fail
        all_goals first
          | (refine back_intro (by conv => whnf) rfl ⟨i + 1, rfl, rfl, by omega⟩ ?_
             show l.length - ((i : Int) + 1).toNat < l.length - (i : Int).toNat
             omega)
          | exact absurd (h.symm.trans hn2) (by decide)
      · conv => whnf
        repeat' first
          | (refine br_true (by first | with_reducible exact rfl | assumption | decide) ?_; conv => whnf)
          | (refine br_false (by first | with_reducible exact rfl | assumption | decide) ?_; conv => whnf)
          | ((with_reducible refine br_kt (by assumption) ?_); conv => whnf)
          | ((with_reducible refine br_kf (by assumption) ?_); conv => whnf)
          | ((with_reducible refine br_nt (by assumption) ?_); conv => whnf)
          | ((with_reducible refine br_nf (by assumption) ?_); conv => whnf)
          | ((with_reducible refine br_et (by assumption) ?_); conv => whnf)
          | ((with_reducible refine br_ef (by assumption) ?_); conv => whnf)
          | ((with_reducible refine br_dec (fun h => ?_) (fun h => ?_)) <;> first | (exfalso; omega) | conv => whnf)
          | ((with_reducible refine br_ndec (fun h => ?_) (fun h => ?_)) <;> first | (exfalso; omega) | conv => whnf)
          | ((with_reducible refine br_ne (fun h => ?_) (fun h => ?_)) <;> first | (exfalso; omega) | conv => whnf)
          | ((with_reducible refine br_eq (fun h => ?_) (fun h => ?_)) <;> first | (exfalso; omega) | conv => whnf)
          | (refine br_intro (fun h => ?_) (fun h => ?_) <;> conv => whnf)
          | (refine need_in (by first | exact trivial | assumption | exact ⟨rfl, Nat.le_refl _⟩ | exact ⟨rfl, rfl⟩ | (simp only [inR]; omega) | omega | (simp only [roomP, true_and, and_true, List.length_take, List.length_drop, List.length_append, List.length_cons, List.length_nil, List.length_set, List.length_replicate]; omega) | (refine ⟨by first | exact trivial | rfl, by first | exact Nat.le_refl _ | omega, ?_⟩; change roomP _ _ 1; simp only [roomP]; omega) | (change roomP _ _ 1; simp only [roomP]; omega) | (simp; omega) | (simp [inR]; omega) | (simp [inR]; done) | decide | (simp; done)) ?_; conv => whnf)
          | (refine idx_nat (by omega) (fun x hx => ?_); conv => whnf)
          | (refine frz_auto ?_; conv => whnf)
          | (refine draw_plain ?_; conv => whnf)
          | (refine idx_intro (by omega) (by omega) (fun x hx => ?_); conv => whnf)
          | (refine idx_intro (by first | omega | (simp; omega) | (simp; done)) (by first | omega | (simp; omega) | (simp; done)) (fun x hx => ?_); conv => whnf)
          | fail
theorem lWr : ∀ es : Ty.Els lWr_T, tyOks lWr_T es → bodyA lWr_C (callN lWr_C lWr_N) Try.f3 (avTs lWr_T es) [] (fun v _ => v = .bool true) := by
  rintro ⟨⟨m, b, _⟩, l, _⟩ -
  exact lWr' m b l
end Go.Proofs.Ytfnikjihjjniiaa
