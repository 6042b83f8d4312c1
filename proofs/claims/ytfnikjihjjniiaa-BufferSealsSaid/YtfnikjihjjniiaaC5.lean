/-
  Batches of writes into a buffer.
-/
import Derived.Test.YtfnikjihjjniiaaC4
namespace Go.Proofs.Ytfnikjihjjniiaa
open Av Bk

def asE (m : Int) (b l : List entT.El) : Int := if (chB m b).2 ≠ 0 then (chB m b).2 else if 16 < l.length then 3 else errGo l
theorem errGo_nil {l : List entT.El} (h : errGo l = 0) : ∀ x ∈ l, errX x = 0 := by
  induction l with
  | nil => simp
  | cons y l ih =>
    simp only [errGo] at h
    split at h
    · rename_i hy
      intro x hx
      rcases List.mem_cons.1 hx with rfl | hx
      · exact hy
      · exact ih h x hx
    · rename_i hy; exact absurd h hy
theorem clGo_zero : ∀ {l : List entT.El} {i : Int} {pv : Option ByteArray}, (clGo pv i l).2 = 0 → (∀ x ∈ l, errX x = 0) ∧ ascS l ∧ ∀ x, l[0]? = some x → falls pv x = false
  | [], _, _, _ => ⟨by simp, fun k x y h => by simp at h, by simp⟩
  | y :: l, i, pv, h => by
    rw [clGo] at h
    split at h
    · rename_i he; exact absurd h he
    · rename_i he
      split at h
      · cases h
      · rename_i hf
        obtain ⟨h1, h2, h3⟩ := clGo_zero h
        refine ⟨fun x hx => ?_, fun k a b ha hb => ?_, fun x hx => ?_⟩
        · rcases List.mem_cons.1 hx with rfl | hx
          · simpa using he
          · exact h1 x hx
        · cases k with
          | zero =>
            cases ha
            have := h3 b (by simpa using hb)
            simpa [falls] using this
          | succ k => exact h2 k a b (by simpa using ha) (by simpa using hb)
        · cases hx
          simpa using hf
theorem chB_zero {m : Int} {b : List entT.El} (h : (chB m b).2 = 0) : 1 ≤ m ∧ m ≤ 16 ∧ (b.length : Int) ≤ m ∧ ascS b ∧ ∀ x ∈ b, errX x = 0 := by
  unfold chB at h
  split at h
  · cases h
  · split at h
    · cases h
    · obtain ⟨h1, h2, _⟩ := clGo_zero h
      exact ⟨by omega, by omega, by omega, h2, h1⟩
theorem asE_zero {m : Int} {b l : List entT.El} (h : asE m b l = 0) : (chB m b).2 = 0 ∧ l.length ≤ 16 ∧ errGo l = 0 := by
  unfold asE at h
  split at h
  · rename_i h1; exact absurd h h1
  · rename_i h1
    split at h
    · cases h
    · exact ⟨by simpa using h1, by omega, h⟩
theorem asE_wr {m : Int} {b l : List entT.El} (h : asE m b l = 0) : 0 ≤ m ∧ m ≤ 1000 ∧ (b.length : Int) ≤ m ∧ ascS b ∧ l.length ≤ 100000 := by
  obtain ⟨h1, h2, h3⟩ := asE_zero h
  obtain ⟨a1, a2, a3, a4, _⟩ := chB_zero h1
  exact ⟨by omega, by omega, a3, a4, by omega⟩
def spAsk : DSpec
  | [.agg [.int .i64 m, .lst (.st [.str, .str, .bool, .int .i64]) b], .lst (.st [.str, .str, .bool, .int .i64]) l] => some (True, .int .i64 (asE m b l))
  | _ => none
theorem fnOk_bAsk : FnOk Try.prog 31 Try.f31 := ⟨by rfl, by kernel_rfl, by
  show okCode _ _ = true ∧ drawsOk _ = true
  exact ⟨by kernel_rfl, by kernel_rfl⟩⟩
noncomputable def cx32 : Cx := ⟨tb, [], [(24, spChB), (36, spCheck)]⟩
theorem specs32 : SpecsOk Try.prog cx32.specs := .cons bChk_ok (.cons entCheck_ok .nil)
set_option maxRecDepth 100000 in
set_option maxHeartbeats 4000000 in
theorem bAsk_ok : SpecOk Try.prog 31 spAsk := by
  refine spec_body (C := cx32) mixed tbOk specs32 (callN_ok (C := cx32) mixed tbOk specs32 FnsOk.nil 0) fnOk_bAsk ?_
  intro ys p r h hp
  unfold spAsk at h
  split at h
  · rename_i m b l
    cases h
    conv => whnf
    repeat' first
      | (refine br_true (by first | with_reducible exact rfl | assumption | decide) ?_; conv => whnf)
      | (refine br_false (by first | with_reducible exact rfl | assumption | decide) ?_; conv => whnf)
      | ((with_reducible refine br_kt (by assumption) ?_); conv => whnf)
      | ((with_reducible refine br_kf (by assumption) ?_); conv => whnf)
      | ((with_reducible refine br_nt (by assumption) ?_); conv => whnf)
      | ((with_reducible refine br_nf (by assumption) ?_); conv => whnf)
      | ((with_reducible refine br_et (by assumption) ?_); conv => whnf)
      | ((with_reducible refine br_ef (by assumption) ?_); conv => whnf)
      | ((with_reducible refine br_dec (fun h => ?_) (fun h => ?_)) <;> first | (exfalso; omega) | conv => whnf)
      | ((with_reducible refine br_ndec (fun h => ?_) (fun h => ?_)) <;> first | (exfalso; omega) | conv => whnf)
      | ((with_reducible refine br_ne (fun h => ?_) (fun h => ?_)) <;> first | (exfalso; omega) | conv => whnf)
      | ((with_reducible refine br_eq (fun h => ?_) (fun h => ?_)) <;> first | (exfalso; omega) | conv => whnf)
      | (refine br_intro (fun h => ?_) (fun h => ?_) <;> conv => whnf)
      | (refine need_in (by first | exact trivial | assumption | exact ⟨rfl, Nat.le_refl _⟩ | exact ⟨rfl, rfl⟩ | (simp only [inR]; omega) | omega | (simp only [roomP, true_and, and_true, List.length_take, List.length_drop, List.length_append, List.length_cons, List.length_nil, List.length_set, List.length_replicate]; omega) | (refine ⟨by first | exact trivial | rfl, by first | exact Nat.le_refl _ | omega, ?_⟩; change roomP _ _ 1; simp only [roomP]; omega) | (change roomP _ _ 1; simp only [roomP]; omega) | (simp; omega) | (simp [inR]; omega) | (simp [inR]; done) | decide | (simp; done)) ?_; conv => whnf)
      | (refine idx_nat (by omega) (fun x hx => ?_); conv => whnf)
      | (refine frz_auto ?_; conv => whnf)
      | (refine draw_plain ?_; conv => whnf)
      | (refine idx_intro (by omega) (by omega) (fun x hx => ?_); conv => whnf)
      | (refine idx_intro (by first | omega | (simp; omega) | (simp; done)) (by first | omega | (simp; omega) | (simp; done)) (fun x hx => ?_); conv => whnf)
      | fail
    · rw [asE, if_pos h]
    · rename_i h1
      rw [asE, if_neg (by simpa using h1), if_pos (by omega)]
    · rename_i h1
      have hE : asE m b l = errGo l := by rw [asE, if_neg (by simpa using h1), if_neg (by omega)]
      rw [hE]
      refine loop_inv [] [23] (fun vs h => ∃ i : Nat, vs = [.int .i64 (i : Int)] ∧ h = [.cells 24 [.int .i64 m, .lst entT b]] ∧ i ≤ l.length ∧ ∀ x ∈ l.take i, errX x = 0) (fun vs _ => match vs with | [.int _ k] => l.length - k.toNat | _ => 0) ?_
      refine ⟨⟨0, rfl, rfl, by omega, by simp⟩, ?_⟩
      rintro vs h' - ⟨i, rfl, rfl, hi, hall⟩
      conv => whnf
      repeat' first
        | (refine br_true (by first | with_reducible exact rfl | assumption | decide) ?_; conv => whnf)
        | (refine br_false (by first | with_reducible exact rfl | assumption | decide) ?_; conv => whnf)
        | ((with_reducible refine br_kt (by assumption) ?_); conv => whnf)
        | ((with_reducible refine br_kf (by assumption) ?_); conv => whnf)
        | ((with_reducible refine br_nt (by assumption) ?_); conv => whnf)
        | ((with_reducible refine br_nf (by assumption) ?_); conv => whnf)
        | ((with_reducible refine br_et (by assumption) ?_); conv => whnf)
        | ((with_reducible refine br_ef (by assumption) ?_); conv => whnf)
        | ((with_reducible refine br_dec (fun h => ?_) (fun h => ?_)) <;> first | (exfalso; omega) | conv => whnf)
        | ((with_reducible refine br_ndec (fun h => ?_) (fun h => ?_)) <;> first | (exfalso; omega) | conv => whnf)
        | ((with_reducible refine br_ne (fun h => ?_) (fun h => ?_)) <;> first | (exfalso; omega) | conv => whnf)
        | ((with_reducible refine br_eq (fun h => ?_) (fun h => ?_)) <;> first | (exfalso; omega) | conv => whnf)
        | (refine br_intro (fun h => ?_) (fun h => ?_) <;> conv => whnf)
        | (refine need_in (by first | exact trivial | assumption | exact ⟨rfl, Nat.le_refl _⟩ | exact ⟨rfl, rfl⟩ | (simp only [inR]; omega) | omega | (simp only [roomP, true_and, and_true, List.length_take, List.length_drop, List.length_append, List.length_cons, List.length_nil, List.length_set, List.length_replicate]; omega) | (refine ⟨by first | exact trivial | rfl, by first | exact Nat.le_refl _ | omega, ?_⟩; change roomP _ _ 1; simp only [roomP]; omega) | (change roomP _ _ 1; simp only [roomP]; omega) | (simp; omega) | (simp [inR]; omega) | (simp [inR]; done) | decide | (simp; done)) ?_; conv => whnf)
        | (refine idx_nat (by omega) (fun x hx => ?_); conv => whnf)
        | (refine frz_auto ?_; conv => whnf)
        | (refine draw_plain ?_; conv => whnf)
        | (refine idx_intro (by omega) (by omega) (fun x hx => ?_); conv => whnf)
        | (refine idx_intro (by first | omega | (simp; omega) | (simp; done)) (by first | omega | (simp; omega) | (simp; done)) (fun x hx => ?_); conv => whnf)
        | fail
      · exact congrArg (AV.int .i64) (errGo_at l i x hall hx h).symm
      · refine back_intro (by conv => whnf) rfl ⟨i + 1, rfl, rfl, by omega, take_succ_all hall hx h⟩ ?_
        show l.length - ((i : Int) + 1).toNat < l.length - (i : Int).toNat
        omega
      · refine congrArg (AV.int .i64) (errGo_zero l (fun y hy => hall y ?_)).symm
        rw [show i = l.length by omega, List.take_length]
        exact hy
  · cases h
def spFits : DSpec
  | [.agg [.int .i64 m, .lst (.st [.str, .str, .bool, .int .i64]) b], .lst (.st [.str, .str, .bool, .int .i64]) l] => some (True, .tup [.bool (asE m b l == 0 && (wrGo m l b 0).2.2), .int .i64 (asE m b l)])
  | _ => none
theorem fnOk_bFits : FnOk Try.prog 12 Try.f12 := ⟨by rfl, by kernel_rfl, by
  show okCode _ _ = true ∧ drawsOk _ = true
  exact ⟨by kernel_rfl, by kernel_rfl⟩⟩
noncomputable def cx33 : Cx := ⟨tb, [], [(31, spAsk), (32, spWrite)]⟩
theorem specs33 : SpecsOk Try.prog cx33.specs := .cons bAsk_ok (.cons bWrite0_ok .nil)
set_option maxRecDepth 100000 in
set_option maxHeartbeats 4000000 in
theorem bFits_ok : SpecOk Try.prog 12 spFits := by
  refine spec_body (C := cx33) mixed tbOk specs33 (callN_ok (C := cx33) mixed tbOk specs33 FnsOk.nil 0) fnOk_bFits ?_
  intro ys p r h hp
  unfold spFits at h
  split at h
  · rename_i m b l
    cases h
    conv => whnf
    repeat' first
      | (refine br_true (by first | with_reducible exact rfl | assumption | decide) ?_; conv => whnf)
      | (refine br_false (by first | with_reducible exact rfl | assumption | decide) ?_; conv => whnf)
      | ((with_reducible refine br_kt (by assumption) ?_); conv => whnf)
      | ((with_reducible refine br_kf (by assumption) ?_); conv => whnf)
      | ((with_reducible refine br_nt (by assumption) ?_); conv => whnf)
      | ((with_reducible refine br_nf (by assumption) ?_); conv => whnf)
      | ((with_reducible refine br_et (by assumption) ?_); conv => whnf)
      | ((with_reducible refine br_ef (by assumption) ?_); conv => whnf)
      | ((with_reducible refine br_dec (fun h => ?_) (fun h => ?_)) <;> first | (exfalso; omega) | conv => whnf)
      | ((with_reducible refine br_ndec (fun h => ?_) (fun h => ?_)) <;> first | (exfalso; omega) | conv => whnf)
      | ((with_reducible refine br_ne (fun h => ?_) (fun h => ?_)) <;> first | (exfalso; omega) | conv => whnf)
      | ((with_reducible refine br_eq (fun h => ?_) (fun h => ?_)) <;> first | (exfalso; omega) | conv => whnf)
      | (refine br_intro (fun h => ?_) (fun h => ?_) <;> conv => whnf)
      | (refine need_in (by first | exact trivial | assumption | exact ⟨rfl, Nat.le_refl _⟩ | exact ⟨rfl, rfl⟩ | (simp only [inR]; omega) | omega | (simp only [roomP, true_and, and_true, List.length_take, List.length_drop, List.length_append, List.length_cons, List.length_nil, List.length_set, List.length_replicate]; omega) | (refine ⟨by first | exact trivial | rfl, by first | exact Nat.le_refl _ | omega, ?_⟩; change roomP _ _ 1; simp only [roomP]; omega) | (change roomP _ _ 1; simp only [roomP]; omega) | (simp; omega) | (simp [inR]; omega) | (simp [inR]; done) | decide | (simp; done)) ?_; conv => whnf)
      | (refine idx_nat (by omega) (fun x hx => ?_); conv => whnf)
      | (refine frz_auto ?_; conv => whnf)
      | (refine draw_plain ?_; conv => whnf)
      | (refine idx_intro (by omega) (by omega) (fun x hx => ?_); conv => whnf)
      | (refine idx_intro (by first | omega | (simp; omega) | (simp; done)) (by first | omega | (simp; omega) | (simp; done)) (fun x hx => ?_); conv => whnf)
      | fail
    · rw [beq_eq_false_iff_ne.2 h]; rfl
    · refine need_in (asE_wr h) ?_
      conv => whnf
      rw [h]; rfl
  · cases h
def bt (m : Int) (b l : List entT.El) : Int × List entT.El × Int × Int := if asE m b l ≠ 0 then (0, [], 0, asE m b l) else if (wrGo m l b 0).2.2 = false then (0, [], 0, 5) else (m, (wrGo m l b 0).1, (wrGo m l b 0).2.1, 0)
def spBatch : DSpec
  | [.agg [.int .i64 m, .lst (.st [.str, .str, .bool, .int .i64]) b], .lst (.st [.str, .str, .bool, .int .i64]) l] => some (True, .tup [.agg [.int .i64 (bt m b l).1, .lst entT (bt m b l).2.1], .int .i64 (bt m b l).2.2.1, .int .i64 (bt m b l).2.2.2])
  | _ => none
theorem bt_eq {a c d : Int} {x : List entT.El} {q : Int × List entT.El × Int × Int} (h : q = (a, x, c, d)) : AV.tup [.agg [.int .i64 a, .lst entT x], .int .i64 c, .int .i64 d] = AV.tup [.agg [.int .i64 q.1, .lst entT q.2.1], .int .i64 q.2.2.1, .int .i64 q.2.2.2] := by rw [h]
theorem fnOk_bBatch : FnOk Try.prog 14 Try.f14 := ⟨by rfl, by kernel_rfl, by
  show okCode _ _ = true ∧ drawsOk _ = true
  exact ⟨by kernel_rfl, by kernel_rfl⟩⟩
set_option maxRecDepth 100000 in
set_option maxHeartbeats 4000000 in
theorem bBatch_ok : SpecOk Try.prog 14 spBatch := by
  refine spec_body (C := cx33) mixed tbOk specs33 (callN_ok (C := cx33) mixed tbOk specs33 FnsOk.nil 0) fnOk_bBatch ?_
  intro ys p r h hp
  unfold spBatch at h
  split at h
  · rename_i m b l
    cases h
    conv => whnf
    repeat' first
      | (refine br_true (by first | with_reducible exact rfl | assumption | decide) ?_; conv => whnf)
      | (refine br_false (by first | with_reducible exact rfl | assumption | decide) ?_; conv => whnf)
      | ((with_reducible refine br_kt (by assumption) ?_); conv => whnf)
      | ((with_reducible refine br_kf (by assumption) ?_); conv => whnf)
      | ((with_reducible refine br_nt (by assumption) ?_); conv => whnf)
      | ((with_reducible refine br_nf (by assumption) ?_); conv => whnf)
      | ((with_reducible refine br_et (by assumption) ?_); conv => whnf)
      | ((with_reducible refine br_ef (by assumption) ?_); conv => whnf)
      | ((with_reducible refine br_dec (fun h => ?_) (fun h => ?_)) <;> first | (exfalso; omega) | conv => whnf)
      | ((with_reducible refine br_ndec (fun h => ?_) (fun h => ?_)) <;> first | (exfalso; omega) | conv => whnf)
      | ((with_reducible refine br_ne (fun h => ?_) (fun h => ?_)) <;> first | (exfalso; omega) | conv => whnf)
      | ((with_reducible refine br_eq (fun h => ?_) (fun h => ?_)) <;> first | (exfalso; omega) | conv => whnf)
      | (refine br_intro (fun h => ?_) (fun h => ?_) <;> conv => whnf)
      | (refine need_in (by first | exact trivial | assumption | exact ⟨rfl, Nat.le_refl _⟩ | exact ⟨rfl, rfl⟩ | (simp only [inR]; omega) | omega | (simp only [roomP, true_and, and_true, List.length_take, List.length_drop, List.length_append, List.length_cons, List.length_nil, List.length_set, List.length_replicate]; omega) | (refine ⟨by first | exact trivial | rfl, by first | exact Nat.le_refl _ | omega, ?_⟩; change roomP _ _ 1; simp only [roomP]; omega) | (change roomP _ _ 1; simp only [roomP]; omega) | (simp; omega) | (simp [inR]; omega) | (simp [inR]; done) | decide | (simp; done)) ?_; conv => whnf)
      | (refine idx_nat (by omega) (fun x hx => ?_); conv => whnf)
      | (refine frz_auto ?_; conv => whnf)
      | (refine draw_plain ?_; conv => whnf)
      | (refine idx_intro (by omega) (by omega) (fun x hx => ?_); conv => whnf)
      | (refine idx_intro (by first | omega | (simp; omega) | (simp; done)) (by first | omega | (simp; omega) | (simp; done)) (fun x hx => ?_); conv => whnf)
      | fail
    · refine bt_eq ?_
      rw [bt, if_pos h]
    · have hz := h
      refine need_in (asE_wr hz) ?_
      conv => whnf
      repeat' first
        | (refine br_true (by first | with_reducible exact rfl | assumption | decide) ?_; conv => whnf)
        | (refine br_false (by first | with_reducible exact rfl | assumption | decide) ?_; conv => whnf)
        | ((with_reducible refine br_kt (by assumption) ?_); conv => whnf)
        | ((with_reducible refine br_kf (by assumption) ?_); conv => whnf)
        | ((with_reducible refine br_nt (by assumption) ?_); conv => whnf)
        | ((with_reducible refine br_nf (by assumption) ?_); conv => whnf)
        | ((with_reducible refine br_et (by assumption) ?_); conv => whnf)
        | ((with_reducible refine br_ef (by assumption) ?_); conv => whnf)
        | ((with_reducible refine br_dec (fun h => ?_) (fun h => ?_)) <;> first | (exfalso; omega) | conv => whnf)
        | ((with_reducible refine br_ndec (fun h => ?_) (fun h => ?_)) <;> first | (exfalso; omega) | conv => whnf)
        | ((with_reducible refine br_ne (fun h => ?_) (fun h => ?_)) <;> first | (exfalso; omega) | conv => whnf)
        | ((with_reducible refine br_eq (fun h => ?_) (fun h => ?_)) <;> first | (exfalso; omega) | conv => whnf)
        | (refine br_intro (fun h => ?_) (fun h => ?_) <;> conv => whnf)
        | (refine need_in (by first | exact trivial | assumption | exact ⟨rfl, Nat.le_refl _⟩ | exact ⟨rfl, rfl⟩ | (simp only [inR]; omega) | omega | (simp only [roomP, true_and, and_true, List.length_take, List.length_drop, List.length_append, List.length_cons, List.length_nil, List.length_set, List.length_replicate]; omega) | (refine ⟨by first | exact trivial | rfl, by first | exact Nat.le_refl _ | omega, ?_⟩; change roomP _ _ 1; simp only [roomP]; omega) | (change roomP _ _ 1; simp only [roomP]; omega) | (simp; omega) | (simp [inR]; omega) | (simp [inR]; done) | decide | (simp; done)) ?_; conv => whnf)
        | (refine idx_nat (by omega) (fun x hx => ?_); conv => whnf)
        | (refine frz_auto ?_; conv => whnf)
        | (refine draw_plain ?_; conv => whnf)
        | (refine idx_intro (by omega) (by omega) (fun x hx => ?_); conv => whnf)
        | (refine idx_intro (by first | omega | (simp; omega) | (simp; done)) (by first | omega | (simp; omega) | (simp; done)) (fun x hx => ?_); conv => whnf)
        | fail
      · refine bt_eq ?_
        rw [bt, if_neg (by simp [hz]), if_pos (bnt h)]
      · refine bt_eq ?_
        rw [bt, if_neg (by simp [hz]), if_neg (by rw [bnf h]; decide)]
  · cases h
def spWr1 : DSpec
  | [.agg [.int .i64 m, .lst (.st [.str, .str, .bool, .int .i64]) b], .agg [.str k, .str v, .bool d, .int .i64 s]] => some (True, .tup [.agg [.int .i64 (bt m b [mkE k v d s]).1, .lst entT (bt m b [mkE k v d s]).2.1], .int .i64 (bt m b [mkE k v d s]).2.2.1, .int .i64 (bt m b [mkE k v d s]).2.2.2])
  | _ => none
theorem fnOk_bWr1 : FnOk Try.prog 17 Try.f17 := ⟨by rfl, by kernel_rfl, by
  show okCode _ _ = true ∧ drawsOk _ = true
  exact ⟨by kernel_rfl, by kernel_rfl⟩⟩
noncomputable def cx34 : Cx := ⟨tb, [], [(14, spBatch)]⟩
theorem specs34 : SpecsOk Try.prog cx34.specs := .cons bBatch_ok .nil
set_option maxRecDepth 100000 in
set_option maxHeartbeats 4000000 in
theorem bWr1_ok : SpecOk Try.prog 17 spWr1 := by
  refine spec_body (C := cx34) mixed tbOk specs34 (callN_ok (C := cx34) mixed tbOk specs34 FnsOk.nil 0) fnOk_bWr1 ?_
  intro ys p r h hp
  unfold spWr1 at h
  split at h
  · rename_i m b k v d s
    cases h
    conv => whnf
    repeat' first
      | (refine br_true (by first | with_reducible exact rfl | assumption | decide) ?_; conv => whnf)
      | (refine br_false (by first | with_reducible exact rfl | assumption | decide) ?_; conv => whnf)
      | ((with_reducible refine br_kt (by assumption) ?_); conv => whnf)
      | ((with_reducible refine br_kf (by assumption) ?_); conv => whnf)
      | ((with_reducible refine br_nt (by assumption) ?_); conv => whnf)
      | ((with_reducible refine br_nf (by assumption) ?_); conv => whnf)
      | ((with_reducible refine br_et (by assumption) ?_); conv => whnf)
      | ((with_reducible refine br_ef (by assumption) ?_); conv => whnf)
      | ((with_reducible refine br_dec (fun h => ?_) (fun h => ?_)) <;> first | (exfalso; omega) | conv => whnf)
      | ((with_reducible refine br_ndec (fun h => ?_) (fun h => ?_)) <;> first | (exfalso; omega) | conv => whnf)
      | ((with_reducible refine br_ne (fun h => ?_) (fun h => ?_)) <;> first | (exfalso; omega) | conv => whnf)
      | ((with_reducible refine br_eq (fun h => ?_) (fun h => ?_)) <;> first | (exfalso; omega) | conv => whnf)
      | (refine br_intro (fun h => ?_) (fun h => ?_) <;> conv => whnf)
      | (refine need_in (by first | exact trivial | assumption | exact ⟨rfl, Nat.le_refl _⟩ | exact ⟨rfl, rfl⟩ | (simp only [inR]; omega) | omega | (simp only [roomP, true_and, and_true, List.length_take, List.length_drop, List.length_append, List.length_cons, List.length_nil, List.length_set, List.length_replicate]; omega) | (refine ⟨by first | exact trivial | rfl, by first | exact Nat.le_refl _ | omega, ?_⟩; change roomP _ _ 1; simp only [roomP]; omega) | (change roomP _ _ 1; simp only [roomP]; omega) | (simp; omega) | (simp [inR]; omega) | (simp [inR]; done) | decide | (simp; done)) ?_; conv => whnf)
      | (refine idx_nat (by omega) (fun x hx => ?_); conv => whnf)
      | (refine frz_auto ?_; conv => whnf)
      | (refine draw_plain ?_; conv => whnf)
      | (refine idx_intro (by omega) (by omega) (fun x hx => ?_); conv => whnf)
      | (refine idx_intro (by first | omega | (simp; omega) | (simp; done)) (by first | omega | (simp; omega) | (simp; done)) (fun x hx => ?_); conv => whnf)
      | fail
    all_goals rfl
  · cases h
end Go.Proofs.Ytfnikjihjjniiaa
