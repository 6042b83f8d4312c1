/-
  Batches of writes into a buffer, by the reference; the law of writes.
-/
import Derived.Test.YtfnikjihjjniiaaC7
namespace Go.Proofs.Ytfnikjihjjniiaa
open Av Bk

def fdStep (st : List entT.El × Int) (x : entT.El) : List entT.El × Int := (put1 st.1 x, st.2 + wk1 st.1 x)
def fdP (l b : List entT.El) (w : Int) : List entT.El × Int := l.foldl fdStep (b, w)
theorem put1_ge (out : List entT.El) (x : entT.El) : out.length ≤ (put1 out x).length ∧ (put1 out x).length ≤ out.length + 1 := by
  rw [put1_len]
  split <;> omega
theorem wk1_in (out : List entT.El) (x : entT.El) : 0 ≤ wk1 out x ∧ wk1 out x ≤ out.length + 1 := by
  have := lb_le x.1 out
  unfold wk1
  split <;> omega
theorem fd_ge : ∀ (l : List entT.El) (b : List entT.El) (w : Int), b.length ≤ (fdP l b w).1.length
  | [], b, w => Nat.le_refl _
  | x :: l, b, w => by
    have h1 := fd_ge l (put1 b x) (w + wk1 b x)
    have h2 := (put1_ge b x).1
    exact Nat.le_trans h2 h1
theorem wr_fd (m : Int) : ∀ (l out : List entT.El) (w : Int), (out.length : Int) ≤ m → (wrGo m l out w).2.2 = decide (((fdP l out w).1.length : Int) ≤ m) ∧ ((wrGo m l out w).2.2 = true → (wrGo m l out w).1 = (fdP l out w).1 ∧ (wrGo m l out w).2.1 = (fdP l out w).2)
  | [], out, w, h => ⟨(decide_eq_true h).symm, fun _ => ⟨rfl, rfl⟩⟩
  | x :: l, out, w, h => by
    have e : fdP (x :: l) out w = fdP l (put1 out x) (w + wk1 out x) := rfl
    rw [e, wrGo]
    have hl := put1_len (out := out) (x := x)
    split
    · rename_i hf
      rw [if_pos hf] at hl
      exact wr_fd m l _ _ (by rw [hl]; exact h)
    · rename_i hf
      rw [if_neg hf] at hl
      split
      · rename_i hm
        refine ⟨(decide_eq_false ?_).symm, fun h => by cases h⟩
        have := fd_ge l (put1 out x) (w + wk1 out x)
        omega
      · rename_i hm
        exact wr_fd m l _ _ (by rw [hl]; omega)
def spAll14 : DSpec
  | [.agg [.int .i64 m, .lst (.st [.str, .str, .bool, .int .i64]) b], .lst (.st [.str, .str, .bool, .int .i64]) l] => some (ascS b ∧ b.length ≤ 1000 ∧ l.length ≤ 1000, .tup [.lst entT (fdP l b 0).1, .int .i64 (fdP l b 0).2])
  | _ => none
theorem fd_take {l b : List entT.El} {w : Int} {i : Nat} {x : entT.El} {st : List entT.El × Int} (hx : l[i]? = some x) (h : fdP (l.take i) b w = st) : fdP (l.take (i + 1)) b w = fdStep st x := by
  unfold fdP at h ⊢
  rw [List.take_add_one, hx, List.foldl_append, h]
  rfl
theorem li3 {a b : List entT.El} {c d : AV} (h : a = b) : [AV.lst entT a, c, d] = [AV.lst entT b, c, d] := by rw [h]
theorem fnOk_rAll14 : FnOk Try.prog 34 Try.f34 := ⟨by rfl, by kernel_rfl, by
  show okCode _ _ = true ∧ drawsOk _ = true
  exact ⟨by kernel_rfl, by kernel_rfl⟩⟩
noncomputable def cx41 : Cx := ⟨tb, [], [(46, spPut1)]⟩
theorem specs41 : SpecsOk Try.prog cx41.specs := .cons rPut_ok .nil
set_option maxRecDepth 100000 in
set_option maxHeartbeats 8000000 in
theorem rAll14_ok : SpecOk Try.prog 34 spAll14 := by
  refine spec_body (C := cx41) mixed tbOk specs41 (callN_ok (C := cx41) mixed tbOk specs41 FnsOk.nil 0) fnOk_rAll14 ?_
  intro ys p r h hp
  unfold spAll14 at h
  split at h
  · rename_i m b l
    cases h
    obtain ⟨ha, hb, hl⟩ := hp
    conv => whnf
    repeat' first
      | (refine br_true (by first | with_reducible exact rfl | assumption | decide) ?_; conv => whnf)
      | (refine br_false (by first | with_reducible exact rfl | assumption | decide) ?_; conv => whnf)
      | ((with_reducible refine br_kt (by assumption) ?_); conv => whnf)
      | ((with_reducible refine br_kf (by assumption) ?_); conv => whnf)
      | ((with_reducible refine br_nt (by assumption) ?_); conv => whnf)
      | ((with_reducible refine br_nf (by assumption) ?_); conv => whnf)
      | ((with_reducible refine br_et (by assumption) ?_); conv => whnf)
      | ((with_reducible refine br_ef (by assumption) ?_); conv => whnf)
      | ((with_reducible refine br_dec (fun h => ?_) (fun h => ?_)) <;> first | (exfalso; omega) | conv => whnf)
      | ((with_reducible refine br_ndec (fun h => ?_) (fun h => ?_)) <;> first | (exfalso; omega) | conv => whnf)
      | ((with_reducible refine br_ne (fun h => ?_) (fun h => ?_)) <;> first | (exfalso; omega) | conv => whnf)
      | ((with_reducible refine br_eq (fun h => ?_) (fun h => ?_)) <;> first | (exfalso; omega) | conv => whnf)
      | (refine br_intro (fun h => ?_) (fun h => ?_) <;> conv => whnf)
      | (refine need_in (by first | exact trivial | assumption | exact ⟨rfl, Nat.le_refl _⟩ | exact ⟨rfl, rfl⟩ | (simp only [inR]; omega) | omega | (simp only [roomP, true_and, and_true, List.length_take, List.length_drop, List.length_append, List.length_cons, List.length_nil, List.length_set, List.length_replicate]; omega) | (refine ⟨by first | exact trivial | rfl, by first | exact Nat.le_refl _ | omega, ?_⟩; change roomP _ _ 1; simp only [roomP]; omega) | (change roomP _ _ 1; simp only [roomP]; omega) | (simp; omega) | (simp [inR]; omega) | (simp [inR]; done) | decide | (simp; done)) ?_; conv => whnf)
      | (refine idx_nat (by omega) (fun x hx => ?_); conv => whnf)
      | (refine frz_auto ?_; conv => whnf)
      | (refine draw_plain ?_; conv => whnf)
      | (refine idx_intro (by omega) (by omega) (fun x hx => ?_); conv => whnf)
      | (refine idx_intro (by first | omega | (simp; omega) | (simp; done)) (by first | omega | (simp; omega) | (simp; done)) (fun x hx => ?_); conv => whnf)
      | fail
    refine loop_inv [.lst 6 entT] [6, 7, 8] (fun vs h => ∃ (i : Nat) (out : List entT.El) (w : Int), vs = [.lst entT out, .int .i64 w, .int .i64 (i : Int)] ∧ h = [.cells 24 [.int .i64 m, .lst entT b], .arr 35 entT [] false 0, .dead] ∧ i ≤ l.length ∧ ascS out ∧ out.length ≤ b.length + i ∧ 0 ≤ w ∧ w ≤ 3000 * i ∧ fdP (l.take i) b 0 = (out, w)) (fun vs _ => match vs with | [_, _, .int _ k] => l.length - k.toNat | _ => 0) ?_
    conv => whnf
    refine need_in ⟨rfl, by simp⟩ ?_
    conv => whnf
    refine ⟨⟨0, b, 0, li3 (by simp), rfl, Nat.zero_le _, ha, by omega, by omega, by omega, rfl⟩, ?_⟩
    rintro vs h' - ⟨i, out, w, rfl, rfl, hi, hao, hlo, hw1, hw2, hf⟩
    have hput : ascS out ∧ out.length ≤ 100000 := ⟨hao, by omega⟩
    by_cases hil : i < l.length
    · obtain ⟨y, hy⟩ : ∃ y, l[i]? = some y := ⟨_, List.getElem?_eq_getElem hil⟩
      have hstep := fd_take hy hf
      have hk := wk1_in out y
      have hg := put1_ge out y
      have hk0 : 0 ≤ wk1 out (mkE y.1 y.2.1 y.2.2.1 y.2.2.2.1) ∧ wk1 out (mkE y.1 y.2.1 y.2.2.1 y.2.2.2.1) ≤ out.length + 1 := hk
      conv => whnf
      repeat' first
        | (refine idx_kn (by assumption) ?_; conv => whnf)
        | (refine br_true (by first | with_reducible exact rfl | assumption | decide) ?_; conv => whnf)
        | (refine br_false (by first | with_reducible exact rfl | assumption | decide) ?_; conv => whnf)
        | ((with_reducible refine br_kt (by assumption) ?_); conv => whnf)
        | ((with_reducible refine br_kf (by assumption) ?_); conv => whnf)
        | ((with_reducible refine br_nt (by assumption) ?_); conv => whnf)
        | ((with_reducible refine br_nf (by assumption) ?_); conv => whnf)
        | ((with_reducible refine br_et (by assumption) ?_); conv => whnf)
        | ((with_reducible refine br_ef (by assumption) ?_); conv => whnf)
        | ((with_reducible refine br_dec (fun h => ?_) (fun h => ?_)) <;> first | (exfalso; omega) | conv => whnf)
        | ((with_reducible refine br_ndec (fun h => ?_) (fun h => ?_)) <;> first | (exfalso; omega) | conv => whnf)
        | ((with_reducible refine br_ne (fun h => ?_) (fun h => ?_)) <;> first | (exfalso; omega) | conv => whnf)
        | ((with_reducible refine br_eq (fun h => ?_) (fun h => ?_)) <;> first | (exfalso; omega) | conv => whnf)
        | (refine br_intro (fun h => ?_) (fun h => ?_) <;> conv => whnf)
        | (refine need_in (by first | exact trivial | assumption | exact ⟨rfl, Nat.le_refl _⟩ | exact ⟨rfl, rfl⟩ | (simp only [inR]; omega) | omega | (simp only [roomP, true_and, and_true, List.length_take, List.length_drop, List.length_append, List.length_cons, List.length_nil, List.length_set, List.length_replicate]; omega) | (refine ⟨by first | exact trivial | rfl, by first | exact Nat.le_refl _ | omega, ?_⟩; change roomP _ _ 1; simp only [roomP]; omega) | (change roomP _ _ 1; simp only [roomP]; omega) | (simp; omega) | (simp [inR]; omega) | (simp [inR]; done) | decide | (simp; done)) ?_; conv => whnf)
        | (refine idx_nat (by omega) (fun x hx => ?_); conv => whnf)
        | (refine frz_auto ?_; conv => whnf)
        | (refine draw_plain ?_; conv => whnf)
        | (refine idx_intro (by omega) (by omega) (fun x hx => ?_); conv => whnf)
        | (refine idx_intro (by first | omega | (simp; omega) | (simp; done)) (by first | omega | (simp; omega) | (simp; done)) (fun x hx => ?_); conv => whnf)
        | fail
      refine back_intro (by conv => whnf) rfl ⟨i + 1, put1 out y, w + wk1 out y, rfl, rfl, by omega, put1_asc hao y, by omega, by omega, by omega, hstep⟩ ?_
      show l.length - ((i : Int) + 1).toNat < l.length - (i : Int).toNat
      omega
    · have e : i = l.length := by omega
      rw [e, List.take_length] at hf
      rw [hf]
      conv => whnf
      repeat' first
        | (refine br_true (by first | with_reducible exact rfl | assumption | decide) ?_; conv => whnf)
        | (refine br_false (by first | with_reducible exact rfl | assumption | decide) ?_; conv => whnf)
        | ((with_reducible refine br_kt (by assumption) ?_); conv => whnf)
        | ((with_reducible refine br_kf (by assumption) ?_); conv => whnf)
        | ((with_reducible refine br_nt (by assumption) ?_); conv => whnf)
        | ((with_reducible refine br_nf (by assumption) ?_); conv => whnf)
        | ((with_reducible refine br_et (by assumption) ?_); conv => whnf)
        | ((with_reducible refine br_ef (by assumption) ?_); conv => whnf)
        | ((with_reducible refine br_dec (fun h => ?_) (fun h => ?_)) <;> first | (exfalso; omega) | conv => whnf)
        | ((with_reducible refine br_ndec (fun h => ?_) (fun h => ?_)) <;> first | (exfalso; omega) | conv => whnf)
        | ((with_reducible refine br_ne (fun h => ?_) (fun h => ?_)) <;> first | (exfalso; omega) | conv => whnf)
        | ((with_reducible refine br_eq (fun h => ?_) (fun h => ?_)) <;> first | (exfalso; omega) | conv => whnf)
        | (refine br_intro (fun h => ?_) (fun h => ?_) <;> conv => whnf)
        | (refine need_in (by first | exact trivial | assumption | exact ⟨rfl, Nat.le_refl _⟩ | exact ⟨rfl, rfl⟩ | (simp only [inR]; omega) | omega | (simp only [roomP, true_and, and_true, List.length_take, List.length_drop, List.length_append, List.length_cons, List.length_nil, List.length_set, List.length_replicate]; omega) | (refine ⟨by first | exact trivial | rfl, by first | exact Nat.le_refl _ | omega, ?_⟩; change roomP _ _ 1; simp only [roomP]; omega) | (change roomP _ _ 1; simp only [roomP]; omega) | (simp; omega) | (simp [inR]; omega) | (simp [inR]; done) | decide | (simp; done)) ?_; conv => whnf)
        | (refine idx_nat (by omega) (fun x hx => ?_); conv => whnf)
        | (refine frz_auto ?_; conv => whnf)
        | (refine draw_plain ?_; conv => whnf)
        | (refine idx_intro (by omega) (by omega) (fun x hx => ?_); conv => whnf)
        | (refine idx_intro (by first | omega | (simp; omega) | (simp; done)) (by first | omega | (simp; omega) | (simp; done)) (fun x hx => ?_); conv => whnf)
        | fail
  · cases h
theorem fnOk_rFits : FnOk Try.prog 13 Try.f13 := ⟨by rfl, by kernel_rfl, by
  show okCode _ _ = true ∧ drawsOk _ = true
  exact ⟨by kernel_rfl, by kernel_rfl⟩⟩
noncomputable def cx42 : Cx := ⟨tb, [], [(33, spAsk), (34, spAll14)]⟩
theorem specs42 : SpecsOk Try.prog cx42.specs := .cons rAsk_ok (.cons rAll14_ok .nil)
theorem asE_all {m : Int} {b l : List entT.El} (h : asE m b l = 0) : ascS b ∧ b.length ≤ 1000 ∧ l.length ≤ 1000 := by
  obtain ⟨h1, h2, h3⟩ := asE_zero h
  obtain ⟨a1, a2, a3, a4, _⟩ := chB_zero h1
  exact ⟨a4, by omega, by omega⟩
theorem asE_fit {m : Int} {b l : List entT.El} (h : asE m b l = 0) : (wrGo m l b 0).2.2 = decide (((fdP l b 0).1.length : Int) ≤ m) := by
  obtain ⟨_, _, h3, _⟩ := asE_wr h
  exact (wr_fd m l b 0 h3).1
set_option maxRecDepth 100000 in
set_option maxHeartbeats 4000000 in
theorem rFits_ok : SpecOk Try.prog 13 spFits := by
  refine spec_body (C := cx42) mixed tbOk specs42 (callN_ok (C := cx42) mixed tbOk specs42 FnsOk.nil 0) fnOk_rFits ?_
  intro ys p r h hp
  unfold spFits at h
  split at h
  · rename_i m b l
    cases h
    conv => whnf
    repeat' first
      | (refine br_true (by first | with_reducible exact rfl | assumption | decide) ?_; conv => whnf)
      | (refine br_false (by first | with_reducible exact rfl | assumption | decide) ?_; conv => whnf)
      | ((with_reducible refine br_kt (by assumption) ?_); conv => whnf)
      | ((with_reducible refine br_kf (by assumption) ?_); conv => whnf)
      | ((with_reducible refine br_nt (by assumption) ?_); conv => whnf)
      | ((with_reducible refine br_nf (by assumption) ?_); conv => whnf)
      | ((with_reducible refine br_et (by assumption) ?_); conv => whnf)
      | ((with_reducible refine br_ef (by assumption) ?_); conv => whnf)
      | ((with_reducible refine br_dec (fun h => ?_) (fun h => ?_)) <;> first | (exfalso; omega) | conv => whnf)
      | ((with_reducible refine br_ndec (fun h => ?_) (fun h => ?_)) <;> first | (exfalso; omega) | conv => whnf)
      | ((with_reducible refine br_ne (fun h => ?_) (fun h => ?_)) <;> first | (exfalso; omega) | conv => whnf)
      | ((with_reducible refine br_eq (fun h => ?_) (fun h => ?_)) <;> first | (exfalso; omega) | conv => whnf)
      | (refine br_intro (fun h => ?_) (fun h => ?_) <;> conv => whnf)
      | (refine need_in (by first | exact trivial | assumption | exact ⟨rfl, Nat.le_refl _⟩ | exact ⟨rfl, rfl⟩ | (simp only [inR]; omega) | omega | (simp only [roomP, true_and, and_true, List.length_take, List.length_drop, List.length_append, List.length_cons, List.length_nil, List.length_set, List.length_replicate]; omega) | (refine ⟨by first | exact trivial | rfl, by first | exact Nat.le_refl _ | omega, ?_⟩; change roomP _ _ 1; simp only [roomP]; omega) | (change roomP _ _ 1; simp only [roomP]; omega) | (simp; omega) | (simp [inR]; omega) | (simp [inR]; done) | decide | (simp; done)) ?_; conv => whnf)
      | (refine idx_nat (by omega) (fun x hx => ?_); conv => whnf)
      | (refine frz_auto ?_; conv => whnf)
      | (refine draw_plain ?_; conv => whnf)
      | (refine idx_intro (by omega) (by omega) (fun x hx => ?_); conv => whnf)
      | (refine idx_intro (by first | omega | (simp; omega) | (simp; done)) (by first | omega | (simp; omega) | (simp; done)) (fun x hx => ?_); conv => whnf)
      | fail
    · rw [beq_eq_false_iff_ne.2 h]; rfl
    · refine need_in (asE_all h) ?_
      conv => whnf
      rw [asE_fit h, h]; rfl
  · cases h
theorem fnOk_rBatch : FnOk Try.prog 15 Try.f15 := ⟨by rfl, by kernel_rfl, by
  show okCode _ _ = true ∧ drawsOk _ = true
  exact ⟨by kernel_rfl, by kernel_rfl⟩⟩
noncomputable def cx43 : Cx := ⟨tb, [], [(13, spFits), (34, spAll14)]⟩
theorem specs43 : SpecsOk Try.prog cx43.specs := .cons rFits_ok (.cons rAll14_ok .nil)
set_option maxRecDepth 100000 in
set_option maxHeartbeats 4000000 in
theorem rBatch_ok : SpecOk Try.prog 15 spBatch := by
  refine spec_body (C := cx43) mixed tbOk specs43 (callN_ok (C := cx43) mixed tbOk specs43 FnsOk.nil 0) fnOk_rBatch ?_
  intro ys p r h hp
  unfold spBatch at h
  split at h
  · rename_i m b l
    cases h
    conv => whnf
    repeat' first
      | (refine br_true (by first | with_reducible exact rfl | assumption | decide) ?_; conv => whnf)
      | (refine br_false (by first | with_reducible exact rfl | assumption | decide) ?_; conv => whnf)
      | ((with_reducible refine br_kt (by assumption) ?_); conv => whnf)
      | ((with_reducible refine br_kf (by assumption) ?_); conv => whnf)
      | ((with_reducible refine br_nt (by assumption) ?_); conv => whnf)
      | ((with_reducible refine br_nf (by assumption) ?_); conv => whnf)
      | ((with_reducible refine br_et (by assumption) ?_); conv => whnf)
      | ((with_reducible refine br_ef (by assumption) ?_); conv => whnf)
      | ((with_reducible refine br_dec (fun h => ?_) (fun h => ?_)) <;> first | (exfalso; omega) | conv => whnf)
      | ((with_reducible refine br_ndec (fun h => ?_) (fun h => ?_)) <;> first | (exfalso; omega) | conv => whnf)
      | ((with_reducible refine br_ne (fun h => ?_) (fun h => ?_)) <;> first | (exfalso; omega) | conv => whnf)
      | ((with_reducible refine br_eq (fun h => ?_) (fun h => ?_)) <;> first | (exfalso; omega) | conv => whnf)
      | (refine br_intro (fun h => ?_) (fun h => ?_) <;> conv => whnf)
      | (refine need_in (by first | exact trivial | assumption | exact ⟨rfl, Nat.le_refl _⟩ | exact ⟨rfl, rfl⟩ | (simp only [inR]; omega) | omega | (simp only [roomP, true_and, and_true, List.length_take, List.length_drop, List.length_append, List.length_cons, List.length_nil, List.length_set, List.length_replicate]; omega) | (refine ⟨by first | exact trivial | rfl, by first | exact Nat.le_refl _ | omega, ?_⟩; change roomP _ _ 1; simp only [roomP]; omega) | (change roomP _ _ 1; simp only [roomP]; omega) | (simp; omega) | (simp [inR]; omega) | (simp [inR]; done) | decide | (simp; done)) ?_; conv => whnf)
      | (refine idx_nat (by omega) (fun x hx => ?_); conv => whnf)
      | (refine frz_auto ?_; conv => whnf)
      | (refine draw_plain ?_; conv => whnf)
      | (refine idx_intro (by omega) (by omega) (fun x hx => ?_); conv => whnf)
      | (refine idx_intro (by first | omega | (simp; omega) | (simp; done)) (by first | omega | (simp; omega) | (simp; done)) (fun x hx => ?_); conv => whnf)
      | fail
    · refine bt_eq ?_
      grind [bt]
    · rename_i hz
      refine need_in (asE_all hz) ?_
      conv => whnf
      obtain ⟨_, _, h3, _⟩ := asE_wr hz
      have hw := wr_fd m l b 0 h3
      refine bt_eq ?_
      grind [bt]
    · refine bt_eq ?_
      grind [bt]
  · cases h
theorem fnOk_rWr1 : FnOk Try.prog 18 Try.f18 := ⟨by rfl, by kernel_rfl, by
  show okCode _ _ = true ∧ drawsOk _ = true
  exact ⟨by kernel_rfl, by kernel_rfl⟩⟩
noncomputable def cx44 : Cx := ⟨tb, [], [(15, spBatch)]⟩
theorem specs44 : SpecsOk Try.prog cx44.specs := .cons rBatch_ok .nil
set_option maxRecDepth 100000 in
set_option maxHeartbeats 4000000 in
theorem rWr1_ok : SpecOk Try.prog 18 spWr1 := by
  refine spec_body (C := cx44) mixed tbOk specs44 (callN_ok (C := cx44) mixed tbOk specs44 FnsOk.nil 0) fnOk_rWr1 ?_
  intro ys p r h hp
  unfold spWr1 at h
  split at h
  · rename_i m b k v d s
    cases h
    conv => whnf
    repeat' first
      | (refine br_true (by first | with_reducible exact rfl | assumption | decide) ?_; conv => whnf)
      | (refine br_false (by first | with_reducible exact rfl | assumption | decide) ?_; conv => whnf)
      | ((with_reducible refine br_kt (by assumption) ?_); conv => whnf)
      | ((with_reducible refine br_kf (by assumption) ?_); conv => whnf)
      | ((with_reducible refine br_nt (by assumption) ?_); conv => whnf)
      | ((with_reducible refine br_nf (by assumption) ?_); conv => whnf)
      | ((with_reducible refine br_et (by assumption) ?_); conv => whnf)
      | ((with_reducible refine br_ef (by assumption) ?_); conv => whnf)
      | ((with_reducible refine br_dec (fun h => ?_) (fun h => ?_)) <;> first | (exfalso; omega) | conv => whnf)
      | ((with_reducible refine br_ndec (fun h => ?_) (fun h => ?_)) <;> first | (exfalso; omega) | conv => whnf)
      | ((with_reducible refine br_ne (fun h => ?_) (fun h => ?_)) <;> first | (exfalso; omega) | conv => whnf)
      | ((with_reducible refine br_eq (fun h => ?_) (fun h => ?_)) <;> first | (exfalso; omega) | conv => whnf)
      | (refine br_intro (fun h => ?_) (fun h => ?_) <;> conv => whnf)
      | (refine need_in (by first | exact trivial | assumption | exact ⟨rfl, Nat.le_refl _⟩ | exact ⟨rfl, rfl⟩ | (simp only [inR]; omega) | omega | (simp only [roomP, true_and, and_true, List.length_take, List.length_drop, List.length_append, List.length_cons, List.length_nil, List.length_set, List.length_replicate]; omega) | (refine ⟨by first | exact trivial | rfl, by first | exact Nat.le_refl _ | omega, ?_⟩; change roomP _ _ 1; simp only [roomP]; omega) | (change roomP _ _ 1; simp only [roomP]; omega) | (simp; omega) | (simp [inR]; omega) | (simp [inR]; done) | decide | (simp; done)) ?_; conv => whnf)
      | (refine idx_nat (by omega) (fun x hx => ?_); conv => whnf)
      | (refine frz_auto ?_; conv => whnf)
      | (refine draw_plain ?_; conv => whnf)
      | (refine idx_intro (by omega) (by omega) (fun x hx => ?_); conv => whnf)
      | (refine idx_intro (by first | omega | (simp; omega) | (simp; done)) (by first | omega | (simp; omega) | (simp; done)) (fun x hx => ?_); conv => whnf)
      | fail
    all_goals rfl
  · cases h
end Go.Proofs.Ytfnikjihjjniiaa
