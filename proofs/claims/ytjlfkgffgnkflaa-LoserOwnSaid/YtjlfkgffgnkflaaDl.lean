/-
  The law of what a tree owns.
-/
import Derived.Test.YtjlfkgffgnkflaaDk
namespace Go.Proofs.Ytjlfkgffgnkflaa
open Av Lz

theorem fnOk_lOw : FnOk Try.prog 8 Try.f8 := ⟨by rfl, by kernel_rfl, by
  show okCode _ _ = true ∧ drawsOk _ = true
  exact ⟨by kernel_rfl, by kernel_rfl⟩⟩
/-- Nothing is known of the calls. -/
noncomputable def lOw_C (F : LzF) : Cx := ⟨tb, [], [(9, spFar), (10, spAwake), (11, spB F)]⟩
theorem lOw_D {F : LzF} (h : F = stdF) : SpecsOk Try.prog (lOw_C F).specs := .cons lFar_ok (.cons awake_ok (.cons (spB_ok h) .nil))
/-- The tree is made; nothing is replaced. -/
noncomputable def lOw_C2 (F : LzF) : Cx := ⟨tb, [], [(9, spFar), (10, spAwake), (21, spR F), (13, spSameT)]⟩
theorem lOw_D2 {F : LzF} (h : F = stdF) : SpecsOk Try.prog (lOw_C2 F).specs := .cons lFar_ok (.cons awake_ok (.cons (spR_ok h) (.cons rSameT_ok .nil)))
def lOw_G2 (F : LzF) : List (FuncId × GSpec) := [(11, gB F)]
theorem lOw_gs2 {F : LzF} (h : F = stdF) : GsOk Try.prog (lOw_G2 F) := .cons (gB_ok h) .nil
/-- The tree is made, and another one. -/
noncomputable def lOw_C3 : Cx := ⟨tb, [], [(9, spFar), (10, spAwake), (13, spSameT)]⟩
theorem lOw_D3 : SpecsOk Try.prog lOw_C3.specs := .cons lFar_ok (.cons awake_ok (.cons rSameT_ok .nil))
def lOw_G3 (F : LzF) : List (FuncId × GSpec) := [(11, gB F), (21, gR F)]
theorem lOw_gs3 {F : LzF} (h : F = stdF) : GsOk Try.prog (lOw_G3 F) := .cons (gB_ok h) (.cons (gR_ok h) .nil)
abbrev lOw_T : List Ty := [.sl keyT, keyT]
abbrev lOw_FN := fnOk_lOw
def hpO3 (F : LzF) (ks own uK : List keyT.El) (uL : List intT.El) (uW : Int) (k : ByteArray) (d : Bool) : Hp :=
  [.cells 39 [.str k, .bool d], .arr 39 keyT own false 1, .arr 39 keyT ks false 0, .arr 3 intT (F.bL ks) false 0, .cells 27 [.own 2 0 ks.length, .own 3 0 ks.length, .int .i64 (F.bW ks)],
    .arr 39 keyT ks false 1, .resv, .resv, .resv, .arr 3 intT (F.bL ks) false 1, .resv, .resv, .resv, .resv, .resv, .resv, .cells 27 [.own 5 1 ks.length, .own 9 1 (F.bL ks).length, .int .i64 (F.bW ks)],
    .arr 39 keyT uK false 0, .arr 3 intT uL false 0, .cells 27 [.own 17 0 ks.length, .own 18 0 ks.length, .int .i64 uW]]
def hpO2 (F : LzF) (ks own uK : List keyT.El) (uL : List intT.El) (uW : Int) (k : ByteArray) (d : Bool) : Hp :=
  [.cells 39 [.str k, .bool d], .arr 39 keyT own false 1, .dead, .dead, .cells 27 [.lst keyT ks, .lst intT (F.bL ks), .int .i64 (F.bW ks)],
    .arr 39 keyT ks false 1, .resv, .resv, .resv, .arr 3 intT (F.bL ks) false 1, .resv, .resv, .resv, .resv, .resv, .resv, .cells 27 [.own 5 1 ks.length, .own 9 1 (F.bL ks).length, .int .i64 (F.bW ks)],
    .cells 27 [.lst keyT uK, .lst intT uL, .int .i64 uW]]
set_option maxRecDepth 100000 in
set_option maxHeartbeats 8000000 in
theorem lOw : ∀ es : Ty.Els lOw_T, tyOks lOw_T es → WalkOk Try.prog Try.f8 (avTs lOw_T es) := by
  rintro ⟨ks, ⟨k, d, _⟩, _⟩ -
  obtain ⟨F, hstd⟩ : ∃ F, F = stdF := ⟨_, rfl⟩
  have plain : farL ks = true ∨ 100 < k.size ∨ F.bE ks ≠ 0 → WalkOk Try.prog Try.f8 (avTs lOw_T (ks, (k, d, ()), ())) := by
    intro hc
    refine ⟨lOw_C F, callN (lOw_C F) 0, tbOk, lOw_D hstd, callN_ok mixed tbOk (lOw_D hstd) FnsOk.nil 0, ?_⟩
    show bodyA _ _ _ [.lst keyT ks, .agg [.str k, .bool d]] [] _
    cases hF : farL ks with
    | true =>
      conv => whnf
      repeat' first
        | (refine idx_kn (by assumption) ?_; conv => whnf)
        | (refine idx_ki (by assumption) (by omega) ?_; conv => whnf)
        | (refine br_true (by first | with_reducible exact rfl | assumption | decide) ?_; conv => whnf)
        | (refine br_false (by first | with_reducible exact rfl | assumption | decide) ?_; conv => whnf)
        | ((with_reducible refine br_kt (by assumption) ?_); conv => whnf)
        | ((with_reducible refine br_kf (by assumption) ?_); conv => whnf)
        | ((with_reducible refine br_nt (by assumption) ?_); conv => whnf)
        | ((with_reducible refine br_nf (by assumption) ?_); conv => whnf)
        | ((with_reducible refine br_et (by assumption) ?_); conv => whnf)
        | ((with_reducible refine br_ef (by assumption) ?_); conv => whnf)
        | ((with_reducible refine br_dec (fun h => ?_) (fun h => ?_)) <;> first | (exfalso; omega) | conv => whnf)
        | ((with_reducible refine br_ndec (fun h => ?_) (fun h => ?_)) <;> first | (exfalso; omega) | conv => whnf)
        | ((with_reducible refine br_ne (fun h => ?_) (fun h => ?_)) <;> first | (exfalso; omega) | conv => whnf)
        | ((with_reducible refine br_eq (fun h => ?_) (fun h => ?_)) <;> first | (exfalso; omega) | conv => whnf)
        | (refine br_intro (fun h => ?_) (fun h => ?_) <;> conv => whnf)
        | (refine need_in (by first | exact trivial | assumption | exact ⟨rfl, Nat.le_refl _⟩ | exact ⟨rfl, rfl⟩ | (simp only [inR]; omega) | omega | (simp only [roomP, true_and, and_true, List.length_take, List.length_drop, List.length_append, List.length_cons, List.length_nil, List.length_set, List.length_replicate]; omega) | (refine ⟨by first | exact trivial | rfl, by first | exact Nat.le_refl _ | omega, ?_⟩; change roomP _ _ 1; simp only [roomP]; omega) | (change roomP _ _ 1; simp only [roomP]; omega) | (simp; omega) | (simp [inR]; omega) | (simp [inR]; done) | decide | (simp; done)) ?_; conv => whnf)
        | (refine idx_nat (by omega) (fun x hx => ?_); conv => whnf)
        | (refine frz_auto ?_; conv => whnf)
        | (refine draw_plain ?_; conv => whnf)
        | (refine idx_intro (by omega) (by omega) (fun x hx => ?_); conv => whnf)
        | (refine idx_intro (by first | omega | (simp; omega) | (simp; done)) (by first | omega | (simp; omega) | (simp; done)) (fun x hx => ?_); conv => whnf)
        | fail
    | false =>
      by_cases hk : 100 < k.size
      · conv => whnf
        repeat' first
          | (refine idx_kn (by assumption) ?_; conv => whnf)
          | (refine idx_ki (by assumption) (by omega) ?_; conv => whnf)
          | (refine br_true (by first | with_reducible exact rfl | assumption | decide) ?_; conv => whnf)
          | (refine br_false (by first | with_reducible exact rfl | assumption | decide) ?_; conv => whnf)
          | ((with_reducible refine br_kt (by assumption) ?_); conv => whnf)
          | ((with_reducible refine br_kf (by assumption) ?_); conv => whnf)
          | ((with_reducible refine br_nt (by assumption) ?_); conv => whnf)
          | ((with_reducible refine br_nf (by assumption) ?_); conv => whnf)
          | ((with_reducible refine br_et (by assumption) ?_); conv => whnf)
          | ((with_reducible refine br_ef (by assumption) ?_); conv => whnf)
          | ((with_reducible refine br_dec (fun h => ?_) (fun h => ?_)) <;> first | (exfalso; omega) | conv => whnf)
          | ((with_reducible refine br_ndec (fun h => ?_) (fun h => ?_)) <;> first | (exfalso; omega) | conv => whnf)
          | ((with_reducible refine br_ne (fun h => ?_) (fun h => ?_)) <;> first | (exfalso; omega) | conv => whnf)
          | ((with_reducible refine br_eq (fun h => ?_) (fun h => ?_)) <;> first | (exfalso; omega) | conv => whnf)
          | (refine br_intro (fun h => ?_) (fun h => ?_) <;> conv => whnf)
          | (refine need_in (by first | exact trivial | assumption | exact ⟨rfl, Nat.le_refl _⟩ | exact ⟨rfl, rfl⟩ | (simp only [inR]; omega) | omega | (simp only [roomP, true_and, and_true, List.length_take, List.length_drop, List.length_append, List.length_cons, List.length_nil, List.length_set, List.length_replicate]; omega) | (refine ⟨by first | exact trivial | rfl, by first | exact Nat.le_refl _ | omega, ?_⟩; change roomP _ _ 1; simp only [roomP]; omega) | (change roomP _ _ 1; simp only [roomP]; omega) | (simp; omega) | (simp [inR]; omega) | (simp [inR]; done) | decide | (simp; done)) ?_; conv => whnf)
          | (refine idx_nat (by omega) (fun x hx => ?_); conv => whnf)
          | (refine frz_auto ?_; conv => whnf)
          | (refine draw_plain ?_; conv => whnf)
          | (refine idx_intro (by omega) (by omega) (fun x hx => ?_); conv => whnf)
          | (refine idx_intro (by first | omega | (simp; omega) | (simp; done)) (by first | omega | (simp; omega) | (simp; done)) (fun x hx => ?_); conv => whnf)
          | fail
      · have hr : F.bE ks ≠ 0 := by
          rcases hc with h | h | h
          · rw [h] at hF; cases hF
          · exact absurd h hk
          · exact h
        have hlen := farL_len hF
        have hr2 : F.bE (List.take (List.length ks) ks) ≠ 0 := by rw [List.take_length]; exact hr
        have hbK : (F.bK ks).length = 0 := by
          have : rightE ks ≠ 0 := by rw [hstd] at hr; exact hr
          have e : F.bK ks = [] := by rw [hstd]; exact if_neg this
          rw [e]; rfl
        have hbL : (F.bL ks).length = 0 := by
          have : rightE ks ≠ 0 := by rw [hstd] at hr; exact hr
          have e : F.bL ks = [] := by rw [hstd]; exact if_neg this
          rw [e]; rfl
        conv => whnf
        iterate 8 first
          | (refine idx_kn (by assumption) ?_; conv => whnf)
          | (refine idx_ki (by assumption) (by omega) ?_; conv => whnf)
          | (refine br_true (by first | with_reducible exact rfl | assumption | decide) ?_; conv => whnf)
          | (refine br_false (by first | with_reducible exact rfl | assumption | decide) ?_; conv => whnf)
          | ((with_reducible refine br_kt (by assumption) ?_); conv => whnf)
          | ((with_reducible refine br_kf (by assumption) ?_); conv => whnf)
          | ((with_reducible refine br_nt (by assumption) ?_); conv => whnf)
          | ((with_reducible refine br_nf (by assumption) ?_); conv => whnf)
          | ((with_reducible refine br_et (by assumption) ?_); conv => whnf)
          | ((with_reducible refine br_ef (by assumption) ?_); conv => whnf)
          | ((with_reducible refine br_dec (fun h => ?_) (fun h => ?_)) <;> first | (exfalso; omega) | conv => whnf)
          | ((with_reducible refine br_ndec (fun h => ?_) (fun h => ?_)) <;> first | (exfalso; omega) | conv => whnf)
          | ((with_reducible refine br_ne (fun h => ?_) (fun h => ?_)) <;> first | (exfalso; omega) | conv => whnf)
          | ((with_reducible refine br_eq (fun h => ?_) (fun h => ?_)) <;> first | (exfalso; omega) | conv => whnf)
          | (refine br_intro (fun h => ?_) (fun h => ?_) <;> conv => whnf)
          | (refine need_in (by first | exact trivial | assumption | exact ⟨rfl, Nat.le_refl _⟩ | exact ⟨rfl, rfl⟩ | (simp only [inR]; omega) | omega | (simp only [roomP, true_and, and_true, List.length_take, List.length_drop, List.length_append, List.length_cons, List.length_nil, List.length_set, List.length_replicate]; omega) | (refine ⟨by first | exact trivial | rfl, by first | exact Nat.le_refl _ | omega, ?_⟩; change roomP _ _ 1; simp only [roomP]; omega) | (change roomP _ _ 1; simp only [roomP]; omega) | (simp; omega) | (simp [inR]; omega) | (simp [inR]; done) | decide | (simp; done)) ?_; conv => whnf)
          | (refine idx_nat (by omega) (fun x hx => ?_); conv => whnf)
          | (refine frz_auto ?_; conv => whnf)
          | (refine draw_plain ?_; conv => whnf)
          | (refine idx_intro (by omega) (by omega) (fun x hx => ?_); conv => whnf)
          | (refine idx_intro (by first | omega | (simp; omega) | (simp; done)) (by first | omega | (simp; omega) | (simp; done)) (fun x hx => ?_); conv => whnf)
          | fail
        simp only [cast_self, List.take_zero, List.nil_append, Nat.zero_add, List.take_length]
        conv => whnf
        repeat' first
          | (refine idx_kn (by assumption) ?_; conv => whnf)
          | (refine idx_ki (by assumption) (by omega) ?_; conv => whnf)
          | (refine br_true (by first | with_reducible exact rfl | assumption | decide) ?_; conv => whnf)
          | (refine br_false (by first | with_reducible exact rfl | assumption | decide) ?_; conv => whnf)
          | ((with_reducible refine br_kt (by assumption) ?_); conv => whnf)
          | ((with_reducible refine br_kf (by assumption) ?_); conv => whnf)
          | ((with_reducible refine br_nt (by assumption) ?_); conv => whnf)
          | ((with_reducible refine br_nf (by assumption) ?_); conv => whnf)
          | ((with_reducible refine br_et (by assumption) ?_); conv => whnf)
          | ((with_reducible refine br_ef (by assumption) ?_); conv => whnf)
          | ((with_reducible refine br_dec (fun h => ?_) (fun h => ?_)) <;> first | (exfalso; omega) | conv => whnf)
          | ((with_reducible refine br_ndec (fun h => ?_) (fun h => ?_)) <;> first | (exfalso; omega) | conv => whnf)
          | ((with_reducible refine br_ne (fun h => ?_) (fun h => ?_)) <;> first | (exfalso; omega) | conv => whnf)
          | ((with_reducible refine br_eq (fun h => ?_) (fun h => ?_)) <;> first | (exfalso; omega) | conv => whnf)
          | (refine br_intro (fun h => ?_) (fun h => ?_) <;> conv => whnf)
          | (refine need_in (by first | exact trivial | assumption | exact ⟨rfl, Nat.le_refl _⟩ | exact ⟨rfl, rfl⟩ | (simp only [inR]; omega) | omega | (simp only [roomP, true_and, and_true, List.length_take, List.length_drop, List.length_append, List.length_cons, List.length_nil, List.length_set, List.length_replicate]; omega) | (refine ⟨by first | exact trivial | rfl, by first | exact Nat.le_refl _ | omega, ?_⟩; change roomP _ _ 1; simp only [roomP]; omega) | (change roomP _ _ 1; simp only [roomP]; omega) | (simp; omega) | (simp [inR]; omega) | (simp [inR]; done) | decide | (simp; done)) ?_; conv => whnf)
          | (refine idx_nat (by omega) (fun x hx => ?_); conv => whnf)
          | (refine frz_auto ?_; conv => whnf)
          | (refine draw_plain ?_; conv => whnf)
          | (refine idx_intro (by omega) (by omega) (fun x hx => ?_); conv => whnf)
          | (refine idx_intro (by first | omega | (simp; omega) | (simp; done)) (by first | omega | (simp; omega) | (simp; done)) (fun x hx => ?_); conv => whnf)
          | fail
        skip
  cases hF : farL ks with
  | true => exact plain (.inl hF)
  | false =>
  by_cases hk : 100 < k.size
  · exact plain (.inr (.inl hk))
  by_cases hr : F.bE ks = 0
  case neg => exact plain (.inr (.inr hr))
  have hr0 : rightE ks = 0 := by rw [hstd] at hr; exact hr
  have e2 : F.bL ks = loseL ks := by rw [hstd]; exact bL_ok hr0
  obtain ⟨n1, n2, _⟩ := rightE_ok hr0
  have hll : (F.bL ks).length = ks.length := by rw [e2, loseL_len]
  have hlen := farL_len hF
  have htl : List.take ks.length (F.bL ks) = F.bL ks := List.take_of_length_le (by omega)
  have hpb2 : pb (List.take (List.length ks) ks = List.take (List.length ks) ks ∧ List.take (List.length ks) (F.bL ks) = List.take (F.bL ks).length (F.bL ks) ∧ F.bW ks = F.bW ks) = true := pb_t ⟨rfl, by rw [htl, List.take_length], rfl⟩
  have hpb3 : pb (ks = List.take (List.length ks) ks ∧ F.bL ks = List.take (F.bL ks).length (F.bL ks) ∧ F.bW ks = F.bW ks) = true := pb_t ⟨(List.take_length).symm, (List.take_length).symm, rfl⟩
  have hpb : (!pb (List.take (List.length ks) ks = List.take (List.length ks) ks ∧ List.take (List.length ks) (F.bL ks) = List.take (F.bL ks).length (F.bL ks) ∧ F.bW ks = F.bW ks)) = false := by
    rw [pb_t ⟨rfl, by rw [htl, List.take_length], rfl⟩]
    rfl
  by_cases hrep : F.rE ks (F.bL ks) (F.bW ks) k d = 0
  · refine ⟨lOw_C3, callG (lOw_G3 F) lOw_C3 1, tbOk, lOw_D3, callG_ok mixed tbOk lOw_D3 FnsOk.nil (lOw_gs3 hstd) 1, ?_⟩
    show bodyA _ _ _ [.lst keyT ks, .agg [.str k, .bool d]] [] _
    have hrepT : F.rE ks (List.take (List.length ks) (F.bL ks)) (F.bW ks) k d = 0 := by rw [htl]; exact hrep
    obtain ⟨q, hf⟩ := repF (show repE ks (F.bL ks) (F.bW ks) (mkK k d) = 0 by rw [hstd] at hrep ⊢; exact hrep)
    have hlK : (F.rK ks (F.bL ks) (F.bW ks) k d).length = ks.length := by
      have := hf.K
      rw [hstd] at this ⊢
      exact (congrArg List.length this).trans (List.length_set ..)
    have hlL : (F.rL ks (F.bL ks) (F.bW ks) k d).length = ks.length := by
      have := hf.L
      rw [hstd] at this ⊢
      exact (congrArg List.length this).trans ((loseL_len _).trans (List.length_set ..))
    conv => whnf
    iterate 8 first
      | (refine idx_kn (by assumption) ?_; conv => whnf)
      | (refine idx_ki (by assumption) (by omega) ?_; conv => whnf)
      | (refine br_true (by first | with_reducible exact rfl | assumption | decide) ?_; conv => whnf)
      | (refine br_false (by first | with_reducible exact rfl | assumption | decide) ?_; conv => whnf)
      | ((with_reducible refine br_kt (by assumption) ?_); conv => whnf)
      | ((with_reducible refine br_kf (by assumption) ?_); conv => whnf)
      | ((with_reducible refine br_nt (by assumption) ?_); conv => whnf)
      | ((with_reducible refine br_nf (by assumption) ?_); conv => whnf)
      | ((with_reducible refine br_et (by assumption) ?_); conv => whnf)
      | ((with_reducible refine br_ef (by assumption) ?_); conv => whnf)
      | ((with_reducible refine br_dec (fun h => ?_) (fun h => ?_)) <;> first | (exfalso; omega) | conv => whnf)
      | ((with_reducible refine br_ndec (fun h => ?_) (fun h => ?_)) <;> first | (exfalso; omega) | conv => whnf)
      | ((with_reducible refine br_ne (fun h => ?_) (fun h => ?_)) <;> first | (exfalso; omega) | conv => whnf)
      | ((with_reducible refine br_eq (fun h => ?_) (fun h => ?_)) <;> first | (exfalso; omega) | conv => whnf)
      | (refine br_intro (fun h => ?_) (fun h => ?_) <;> conv => whnf)
      | (refine need_in (by first | exact trivial | assumption | exact ⟨rfl, Nat.le_refl _⟩ | exact ⟨rfl, rfl⟩ | (simp only [inR]; omega) | omega | (simp only [roomP, true_and, and_true, List.length_take, List.length_drop, List.length_append, List.length_cons, List.length_nil, List.length_set, List.length_replicate]; omega) | (refine ⟨by first | exact trivial | rfl, by first | exact Nat.le_refl _ | omega, ?_⟩; change roomP _ _ 1; simp only [roomP]; omega) | (change roomP _ _ 1; simp only [roomP]; omega) | (simp; omega) | (simp [inR]; omega) | (simp [inR]; done) | decide | (simp; done)) ?_; conv => whnf)
      | (refine idx_nat (by omega) (fun x hx => ?_); conv => whnf)
      | (refine frz_auto ?_; conv => whnf)
      | (refine draw_plain ?_; conv => whnf)
      | (refine idx_intro (by omega) (by omega) (fun x hx => ?_); conv => whnf)
      | (refine idx_intro (by first | omega | (simp; omega) | (simp; done)) (by first | omega | (simp; omega) | (simp; done)) (fun x hx => ?_); conv => whnf)
      | fail
    simp only [cast_self, List.take_zero, List.nil_append, Nat.zero_add, List.take_length]
    conv => whnf
    iterate 6 first
      | (refine idx_kn (by assumption) ?_; conv => whnf)
      | (refine idx_ki (by assumption) (by omega) ?_; conv => whnf)
      | (refine br_true (by first | with_reducible exact rfl | assumption | decide) ?_; conv => whnf)
      | (refine br_false (by first | with_reducible exact rfl | assumption | decide) ?_; conv => whnf)
      | ((with_reducible refine br_kt (by assumption) ?_); conv => whnf)
      | ((with_reducible refine br_kf (by assumption) ?_); conv => whnf)
      | ((with_reducible refine br_nt (by assumption) ?_); conv => whnf)
      | ((with_reducible refine br_nf (by assumption) ?_); conv => whnf)
      | ((with_reducible refine br_et (by assumption) ?_); conv => whnf)
      | ((with_reducible refine br_ef (by assumption) ?_); conv => whnf)
      | ((with_reducible refine br_dec (fun h => ?_) (fun h => ?_)) <;> first | (exfalso; omega) | conv => whnf)
      | ((with_reducible refine br_ndec (fun h => ?_) (fun h => ?_)) <;> first | (exfalso; omega) | conv => whnf)
      | ((with_reducible refine br_ne (fun h => ?_) (fun h => ?_)) <;> first | (exfalso; omega) | conv => whnf)
      | ((with_reducible refine br_eq (fun h => ?_) (fun h => ?_)) <;> first | (exfalso; omega) | conv => whnf)
      | (refine br_intro (fun h => ?_) (fun h => ?_) <;> conv => whnf)
      | (refine need_in (by first | exact trivial | assumption | exact ⟨rfl, Nat.le_refl _⟩ | exact ⟨rfl, rfl⟩ | (simp only [inR]; omega) | omega | (simp only [roomP, true_and, and_true, List.length_take, List.length_drop, List.length_append, List.length_cons, List.length_nil, List.length_set, List.length_replicate]; omega) | (refine ⟨by first | exact trivial | rfl, by first | exact Nat.le_refl _ | omega, ?_⟩; change roomP _ _ 1; simp only [roomP]; omega) | (change roomP _ _ 1; simp only [roomP]; omega) | (simp; omega) | (simp [inR]; omega) | (simp [inR]; done) | decide | (simp; done)) ?_; conv => whnf)
      | (refine idx_nat (by omega) (fun x hx => ?_); conv => whnf)
      | (refine frz_auto ?_; conv => whnf)
      | (refine draw_plain ?_; conv => whnf)
      | (refine idx_intro (by omega) (by omega) (fun x hx => ?_); conv => whnf)
      | (refine idx_intro (by first | omega | (simp; omega) | (simp; done)) (by first | omega | (simp; omega) | (simp; done)) (fun x hx => ?_); conv => whnf)
      | fail
    simp only [cast_self, List.take_zero, List.nil_append, Nat.zero_add, List.take_length, htl]
    conv => whnf
    repeat' first
      | (refine idx_kn (by assumption) ?_; conv => whnf)
      | (refine idx_ki (by assumption) (by omega) ?_; conv => whnf)
      | (refine br_true (by first | with_reducible exact rfl | assumption | decide) ?_; conv => whnf)
      | (refine br_false (by first | with_reducible exact rfl | assumption | decide) ?_; conv => whnf)
      | ((with_reducible refine br_kt (by assumption) ?_); conv => whnf)
      | ((with_reducible refine br_kf (by assumption) ?_); conv => whnf)
      | ((with_reducible refine br_nt (by assumption) ?_); conv => whnf)
      | ((with_reducible refine br_nf (by assumption) ?_); conv => whnf)
      | ((with_reducible refine br_et (by assumption) ?_); conv => whnf)
      | ((with_reducible refine br_ef (by assumption) ?_); conv => whnf)
      | ((with_reducible refine br_dec (fun h => ?_) (fun h => ?_)) <;> first | (exfalso; omega) | conv => whnf)
      | ((with_reducible refine br_ndec (fun h => ?_) (fun h => ?_)) <;> first | (exfalso; omega) | conv => whnf)
      | ((with_reducible refine br_ne (fun h => ?_) (fun h => ?_)) <;> first | (exfalso; omega) | conv => whnf)
      | ((with_reducible refine br_eq (fun h => ?_) (fun h => ?_)) <;> first | (exfalso; omega) | conv => whnf)
      | (refine br_intro (fun h => ?_) (fun h => ?_) <;> conv => whnf)
      | (refine need_in (by first | exact trivial | assumption | exact ⟨rfl, Nat.le_refl _⟩ | exact ⟨rfl, rfl⟩ | (simp only [inR]; omega) | omega | (simp only [roomP, true_and, and_true, List.length_take, List.length_drop, List.length_append, List.length_cons, List.length_nil, List.length_set, List.length_replicate]; omega) | (refine ⟨by first | exact trivial | rfl, by first | exact Nat.le_refl _ | omega, ?_⟩; change roomP _ _ 1; simp only [roomP]; omega) | (change roomP _ _ 1; simp only [roomP]; omega) | (simp; omega) | (simp [inR]; omega) | (simp [inR]; done) | decide | (simp; done)) ?_; conv => whnf)
      | (refine idx_nat (by omega) (fun x hx => ?_); conv => whnf)
      | (refine frz_auto ?_; conv => whnf)
      | (refine draw_plain ?_; conv => whnf)
      | (refine idx_intro (by omega) (by omega) (fun x hx => ?_); conv => whnf)
      | (refine idx_intro (by first | omega | (simp; omega) | (simp; done)) (by first | omega | (simp; omega) | (simp; done)) (fun x hx => ?_); conv => whnf)
      | fail
    simp only [List.take_length, htl]
    refine loop_inv [] [12] (fun vs h => ∃ (i : Nat) (own : List keyT.El), vs = [.int .i64 (i : Int)] ∧ h = hpO3 F ks own (F.rK ks (F.bL ks) (F.bW ks) k d) (F.rL ks (F.bL ks) (F.bW ks) k d) (F.rW ks (F.bL ks) (F.bW ks) k d) k d ∧ own.length = ks.length ∧ i ≤ ks.length) (fun vs _ => match vs with | [.int _ j] => ks.length - j.toNat | _ => 0) ?_
    refine ⟨⟨0, ks, rfl, ?_, rfl, Nat.zero_le _⟩, ?_⟩
    · rfl
    rintro vs h' - ⟨i, own, rfl, rfl, hown, hi⟩
    unfold hpO3
    conv => whnf
    by_cases hil : i < ks.length
    · skip
      repeat' first
        | (refine idx_kn (by assumption) ?_; conv => whnf)
        | (refine idx_ki (by assumption) (by omega) ?_; conv => whnf)
        | (refine br_true (by first | with_reducible exact rfl | assumption | decide) ?_; conv => whnf)
        | (refine br_false (by first | with_reducible exact rfl | assumption | decide) ?_; conv => whnf)
        | ((with_reducible refine br_kt (by assumption) ?_); conv => whnf)
        | ((with_reducible refine br_kf (by assumption) ?_); conv => whnf)
        | ((with_reducible refine br_nt (by assumption) ?_); conv => whnf)
        | ((with_reducible refine br_nf (by assumption) ?_); conv => whnf)
        | ((with_reducible refine br_et (by assumption) ?_); conv => whnf)
        | ((with_reducible refine br_ef (by assumption) ?_); conv => whnf)
        | ((with_reducible refine br_dec (fun h => ?_) (fun h => ?_)) <;> first | (exfalso; omega) | conv => whnf)
        | ((with_reducible refine br_ndec (fun h => ?_) (fun h => ?_)) <;> first | (exfalso; omega) | conv => whnf)
        | ((with_reducible refine br_ne (fun h => ?_) (fun h => ?_)) <;> first | (exfalso; omega) | conv => whnf)
        | ((with_reducible refine br_eq (fun h => ?_) (fun h => ?_)) <;> first | (exfalso; omega) | conv => whnf)
        | (refine br_intro (fun h => ?_) (fun h => ?_) <;> conv => whnf)
        | (refine need_in (by first | exact trivial | assumption | exact ⟨rfl, Nat.le_refl _⟩ | exact ⟨rfl, rfl⟩ | (simp only [inR]; omega) | omega | (simp only [roomP, true_and, and_true, List.length_take, List.length_drop, List.length_append, List.length_cons, List.length_nil, List.length_set, List.length_replicate]; omega) | (refine ⟨by first | exact trivial | rfl, by first | exact Nat.le_refl _ | omega, ?_⟩; change roomP _ _ 1; simp only [roomP]; omega) | (change roomP _ _ 1; simp only [roomP]; omega) | (simp; omega) | (simp [inR]; omega) | (simp [inR]; done) | decide | (simp; done)) ?_; conv => whnf)
        | (refine idx_nat (by omega) (fun x hx => ?_); conv => whnf)
        | (refine frz_auto ?_; conv => whnf)
        | (refine draw_plain ?_; conv => whnf)
        | (refine idx_intro (by omega) (by omega) (fun x hx => ?_); conv => whnf)
        | (refine idx_intro (by first | omega | (simp; omega) | (simp; done)) (by first | omega | (simp; omega) | (simp; done)) (fun x hx => ?_); conv => whnf)
        | fail
      refine back_intro (by conv => whnf) rfl ⟨i + 1, _, rfl, rfl, ?_, by omega⟩ ?_
      · exact (List.length_set ..).trans hown
      · show ks.length - ((i : Int) + 1).toNat < ks.length - (i : Int).toNat
        omega
    repeat' first
      | (refine idx_kn (by assumption) ?_; conv => whnf)
      | (refine idx_ki (by assumption) (by omega) ?_; conv => whnf)
      | (refine br_true (by first | with_reducible exact rfl | assumption | decide) ?_; conv => whnf)
      | (refine br_false (by first | with_reducible exact rfl | assumption | decide) ?_; conv => whnf)
      | ((with_reducible refine br_kt (by assumption) ?_); conv => whnf)
      | ((with_reducible refine br_kf (by assumption) ?_); conv => whnf)
      | ((with_reducible refine br_nt (by assumption) ?_); conv => whnf)
      | ((with_reducible refine br_nf (by assumption) ?_); conv => whnf)
      | ((with_reducible refine br_et (by assumption) ?_); conv => whnf)
      | ((with_reducible refine br_ef (by assumption) ?_); conv => whnf)
      | ((with_reducible refine br_dec (fun h => ?_) (fun h => ?_)) <;> first | (exfalso; omega) | conv => whnf)
      | ((with_reducible refine br_ndec (fun h => ?_) (fun h => ?_)) <;> first | (exfalso; omega) | conv => whnf)
      | ((with_reducible refine br_ne (fun h => ?_) (fun h => ?_)) <;> first | (exfalso; omega) | conv => whnf)
      | ((with_reducible refine br_eq (fun h => ?_) (fun h => ?_)) <;> first | (exfalso; omega) | conv => whnf)
      | (refine br_intro (fun h => ?_) (fun h => ?_) <;> conv => whnf)
      | (refine need_in (by first | exact trivial | assumption | exact ⟨rfl, Nat.le_refl _⟩ | exact ⟨rfl, rfl⟩ | (simp only [inR]; omega) | omega | (simp only [roomP, true_and, and_true, List.length_take, List.length_drop, List.length_append, List.length_cons, List.length_nil, List.length_set, List.length_replicate]; omega) | (refine ⟨by first | exact trivial | rfl, by first | exact Nat.le_refl _ | omega, ?_⟩; change roomP _ _ 1; simp only [roomP]; omega) | (change roomP _ _ 1; simp only [roomP]; omega) | (simp; omega) | (simp [inR]; omega) | (simp [inR]; done) | decide | (simp; done)) ?_; conv => whnf)
      | (refine idx_nat (by omega) (fun x hx => ?_); conv => whnf)
      | (refine frz_auto ?_; conv => whnf)
      | (refine draw_plain ?_; conv => whnf)
      | (refine idx_intro (by omega) (by omega) (fun x hx => ?_); conv => whnf)
      | (refine idx_intro (by first | omega | (simp; omega) | (simp; done)) (by first | omega | (simp; omega) | (simp; done)) (fun x hx => ?_); conv => whnf)
      | fail
    refine loop_inv [] [13] (fun vs h => ∃ (i : Nat) (uK : List keyT.El) (uL : List intT.El), vs = [.int .i64 (i : Int)] ∧ h = hpO3 F ks own uK uL (F.rW ks (F.bL ks) (F.bW ks) k d) k d ∧ uK.length = ks.length ∧ uL.length = ks.length ∧ i ≤ ks.length) (fun vs _ => match vs with | [.int _ j] => ks.length - j.toNat | _ => 0) ?_
    refine ⟨⟨0, _, _, rfl, rfl, hlK, hlL, Nat.zero_le _⟩, ?_⟩
    rintro vs h' - ⟨j, uK, uL, rfl, rfl, huK, huL, hj⟩
    unfold hpO3
    conv => whnf
    by_cases hjl : j < ks.length
    · skip
      repeat' first
        | (refine idx_kn (by assumption) ?_; conv => whnf)
        | (refine idx_ki (by assumption) (by omega) ?_; conv => whnf)
        | (refine br_true (by first | with_reducible exact rfl | assumption | decide) ?_; conv => whnf)
        | (refine br_false (by first | with_reducible exact rfl | assumption | decide) ?_; conv => whnf)
        | ((with_reducible refine br_kt (by assumption) ?_); conv => whnf)
        | ((with_reducible refine br_kf (by assumption) ?_); conv => whnf)
        | ((with_reducible refine br_nt (by assumption) ?_); conv => whnf)
        | ((with_reducible refine br_nf (by assumption) ?_); conv => whnf)
        | ((with_reducible refine br_et (by assumption) ?_); conv => whnf)
        | ((with_reducible refine br_ef (by assumption) ?_); conv => whnf)
        | ((with_reducible refine br_dec (fun h => ?_) (fun h => ?_)) <;> first | (exfalso; omega) | conv => whnf)
        | ((with_reducible refine br_ndec (fun h => ?_) (fun h => ?_)) <;> first | (exfalso; omega) | conv => whnf)
        | ((with_reducible refine br_ne (fun h => ?_) (fun h => ?_)) <;> first | (exfalso; omega) | conv => whnf)
        | ((with_reducible refine br_eq (fun h => ?_) (fun h => ?_)) <;> first | (exfalso; omega) | conv => whnf)
        | (refine br_intro (fun h => ?_) (fun h => ?_) <;> conv => whnf)
        | (refine need_in (by first | exact trivial | assumption | exact ⟨rfl, Nat.le_refl _⟩ | exact ⟨rfl, rfl⟩ | (simp only [inR]; omega) | omega | (simp only [roomP, true_and, and_true, List.length_take, List.length_drop, List.length_append, List.length_cons, List.length_nil, List.length_set, List.length_replicate]; omega) | (refine ⟨by first | exact trivial | rfl, by first | exact Nat.le_refl _ | omega, ?_⟩; change roomP _ _ 1; simp only [roomP]; omega) | (change roomP _ _ 1; simp only [roomP]; omega) | (simp; omega) | (simp [inR]; omega) | (simp [inR]; done) | decide | (simp; done)) ?_; conv => whnf)
        | (refine idx_nat (by omega) (fun x hx => ?_); conv => whnf)
        | (refine frz_auto ?_; conv => whnf)
        | (refine draw_plain ?_; conv => whnf)
        | (refine idx_intro (by omega) (by omega) (fun x hx => ?_); conv => whnf)
        | (refine idx_intro (by first | omega | (simp; omega) | (simp; done)) (by first | omega | (simp; omega) | (simp; done)) (fun x hx => ?_); conv => whnf)
        | fail
      refine back_intro (by conv => whnf) rfl ⟨j + 1, _, _, rfl, rfl, ?_, ?_, by omega⟩ ?_
      · exact (List.length_set ..).trans huK
      · exact (List.length_set ..).trans huL
      · show ks.length - ((j : Int) + 1).toNat < ks.length - (j : Int).toNat
        omega
    · skip
      repeat' first
        | (refine idx_kn (by assumption) ?_; conv => whnf)
        | (refine idx_ki (by assumption) (by omega) ?_; conv => whnf)
        | (refine br_true (by first | with_reducible exact rfl | assumption | decide) ?_; conv => whnf)
        | (refine br_false (by first | with_reducible exact rfl | assumption | decide) ?_; conv => whnf)
        | ((with_reducible refine br_kt (by assumption) ?_); conv => whnf)
        | ((with_reducible refine br_kf (by assumption) ?_); conv => whnf)
        | ((with_reducible refine br_nt (by assumption) ?_); conv => whnf)
        | ((with_reducible refine br_nf (by assumption) ?_); conv => whnf)
        | ((with_reducible refine br_et (by assumption) ?_); conv => whnf)
        | ((with_reducible refine br_ef (by assumption) ?_); conv => whnf)
        | ((with_reducible refine br_dec (fun h => ?_) (fun h => ?_)) <;> first | (exfalso; omega) | conv => whnf)
        | ((with_reducible refine br_ndec (fun h => ?_) (fun h => ?_)) <;> first | (exfalso; omega) | conv => whnf)
        | ((with_reducible refine br_ne (fun h => ?_) (fun h => ?_)) <;> first | (exfalso; omega) | conv => whnf)
        | ((with_reducible refine br_eq (fun h => ?_) (fun h => ?_)) <;> first | (exfalso; omega) | conv => whnf)
        | (refine br_intro (fun h => ?_) (fun h => ?_) <;> conv => whnf)
        | (refine need_in (by first | exact trivial | assumption | exact ⟨rfl, Nat.le_refl _⟩ | exact ⟨rfl, rfl⟩ | (simp only [inR]; omega) | omega | (simp only [roomP, true_and, and_true, List.length_take, List.length_drop, List.length_append, List.length_cons, List.length_nil, List.length_set, List.length_replicate]; omega) | (refine ⟨by first | exact trivial | rfl, by first | exact Nat.le_refl _ | omega, ?_⟩; change roomP _ _ 1; simp only [roomP]; omega) | (change roomP _ _ 1; simp only [roomP]; omega) | (simp; omega) | (simp [inR]; omega) | (simp [inR]; done) | decide | (simp; done)) ?_; conv => whnf)
        | (refine idx_nat (by omega) (fun x hx => ?_); conv => whnf)
        | (refine frz_auto ?_; conv => whnf)
        | (refine draw_plain ?_; conv => whnf)
        | (refine idx_intro (by omega) (by omega) (fun x hx => ?_); conv => whnf)
        | (refine idx_intro (by first | omega | (simp; omega) | (simp; done)) (by first | omega | (simp; omega) | (simp; done)) (fun x hx => ?_); conv => whnf)
        | fail
      skip
  · refine ⟨lOw_C2 F, callG (lOw_G2 F) (lOw_C2 F) 1, tbOk, lOw_D2 hstd, callG_ok mixed tbOk (lOw_D2 hstd) FnsOk.nil (lOw_gs2 hstd) 1, ?_⟩
    show bodyA _ _ _ [.lst keyT ks, .agg [.str k, .bool d]] [] _
    have hb1 : (F.rK ks (F.bL ks) (F.bW ks) k d).length = 0 := by
      have e : F.rK ks (F.bL ks) (F.bW ks) k d = [] := by rw [hstd] at hrep ⊢; exact (rep_bad hrep).1
      rw [e]; rfl
    conv => whnf
    iterate 8 first
      | (refine idx_kn (by assumption) ?_; conv => whnf)
      | (refine idx_ki (by assumption) (by omega) ?_; conv => whnf)
      | (refine br_true (by first | with_reducible exact rfl | assumption | decide) ?_; conv => whnf)
      | (refine br_false (by first | with_reducible exact rfl | assumption | decide) ?_; conv => whnf)
      | ((with_reducible refine br_kt (by assumption) ?_); conv => whnf)
      | ((with_reducible refine br_kf (by assumption) ?_); conv => whnf)
      | ((with_reducible refine br_nt (by assumption) ?_); conv => whnf)
      | ((with_reducible refine br_nf (by assumption) ?_); conv => whnf)
      | ((with_reducible refine br_et (by assumption) ?_); conv => whnf)
      | ((with_reducible refine br_ef (by assumption) ?_); conv => whnf)
      | ((with_reducible refine br_dec (fun h => ?_) (fun h => ?_)) <;> first | (exfalso; omega) | conv => whnf)
      | ((with_reducible refine br_ndec (fun h => ?_) (fun h => ?_)) <;> first | (exfalso; omega) | conv => whnf)
      | ((with_reducible refine br_ne (fun h => ?_) (fun h => ?_)) <;> first | (exfalso; omega) | conv => whnf)
      | ((with_reducible refine br_eq (fun h => ?_) (fun h => ?_)) <;> first | (exfalso; omega) | conv => whnf)
      | (refine br_intro (fun h => ?_) (fun h => ?_) <;> conv => whnf)
      | (refine need_in (by first | exact trivial | assumption | exact ⟨rfl, Nat.le_refl _⟩ | exact ⟨rfl, rfl⟩ | (simp only [inR]; omega) | omega | (simp only [roomP, true_and, and_true, List.length_take, List.length_drop, List.length_append, List.length_cons, List.length_nil, List.length_set, List.length_replicate]; omega) | (refine ⟨by first | exact trivial | rfl, by first | exact Nat.le_refl _ | omega, ?_⟩; change roomP _ _ 1; simp only [roomP]; omega) | (change roomP _ _ 1; simp only [roomP]; omega) | (simp; omega) | (simp [inR]; omega) | (simp [inR]; done) | decide | (simp; done)) ?_; conv => whnf)
      | (refine idx_nat (by omega) (fun x hx => ?_); conv => whnf)
      | (refine frz_auto ?_; conv => whnf)
      | (refine draw_plain ?_; conv => whnf)
      | (refine idx_intro (by omega) (by omega) (fun x hx => ?_); conv => whnf)
      | (refine idx_intro (by first | omega | (simp; omega) | (simp; done)) (by first | omega | (simp; omega) | (simp; done)) (fun x hx => ?_); conv => whnf)
      | fail
    simp only [cast_self, List.take_zero, List.nil_append, Nat.zero_add, List.take_length]
    conv => whnf
    iterate 6 first
      | (refine idx_kn (by assumption) ?_; conv => whnf)
      | (refine idx_ki (by assumption) (by omega) ?_; conv => whnf)
      | (refine br_true (by first | with_reducible exact rfl | assumption | decide) ?_; conv => whnf)
      | (refine br_false (by first | with_reducible exact rfl | assumption | decide) ?_; conv => whnf)
      | ((with_reducible refine br_kt (by assumption) ?_); conv => whnf)
      | ((with_reducible refine br_kf (by assumption) ?_); conv => whnf)
      | ((with_reducible refine br_nt (by assumption) ?_); conv => whnf)
      | ((with_reducible refine br_nf (by assumption) ?_); conv => whnf)
      | ((with_reducible refine br_et (by assumption) ?_); conv => whnf)
      | ((with_reducible refine br_ef (by assumption) ?_); conv => whnf)
      | ((with_reducible refine br_dec (fun h => ?_) (fun h => ?_)) <;> first | (exfalso; omega) | conv => whnf)
      | ((with_reducible refine br_ndec (fun h => ?_) (fun h => ?_)) <;> first | (exfalso; omega) | conv => whnf)
      | ((with_reducible refine br_ne (fun h => ?_) (fun h => ?_)) <;> first | (exfalso; omega) | conv => whnf)
      | ((with_reducible refine br_eq (fun h => ?_) (fun h => ?_)) <;> first | (exfalso; omega) | conv => whnf)
      | (refine br_intro (fun h => ?_) (fun h => ?_) <;> conv => whnf)
      | (refine need_in (by first | exact trivial | assumption | exact ⟨rfl, Nat.le_refl _⟩ | exact ⟨rfl, rfl⟩ | (simp only [inR]; omega) | omega | (simp only [roomP, true_and, and_true, List.length_take, List.length_drop, List.length_append, List.length_cons, List.length_nil, List.length_set, List.length_replicate]; omega) | (refine ⟨by first | exact trivial | rfl, by first | exact Nat.le_refl _ | omega, ?_⟩; change roomP _ _ 1; simp only [roomP]; omega) | (change roomP _ _ 1; simp only [roomP]; omega) | (simp; omega) | (simp [inR]; omega) | (simp [inR]; done) | decide | (simp; done)) ?_; conv => whnf)
      | (refine idx_nat (by omega) (fun x hx => ?_); conv => whnf)
      | (refine frz_auto ?_; conv => whnf)
      | (refine draw_plain ?_; conv => whnf)
      | (refine idx_intro (by omega) (by omega) (fun x hx => ?_); conv => whnf)
      | (refine idx_intro (by first | omega | (simp; omega) | (simp; done)) (by first | omega | (simp; omega) | (simp; done)) (fun x hx => ?_); conv => whnf)
      | fail
    simp only [cast_self, List.take_zero, List.nil_append, Nat.zero_add, List.take_length, htl]
    conv => whnf
    repeat' first
      | (refine idx_kn (by assumption) ?_; conv => whnf)
      | (refine idx_ki (by assumption) (by omega) ?_; conv => whnf)
      | (refine br_true (by first | with_reducible exact rfl | assumption | decide) ?_; conv => whnf)
      | (refine br_false (by first | with_reducible exact rfl | assumption | decide) ?_; conv => whnf)
      | ((with_reducible refine br_kt (by assumption) ?_); conv => whnf)
      | ((with_reducible refine br_kf (by assumption) ?_); conv => whnf)
      | ((with_reducible refine br_nt (by assumption) ?_); conv => whnf)
      | ((with_reducible refine br_nf (by assumption) ?_); conv => whnf)
      | ((with_reducible refine br_et (by assumption) ?_); conv => whnf)
      | ((with_reducible refine br_ef (by assumption) ?_); conv => whnf)
      | ((with_reducible refine br_dec (fun h => ?_) (fun h => ?_)) <;> first | (exfalso; omega) | conv => whnf)
      | ((with_reducible refine br_ndec (fun h => ?_) (fun h => ?_)) <;> first | (exfalso; omega) | conv => whnf)
      | ((with_reducible refine br_ne (fun h => ?_) (fun h => ?_)) <;> first | (exfalso; omega) | conv => whnf)
      | ((with_reducible refine br_eq (fun h => ?_) (fun h => ?_)) <;> first | (exfalso; omega) | conv => whnf)
      | (refine br_intro (fun h => ?_) (fun h => ?_) <;> conv => whnf)
      | (refine need_in (by first | exact trivial | assumption | exact ⟨rfl, Nat.le_refl _⟩ | exact ⟨rfl, rfl⟩ | (simp only [inR]; omega) | omega | (simp only [roomP, true_and, and_true, List.length_take, List.length_drop, List.length_append, List.length_cons, List.length_nil, List.length_set, List.length_replicate]; omega) | (refine ⟨by first | exact trivial | rfl, by first | exact Nat.le_refl _ | omega, ?_⟩; change roomP _ _ 1; simp only [roomP]; omega) | (change roomP _ _ 1; simp only [roomP]; omega) | (simp; omega) | (simp [inR]; omega) | (simp [inR]; done) | decide | (simp; done)) ?_; conv => whnf)
      | (refine idx_nat (by omega) (fun x hx => ?_); conv => whnf)
      | (refine frz_auto ?_; conv => whnf)
      | (refine draw_plain ?_; conv => whnf)
      | (refine idx_intro (by omega) (by omega) (fun x hx => ?_); conv => whnf)
      | (refine idx_intro (by first | omega | (simp; omega) | (simp; done)) (by first | omega | (simp; omega) | (simp; done)) (fun x hx => ?_); conv => whnf)
      | fail
    simp only [List.take_length, htl]
    refine loop_inv [] [12] (fun vs h => ∃ (i : Nat) (own : List keyT.El), vs = [.int .i64 (i : Int)] ∧ h = hpO2 F ks own (F.rK ks (F.bL ks) (F.bW ks) k d) (F.rL ks (F.bL ks) (F.bW ks) k d) (F.rW ks (F.bL ks) (F.bW ks) k d) k d ∧ own.length = ks.length ∧ i ≤ ks.length) (fun vs _ => match vs with | [.int _ j] => ks.length - j.toNat | _ => 0) ?_
    refine ⟨⟨0, ks, rfl, ?_, rfl, Nat.zero_le _⟩, ?_⟩
    · rfl
    rintro vs h' - ⟨i, own, rfl, rfl, hown, hi⟩
    unfold hpO2
    conv => whnf
    by_cases hil : i < ks.length
    · skip
      repeat' first
        | (refine idx_kn (by assumption) ?_; conv => whnf)
        | (refine idx_ki (by assumption) (by omega) ?_; conv => whnf)
        | (refine br_true (by first | with_reducible exact rfl | assumption | decide) ?_; conv => whnf)
        | (refine br_false (by first | with_reducible exact rfl | assumption | decide) ?_; conv => whnf)
        | ((with_reducible refine br_kt (by assumption) ?_); conv => whnf)
        | ((with_reducible refine br_kf (by assumption) ?_); conv => whnf)
        | ((with_reducible refine br_nt (by assumption) ?_); conv => whnf)
        | ((with_reducible refine br_nf (by assumption) ?_); conv => whnf)
        | ((with_reducible refine br_et (by assumption) ?_); conv => whnf)
        | ((with_reducible refine br_ef (by assumption) ?_); conv => whnf)
        | ((with_reducible refine br_dec (fun h => ?_) (fun h => ?_)) <;> first | (exfalso; omega) | conv => whnf)
        | ((with_reducible refine br_ndec (fun h => ?_) (fun h => ?_)) <;> first | (exfalso; omega) | conv => whnf)
        | ((with_reducible refine br_ne (fun h => ?_) (fun h => ?_)) <;> first | (exfalso; omega) | conv => whnf)
        | ((with_reducible refine br_eq (fun h => ?_) (fun h => ?_)) <;> first | (exfalso; omega) | conv => whnf)
        | (refine br_intro (fun h => ?_) (fun h => ?_) <;> conv => whnf)
        | (refine need_in (by first | exact trivial | assumption | exact ⟨rfl, Nat.le_refl _⟩ | exact ⟨rfl, rfl⟩ | (simp only [inR]; omega) | omega | (simp only [roomP, true_and, and_true, List.length_take, List.length_drop, List.length_append, List.length_cons, List.length_nil, List.length_set, List.length_replicate]; omega) | (refine ⟨by first | exact trivial | rfl, by first | exact Nat.le_refl _ | omega, ?_⟩; change roomP _ _ 1; simp only [roomP]; omega) | (change roomP _ _ 1; simp only [roomP]; omega) | (simp; omega) | (simp [inR]; omega) | (simp [inR]; done) | decide | (simp; done)) ?_; conv => whnf)
        | (refine idx_nat (by omega) (fun x hx => ?_); conv => whnf)
        | (refine frz_auto ?_; conv => whnf)
        | (refine draw_plain ?_; conv => whnf)
        | (refine idx_intro (by omega) (by omega) (fun x hx => ?_); conv => whnf)
        | (refine idx_intro (by first | omega | (simp; omega) | (simp; done)) (by first | omega | (simp; omega) | (simp; done)) (fun x hx => ?_); conv => whnf)
        | fail
      refine back_intro (by conv => whnf) rfl ⟨i + 1, _, rfl, rfl, ?_, by omega⟩ ?_
      · exact (List.length_set ..).trans hown
      · show ks.length - ((i : Int) + 1).toNat < ks.length - (i : Int).toNat
        omega
    repeat' first
      | (refine idx_kn (by assumption) ?_; conv => whnf)
      | (refine idx_ki (by assumption) (by omega) ?_; conv => whnf)
      | (refine br_true (by first | with_reducible exact rfl | assumption | decide) ?_; conv => whnf)
      | (refine br_false (by first | with_reducible exact rfl | assumption | decide) ?_; conv => whnf)
      | ((with_reducible refine br_kt (by assumption) ?_); conv => whnf)
      | ((with_reducible refine br_kf (by assumption) ?_); conv => whnf)
      | ((with_reducible refine br_nt (by assumption) ?_); conv => whnf)
      | ((with_reducible refine br_nf (by assumption) ?_); conv => whnf)
      | ((with_reducible refine br_et (by assumption) ?_); conv => whnf)
      | ((with_reducible refine br_ef (by assumption) ?_); conv => whnf)
      | ((with_reducible refine br_dec (fun h => ?_) (fun h => ?_)) <;> first | (exfalso; omega) | conv => whnf)
      | ((with_reducible refine br_ndec (fun h => ?_) (fun h => ?_)) <;> first | (exfalso; omega) | conv => whnf)
      | ((with_reducible refine br_ne (fun h => ?_) (fun h => ?_)) <;> first | (exfalso; omega) | conv => whnf)
      | ((with_reducible refine br_eq (fun h => ?_) (fun h => ?_)) <;> first | (exfalso; omega) | conv => whnf)
      | (refine br_intro (fun h => ?_) (fun h => ?_) <;> conv => whnf)
      | (refine need_in (by first | exact trivial | assumption | exact ⟨rfl, Nat.le_refl _⟩ | exact ⟨rfl, rfl⟩ | (simp only [inR]; omega) | omega | (simp only [roomP, true_and, and_true, List.length_take, List.length_drop, List.length_append, List.length_cons, List.length_nil, List.length_set, List.length_replicate]; omega) | (refine ⟨by first | exact trivial | rfl, by first | exact Nat.le_refl _ | omega, ?_⟩; change roomP _ _ 1; simp only [roomP]; omega) | (change roomP _ _ 1; simp only [roomP]; omega) | (simp; omega) | (simp [inR]; omega) | (simp [inR]; done) | decide | (simp; done)) ?_; conv => whnf)
      | (refine idx_nat (by omega) (fun x hx => ?_); conv => whnf)
      | (refine frz_auto ?_; conv => whnf)
      | (refine draw_plain ?_; conv => whnf)
      | (refine idx_intro (by omega) (by omega) (fun x hx => ?_); conv => whnf)
      | (refine idx_intro (by first | omega | (simp; omega) | (simp; done)) (by first | omega | (simp; omega) | (simp; done)) (fun x hx => ?_); conv => whnf)
      | fail
    refine loop_inv [] [13] (fun vs h => vs = [.int .i64 0] ∧ h = hpO2 F ks own (F.rK ks (F.bL ks) (F.bW ks) k d) (F.rL ks (F.bL ks) (F.bW ks) k d) (F.rW ks (F.bL ks) (F.bW ks) k d) k d) (fun _ _ => 0) ?_
    refine ⟨⟨rfl, rfl⟩, ?_⟩
    rintro vs h' - ⟨rfl, rfl⟩
    unfold hpO2
    conv => whnf
    repeat' first
      | (refine idx_kn (by assumption) ?_; conv => whnf)
      | (refine idx_ki (by assumption) (by omega) ?_; conv => whnf)
      | (refine br_true (by first | with_reducible exact rfl | assumption | decide) ?_; conv => whnf)
      | (refine br_false (by first | with_reducible exact rfl | assumption | decide) ?_; conv => whnf)
      | ((with_reducible refine br_kt (by assumption) ?_); conv => whnf)
      | ((with_reducible refine br_kf (by assumption) ?_); conv => whnf)
      | ((with_reducible refine br_nt (by assumption) ?_); conv => whnf)
      | ((with_reducible refine br_nf (by assumption) ?_); conv => whnf)
      | ((with_reducible refine br_et (by assumption) ?_); conv => whnf)
      | ((with_reducible refine br_ef (by assumption) ?_); conv => whnf)
      | ((with_reducible refine br_dec (fun h => ?_) (fun h => ?_)) <;> first | (exfalso; omega) | conv => whnf)
      | ((with_reducible refine br_ndec (fun h => ?_) (fun h => ?_)) <;> first | (exfalso; omega) | conv => whnf)
      | ((with_reducible refine br_ne (fun h => ?_) (fun h => ?_)) <;> first | (exfalso; omega) | conv => whnf)
      | ((with_reducible refine br_eq (fun h => ?_) (fun h => ?_)) <;> first | (exfalso; omega) | conv => whnf)
      | (refine br_intro (fun h => ?_) (fun h => ?_) <;> conv => whnf)
      | (refine need_in (by first | exact trivial | assumption | exact ⟨rfl, Nat.le_refl _⟩ | exact ⟨rfl, rfl⟩ | (simp only [inR]; omega) | omega | (simp only [roomP, true_and, and_true, List.length_take, List.length_drop, List.length_append, List.length_cons, List.length_nil, List.length_set, List.length_replicate]; omega) | (refine ⟨by first | exact trivial | rfl, by first | exact Nat.le_refl _ | omega, ?_⟩; change roomP _ _ 1; simp only [roomP]; omega) | (change roomP _ _ 1; simp only [roomP]; omega) | (simp; omega) | (simp [inR]; omega) | (simp [inR]; done) | decide | (simp; done)) ?_; conv => whnf)
      | (refine idx_nat (by omega) (fun x hx => ?_); conv => whnf)
      | (refine frz_auto ?_; conv => whnf)
      | (refine draw_plain ?_; conv => whnf)
      | (refine idx_intro (by omega) (by omega) (fun x hx => ?_); conv => whnf)
      | (refine idx_intro (by first | omega | (simp; omega) | (simp; done)) (by first | omega | (simp; omega) | (simp; done)) (fun x hx => ?_); conv => whnf)
      | fail
    skip
end Go.Proofs.Ytjlfkgffgnkflaa
