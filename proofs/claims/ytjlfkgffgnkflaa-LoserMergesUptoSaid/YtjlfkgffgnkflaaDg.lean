/-
  The law of trees built, checked, put in order.
-/
import Derived.Test.YtjlfkgffgnkflaaD9
namespace Go.Proofs.Ytjlfkgffgnkflaa
open Av Lz

theorem rep0_len (e : Int) (l : List intT.El) {n : Nat} (h : l.length ≤ n) : (rep0 e l []).length ≤ n := by
  unfold rep0
  split
  · exact h
  · exact Nat.zero_le _
theorem if_len {α : Type} (p : Prop) [Decidable p] (l : List α) {n : Nat} (h : l.length ≤ n) : (if p then l else []).length ≤ n := by
  split
  · exact h
  · exact Nat.zero_le _
theorem fnOk_lBu : FnOk Try.prog 3 Try.f3 := ⟨by rfl, by kernel_rfl, by
  show okCode _ _ = true ∧ drawsOk _ = true
  exact ⟨by kernel_rfl, by kernel_rfl⟩⟩
noncomputable def lBu_C : Cx := ⟨tb, [], [(9, spFar), (10, spAwake), (11, spBuild), (12, spBuild), (13, spSameT), (14, spChk), (15, spChk), (16, spOrd), (17, spOrd), (18, spInts)]⟩
theorem lBu_D : SpecsOk Try.prog lBu_C.specs := .cons lFar_ok (.cons awake_ok (.cons lBuild_ok (.cons rBuild_ok (.cons rSameT_ok (.cons lChkT_ok (.cons rChkT_ok (.cons lOrd_ok (.cons rOrd_ok (.cons rInts_ok .nil)))))))))
theorem lBu_F : FnsOk Try.prog lBu_C.fns := FnsOk.nil
abbrev lBu_N : Nat := 0
abbrev lBu_T : List Ty := [.sl keyT, .sl intT, .int .i64]
abbrev lBu_FN := fnOk_lBu
set_option maxRecDepth 100000 in
set_option maxHeartbeats 4000000 in
theorem lBu : ∀ es : Ty.Els lBu_T, tyOks lBu_T es → bodyA lBu_C (callN lBu_C lBu_N) Try.f3 (avTs lBu_T es) [] (fun v _ => v = .bool true) := by
  rintro ⟨ks, lo, w, _⟩ -
  show bodyA _ _ _ [.lst keyT ks, .lst intT lo, .int .i64 w] [] _
  cases hF : farL ks with
  | true =>
    conv => whnf
    repeat' first
      | (refine idx_kn (by assumption) ?_; conv => whnf)
      | (refine idx_ki (by assumption) (by omega) ?_; conv => whnf)
      | (refine br_true (by first | with_reducible exact rfl | assumption | decide) ?_; conv => whnf)
      | (refine br_false (by first | with_reducible exact rfl | assumption | decide) ?_; conv => whnf)
      | ((with_reducible refine br_kt (by assumption) ?_); conv => whnf)
      | ((with_reducible refine br_kf (by assumption) ?_); conv => whnf)
      | ((with_reducible refine br_nt (by assumption) ?_); conv => whnf)
      | ((with_reducible refine br_nf (by assumption) ?_); conv => whnf)
      | ((with_reducible refine br_et (by assumption) ?_); conv => whnf)
      | ((with_reducible refine br_ef (by assumption) ?_); conv => whnf)
      | ((with_reducible refine br_dec (fun h => ?_) (fun h => ?_)) <;> first | (exfalso; omega) | conv => whnf)
      | ((with_reducible refine br_ndec (fun h => ?_) (fun h => ?_)) <;> first | (exfalso; omega) | conv => whnf)
      | ((with_reducible refine br_ne (fun h => ?_) (fun h => ?_)) <;> first | (exfalso; omega) | conv => whnf)
      | ((with_reducible refine br_eq (fun h => ?_) (fun h => ?_)) <;> first | (exfalso; omega) | conv => whnf)
      | (refine br_intro (fun h => ?_) (fun h => ?_) <;> conv => whnf)
      | (refine need_in (by first | exact trivial | assumption | exact ⟨rfl, Nat.le_refl _⟩ | exact ⟨rfl, rfl⟩ | (simp only [inR]; omega) | omega | (simp only [roomP, true_and, and_true, List.length_take, List.length_drop, List.length_append, List.length_cons, List.length_nil, List.length_set, List.length_replicate]; omega) | (refine ⟨by first | exact trivial | rfl, by first | exact Nat.le_refl _ | omega, ?_⟩; change roomP _ _ 1; simp only [roomP]; omega) | (change roomP _ _ 1; simp only [roomP]; omega) | (simp; omega) | (simp [inR]; omega) | (simp [inR]; done) | decide | (simp; done)) ?_; conv => whnf)
      | (refine idx_nat (by omega) (fun x hx => ?_); conv => whnf)
      | (refine frz_auto ?_; conv => whnf)
      | (refine draw_plain ?_; conv => whnf)
      | (refine idx_intro (by omega) (by omega) (fun x hx => ?_); conv => whnf)
      | (refine idx_intro (by first | omega | (simp; omega) | (simp; done)) (by first | omega | (simp; omega) | (simp; done)) (fun x hx => ?_); conv => whnf)
      | fail
  | false =>
    have hl := farL_len hF
    have hl : ks.length ≤ 40 := hl
    have hll := loseL_len ks
    have hs1 : (if rightE ks = 0 then ks else []).length ≤ 4611686018427387904 ∧ (if rightE ks = 0 then loseL ks else []).length ≤ 4611686018427387904 :=
      ⟨if_len _ _ (by omega), if_len _ _ (by omega)⟩
    have hs2 : (rep0 (chkE ks lo w).2 (ordL ks) []).length ≤ 4611686018427387904 := rep0_len _ _ (by rw [ordL_len]; omega)
    have hs3 : (rep0 (chkE (if rightE ks = 0 then ks else []) (if rightE ks = 0 then loseL ks else []) (if rightE ks = 0 then winI ks else 0)).2 (ordL (if rightE ks = 0 then ks else [])) []).length ≤ 4611686018427387904 :=
      rep0_len _ _ (by rw [ordL_len]; exact hs1.1)
    conv => whnf
    repeat' first
      | (refine idx_kn (by assumption) ?_; conv => whnf)
      | (refine idx_ki (by assumption) (by omega) ?_; conv => whnf)
      | (refine br_true (by first | with_reducible exact rfl | assumption | decide) ?_; conv => whnf)
      | (refine br_false (by first | with_reducible exact rfl | assumption | decide) ?_; conv => whnf)
      | ((with_reducible refine br_kt (by assumption) ?_); conv => whnf)
      | ((with_reducible refine br_kf (by assumption) ?_); conv => whnf)
      | ((with_reducible refine br_nt (by assumption) ?_); conv => whnf)
      | ((with_reducible refine br_nf (by assumption) ?_); conv => whnf)
      | ((with_reducible refine br_et (by assumption) ?_); conv => whnf)
      | ((with_reducible refine br_ef (by assumption) ?_); conv => whnf)
      | ((with_reducible refine br_dec (fun h => ?_) (fun h => ?_)) <;> first | (exfalso; omega) | conv => whnf)
      | ((with_reducible refine br_ndec (fun h => ?_) (fun h => ?_)) <;> first | (exfalso; omega) | conv => whnf)
      | ((with_reducible refine br_ne (fun h => ?_) (fun h => ?_)) <;> first | (exfalso; omega) | conv => whnf)
      | ((with_reducible refine br_eq (fun h => ?_) (fun h => ?_)) <;> first | (exfalso; omega) | conv => whnf)
      | (refine br_intro (fun h => ?_) (fun h => ?_) <;> conv => whnf)
      | (refine need_in (by first | exact trivial | assumption | exact ⟨rfl, Nat.le_refl _⟩ | exact ⟨rfl, rfl⟩ | (simp only [inR]; omega) | omega | (simp only [roomP, true_and, and_true, List.length_take, List.length_drop, List.length_append, List.length_cons, List.length_nil, List.length_set, List.length_replicate]; omega) | (refine ⟨by first | exact trivial | rfl, by first | exact Nat.le_refl _ | omega, ?_⟩; change roomP _ _ 1; simp only [roomP]; omega) | (change roomP _ _ 1; simp only [roomP]; omega) | (simp; omega) | (simp [inR]; omega) | (simp [inR]; done) | decide | (simp; done)) ?_; conv => whnf)
      | (refine idx_nat (by omega) (fun x hx => ?_); conv => whnf)
      | (refine frz_auto ?_; conv => whnf)
      | (refine draw_plain ?_; conv => whnf)
      | (refine idx_intro (by omega) (by omega) (fun x hx => ?_); conv => whnf)
      | (refine idx_intro (by first | omega | (simp; omega) | (simp; done)) (by first | omega | (simp; omega) | (simp; done)) (fun x hx => ?_); conv => whnf)
      | fail
    · rw [pb_t ⟨rfl, rfl, rfl⟩] at h
      cases h
    · exact absurd rfl h
    · exact absurd rfl h
end Go.Proofs.Ytjlfkgffgnkflaa
