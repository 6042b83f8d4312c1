/-
  The laws of tables and of changes.
-/
import Derived.Test.YtadckioheabliaaRh
namespace Go.Proofs.Ytadckioheabliaa
open Av

theorem farB_len {a b : Nat} (h : farB a b = false) : a ≤ 505 ∧ b ≤ 505 := by
  have h := of_decide_eq_false h
  omega
noncomputable def lw_C : Cx := ⟨tb, [], [(11, spShown), (10, nz [some rcT, some (.int .i64)] spFarT), (26, spIn), (12, spCk), (13, spCk), (14, spCnt), (15, spCnt), (16, spHeld), (17, spHeld), (18, spSum), (19, spSum), (28, spOf), (33, spOf), (21, spAdd), (22, spAdd), (23, spDrop), (24, spDrop), (25, spSameT), (20, spInts)]⟩
theorem lw_D : SpecsOk Try.prog lw_C.specs := .cons lwShown_ok (.cons (lwFar_ok.nz _) (.cons lwIn_ok (.cons rfCk_ok (.cons r4Ck_ok (.cons rfCnt_ok (.cons r4Cnt_ok (.cons rfHeld_ok (.cons r4Held_ok (.cons rfSum_ok (.cons r4Sum_ok (.cons rfOf_ok (.cons r4Of_ok (.cons rfAdd_ok (.cons r4Add_ok (.cons rfDrop_ok (.cons r4Drop_ok (.cons r4Same_ok (.cons r4Ints_ok .nil))))))))))))))))))
set_option maxRecDepth 100000 in
theorem fnOk_lTb : FnOk Try.prog 3 Try.f3 := ⟨by rfl, by kernel_rfl, by
  show okCode _ _ = true ∧ drawsOk _ = true
  exact ⟨by kernel_rfl, by kernel_rfl⟩⟩
noncomputable abbrev lTb_C : Cx := lw_C
abbrev lTb_D := lw_D
theorem lTb_F : FnsOk Try.prog lTb_C.fns := FnsOk.nil
abbrev lTb_N : Nat := 0
abbrev lTb_T : List Ty := [.sl rcT, .int .i64]
abbrev lTb_FN := fnOk_lTb
theorem held_len (t : List rcT.El) : (heldR t).1.length ≤ t.length := by
  unfold heldR
  split
  · exact Nat.zero_le _
  · exact Nat.le_of_eq (List.length_map _)
theorem sameI_refl (l : List Int) : sameL (.int .i64) l l = true := sameI_iff.2 rfl
theorem sameC_refl (l : List rcT.El) : sameL rcT l l = true := sameC_iff.2 rfl
set_option maxRecDepth 100000 in
set_option maxHeartbeats 8000000 in
theorem lTb' (t : List rcT.El) (n : Int) : bodyA lTb_C (callN lTb_C lTb_N) Try.f3 [.lst rcT t, .int .i64 n] [] (fun v _ => v = .bool true) := by
  cases hf : farB t.length 0 with
  | true =>
    have hf' : farB t.length ([] : List Int).length = true := hf
    conv => whnf
    repeat' first
      | ((first | refine idx_kn (by assumption) ?_ | refine idx_ki (by assumption) (by omega) ?_ | refine br_true (by first | with_reducible exact rfl | assumption | decide) ?_ | refine br_false (by first | with_reducible exact rfl | assumption | decide) ?_ | with_reducible first | refine br_kt (by assumption) ?_ | refine br_kf (by assumption) ?_ | refine br_nt (by assumption) ?_ | refine br_nf (by assumption) ?_ | refine br_et (by assumption) ?_ | refine br_ef (by assumption) ?_); conv => whnf)
      | ((with_reducible first | refine br_dec (fun h => ?_) (fun h => ?_) | refine br_ndec (fun h => ?_) (fun h => ?_) | refine br_ne (fun h => ?_) (fun h => ?_) | refine br_eq (fun h => ?_) (fun h => ?_)) <;> first | (exfalso; omega) | conv => whnf)
      | (refine br_intro (fun h => ?_) (fun h => ?_) <;> conv => whnf)
      | ((first | refine need_in (by first | exact trivial | assumption | exact ⟨rfl, Nat.le_refl _⟩ | exact ⟨rfl, rfl⟩ | (simp only [inR]; omega) | omega | (simp only [roomP, true_and, and_true, List.length_take, List.length_drop, List.length_append, List.length_cons, List.length_nil, List.length_set, List.length_replicate]; omega) | (refine ⟨by first | exact trivial | rfl, by first | exact Nat.le_refl _ | omega | (simp; omega), ?_⟩; change roomP _ _ 1; simp only [roomP]; omega) | (change roomP _ _ 1; simp only [roomP]; omega) | (simp; omega) | (simp [inR]; omega) | (simp [inR]; done) | decide | (simp; done)) ?_ | refine idx_nat (by omega) (fun x hx => ?_) | refine frz_auto ?_ | refine draw_plain ?_ | refine idx_intro (by first | omega | (simp; omega) | (simp; done)) (by first | omega | (simp; omega) | (simp; done)) (fun x hx => ?_)); conv => whnf)
  | false =>
    have hf' : farB t.length ([] : List Int).length = false := hf
    have hl := farB_len hf
    have hh := held_len t
    have hs := sameI_refl (heldR t).1
    conv => whnf
    repeat' first
      | ((first | refine idx_kn (by assumption) ?_ | refine idx_ki (by assumption) (by omega) ?_ | refine br_true (by first | with_reducible exact rfl | assumption | decide) ?_ | refine br_false (by first | with_reducible exact rfl | assumption | decide) ?_ | with_reducible first | refine br_kt (by assumption) ?_ | refine br_kf (by assumption) ?_ | refine br_nt (by assumption) ?_ | refine br_nf (by assumption) ?_ | refine br_et (by assumption) ?_ | refine br_ef (by assumption) ?_); conv => whnf)
      | ((with_reducible first | refine br_dec (fun h => ?_) (fun h => ?_) | refine br_ndec (fun h => ?_) (fun h => ?_) | refine br_ne (fun h => ?_) (fun h => ?_) | refine br_eq (fun h => ?_) (fun h => ?_)) <;> first | (exfalso; omega) | conv => whnf)
      | (refine br_intro (fun h => ?_) (fun h => ?_) <;> conv => whnf)
      | ((first | refine need_in (by first | exact trivial | assumption | exact ⟨rfl, Nat.le_refl _⟩ | exact ⟨rfl, rfl⟩ | (simp only [inR]; omega) | omega | (simp only [roomP, true_and, and_true, List.length_take, List.length_drop, List.length_append, List.length_cons, List.length_nil, List.length_set, List.length_replicate]; omega) | (refine ⟨by first | exact trivial | rfl, by first | exact Nat.le_refl _ | omega | (simp; omega), ?_⟩; change roomP _ _ 1; simp only [roomP]; omega) | (change roomP _ _ 1; simp only [roomP]; omega) | (simp; omega) | (simp [inR]; omega) | (simp [inR]; done) | decide | (simp; done)) ?_ | refine idx_nat (by omega) (fun x hx => ?_) | refine frz_auto ?_ | refine draw_plain ?_ | refine idx_intro (by first | omega | (simp; omega) | (simp; done)) (by first | omega | (simp; omega) | (simp; done)) (fun x hx => ?_)); conv => whnf)
theorem lTb : ∀ es : Ty.Els lTb_T, tyOks lTb_T es → bodyA lTb_C (callN lTb_C lTb_N) Try.f3 (avTs lTb_T es) [] (fun v _ => v = .bool true) := by
  rintro ⟨t, n, _⟩ _
  exact lTb' t n
set_option maxRecDepth 100000 in
theorem fnOk_lCh : FnOk Try.prog 4 Try.f4 := ⟨by rfl, by kernel_rfl, by
  show okCode _ _ = true ∧ drawsOk _ = true
  exact ⟨by kernel_rfl, by kernel_rfl⟩⟩
noncomputable abbrev lCh_C : Cx := lw_C
abbrev lCh_D := lw_D
theorem lCh_F : FnsOk Try.prog lCh_C.fns := FnsOk.nil
abbrev lCh_N : Nat := 0
abbrev lCh_T : List Ty := [.sl rcT, .sl (.int .i64)]
abbrev lCh_FN := fnOk_lCh
theorem add_len (t : List rcT.El) (ids : List Int) : (addL t ids).1.length ≤ t.length + ids.length := by
  unfold addL
  split
  · exact Nat.zero_le _
  · split
    · exact Nat.zero_le _
    · exact bmp_len _
theorem drop_len (t : List rcT.El) (ids : List Int) : (dropL t ids).1.length ≤ t.length + ids.length ∧ (dropL t ids).2.1.length ≤ t.length := by
  unfold dropL
  split
  · exact ⟨Nat.zero_le _, Nat.zero_le _⟩
  · split
    · exact ⟨Nat.zero_le _, Nat.zero_le _⟩
    · exact ⟨bmp_len _, frdL_len _ _⟩
set_option maxRecDepth 100000 in
set_option maxHeartbeats 8000000 in
theorem lCh' (t : List rcT.El) (l : List Int) : bodyA lCh_C (callN lCh_C lCh_N) Try.f4 [.lst rcT t, .lst (.int .i64) l] [] (fun v _ => v = .bool true) := by
  cases hf : farB t.length l.length with
  | true =>
    conv => whnf
    repeat' first
      | ((first | refine idx_kn (by assumption) ?_ | refine idx_ki (by assumption) (by omega) ?_ | refine br_true (by first | with_reducible exact rfl | assumption | decide) ?_ | refine br_false (by first | with_reducible exact rfl | assumption | decide) ?_ | with_reducible first | refine br_kt (by assumption) ?_ | refine br_kf (by assumption) ?_ | refine br_nt (by assumption) ?_ | refine br_nf (by assumption) ?_ | refine br_et (by assumption) ?_ | refine br_ef (by assumption) ?_); conv => whnf)
      | ((with_reducible first | refine br_dec (fun h => ?_) (fun h => ?_) | refine br_ndec (fun h => ?_) (fun h => ?_) | refine br_ne (fun h => ?_) (fun h => ?_) | refine br_eq (fun h => ?_) (fun h => ?_)) <;> first | (exfalso; omega) | conv => whnf)
      | (refine br_intro (fun h => ?_) (fun h => ?_) <;> conv => whnf)
      | ((first | refine need_in (by first | exact trivial | assumption | exact ⟨rfl, Nat.le_refl _⟩ | exact ⟨rfl, rfl⟩ | (simp only [inR]; omega) | omega | (simp only [roomP, true_and, and_true, List.length_take, List.length_drop, List.length_append, List.length_cons, List.length_nil, List.length_set, List.length_replicate]; omega) | (refine ⟨by first | exact trivial | rfl, by first | exact Nat.le_refl _ | omega | (simp; omega), ?_⟩; change roomP _ _ 1; simp only [roomP]; omega) | (change roomP _ _ 1; simp only [roomP]; omega) | (simp; omega) | (simp [inR]; omega) | (simp [inR]; done) | decide | (simp; done)) ?_ | refine idx_nat (by omega) (fun x hx => ?_) | refine frz_auto ?_ | refine draw_plain ?_ | refine idx_intro (by first | omega | (simp; omega) | (simp; done)) (by first | omega | (simp; omega) | (simp; done)) (fun x hx => ?_)); conv => whnf)
  | false =>
    have hl := farB_len hf
    have h1 := add_len t l
    have h2 := drop_len t l
    have hs := sameC_refl (addL t l).1
    have hs2 := sameC_refl (dropL t l).1
    have hs3 := sameI_refl (dropL t l).2.1
    have hs4 := sameC_refl t
    have hs5 := sameI_refl l
    conv => whnf
    repeat' first
      | ((first | refine idx_kn (by assumption) ?_ | refine idx_ki (by assumption) (by omega) ?_ | refine br_true (by first | with_reducible exact rfl | assumption | decide) ?_ | refine br_false (by first | with_reducible exact rfl | assumption | decide) ?_ | with_reducible first | refine br_kt (by assumption) ?_ | refine br_kf (by assumption) ?_ | refine br_nt (by assumption) ?_ | refine br_nf (by assumption) ?_ | refine br_et (by assumption) ?_ | refine br_ef (by assumption) ?_); conv => whnf)
      | ((with_reducible first | refine br_dec (fun h => ?_) (fun h => ?_) | refine br_ndec (fun h => ?_) (fun h => ?_) | refine br_ne (fun h => ?_) (fun h => ?_) | refine br_eq (fun h => ?_) (fun h => ?_)) <;> first | (exfalso; omega) | conv => whnf)
      | (refine br_intro (fun h => ?_) (fun h => ?_) <;> conv => whnf)
      | ((first | refine need_in (by first | exact trivial | assumption | exact ⟨rfl, Nat.le_refl _⟩ | exact ⟨rfl, rfl⟩ | (simp only [inR]; omega) | omega | (simp only [roomP, true_and, and_true, List.length_take, List.length_drop, List.length_append, List.length_cons, List.length_nil, List.length_set, List.length_replicate]; omega) | (refine ⟨by first | exact trivial | rfl, by first | exact Nat.le_refl _ | omega | (simp; omega), ?_⟩; change roomP _ _ 1; simp only [roomP]; omega) | (change roomP _ _ 1; simp only [roomP]; omega) | (simp; omega) | (simp [inR]; omega) | (simp [inR]; done) | decide | (simp; done)) ?_ | refine idx_nat (by omega) (fun x hx => ?_) | refine frz_auto ?_ | refine draw_plain ?_ | refine idx_intro (by first | omega | (simp; omega) | (simp; done)) (by first | omega | (simp; omega) | (simp; done)) (fun x hx => ?_)); conv => whnf)
    all_goals
      refine absurd h ?_
      simp only [cast_self, List.take_zero, List.nil_append, Nat.zero_add, List.take_length]
      first
        | (rw [sameC_refl]; decide)
        | (rw [sameI_refl]; decide)
theorem lCh : ∀ es : Ty.Els lCh_T, tyOks lCh_T es → bodyA lCh_C (callN lCh_C lCh_N) Try.f4 (avTs lCh_T es) [] (fun v _ => v = .bool true) := by
  rintro ⟨t, l, _⟩ _
  exact lCh' t l
end Go.Proofs.Ytadckioheabliaa
