/-
  The laws of ranges side by side, and of what the lookups have to do with each other.
-/
import Derived.Test.YtekkeajcmibbaaaLs
namespace Go.Proofs.Ytekkeajcmibbaaa
open Av Bk

set_option maxRecDepth 100000 in
theorem fnOk_lJo : FnOk Try.prog 6 Try.f6 := ⟨by rfl, by kernel_rfl, by
  show okCode _ _ = true ∧ drawsOk _ = true
  exact ⟨by kernel_rfl, by kernel_rfl⟩⟩
noncomputable def lJo_C : Cx := ⟨tb, [], [(12, spAwake), (11, spFar), (26, spRg), (27, spHas), (17, spPart), (19, spCount), (21, spSameP)]⟩
theorem lJo_D : SpecsOk Try.prog lJo_C.specs := .cons awake_ok (.cons far_ok (.cons ref02Rg_ok (.cons ref02Has_ok (.cons lkPart_ok (.cons lkCount_ok (.cons same05_ok .nil))))))
theorem lJo_F : FnsOk Try.prog lJo_C.fns := FnsOk.nil
abbrev lJo_N : Nat := 0
abbrev lJo_T : List Ty := [viewT, .st [.str, .str, .bool], .str]
abbrev lJo_FN := fnOk_lJo
set_option maxRecDepth 100000 in
set_option maxHeartbeats 8000000 in
theorem lJo' (b : List entT.El) (rs : List runT.El) (lo hi : ByteArray) (bd : Bool) (k : ByteArray) (hk : k.size ≤ 9223372036854775807) : bodyA lJo_C (callN lJo_C lJo_N) Try.f6 [.agg [.lst entT b, .lst runT rs], .agg [.str lo, .str hi, .bool bd], .str k] [] (fun v _ => v = .bool true) := by
  have hpl := part_len b rs lo hi bd
  have hks : (k.size : Int) ≤ 9223372036854775807 := by omega
  by_cases hr : rgE lo hi bd = 0
  · by_cases hh : hasB lo hi bd k = true
    · by_cases h32 : 32 < (k.size : Int)
      · conv => whnf
        repeat' first
          | (refine idx_kn (by assumption) ?_; conv => whnf)
          | (refine idx_ki (by assumption) (by omega) ?_; conv => whnf)
          | (refine br_true (by first | with_reducible exact rfl | assumption | decide) ?_; conv => whnf)
          | (refine br_false (by first | with_reducible exact rfl | assumption | decide) ?_; conv => whnf)
          | ((with_reducible refine br_kt (by assumption) ?_); conv => whnf)
          | ((with_reducible refine br_kf (by assumption) ?_); conv => whnf)
          | ((with_reducible refine br_nt (by assumption) ?_); conv => whnf)
          | ((with_reducible refine br_nf (by assumption) ?_); conv => whnf)
          | ((with_reducible refine br_et (by assumption) ?_); conv => whnf)
          | ((with_reducible refine br_ef (by assumption) ?_); conv => whnf)
          | ((with_reducible refine br_dec (fun h => ?_) (fun h => ?_)) <;> first | (exfalso; omega) | conv => whnf)
          | ((with_reducible refine br_ndec (fun h => ?_) (fun h => ?_)) <;> first | (exfalso; omega) | conv => whnf)
          | ((with_reducible refine br_ne (fun h => ?_) (fun h => ?_)) <;> first | (exfalso; omega) | conv => whnf)
          | ((with_reducible refine br_eq (fun h => ?_) (fun h => ?_)) <;> first | (exfalso; omega) | conv => whnf)
          | (refine br_intro (fun h => ?_) (fun h => ?_) <;> conv => whnf)
          | (refine need_in (by first | exact trivial | assumption | exact ⟨rfl, Nat.le_refl _⟩ | exact ⟨rfl, rfl⟩ | (simp only [inR]; omega) | omega | (simp only [roomP, true_and, and_true, List.length_take, List.length_drop, List.length_append, List.length_cons, List.length_nil, List.length_set, List.length_replicate]; omega) | (refine ⟨by first | exact trivial | rfl, by first | exact Nat.le_refl _ | omega | (simp; omega), ?_⟩; change roomP _ _ 1; simp only [roomP]; omega) | (change roomP _ _ 1; simp only [roomP]; omega) | (simp; omega) | (simp [inR]; omega) | (simp [inR]; done) | decide | (simp; done)) ?_; conv => whnf)
          | (refine idx_nat (by omega) (fun x hx => ?_); conv => whnf)
          | (refine frz_auto ?_; conv => whnf)
          | (refine draw_plain ?_; conv => whnf)
          | (refine idx_intro (by omega) (by omega) (fun x hx => ?_); conv => whnf)
          | (refine idx_intro (by first | omega | (simp; omega) | (simp; done)) (by first | omega | (simp; omega) | (simp; done)) (fun x hx => ?_); conv => whnf)
          | fail
      · have hke : keyE k = 0 := by simp [keyE, h32]
        obtain ⟨r1, r2, r3⟩ := rg_parts hr
        have hra : rgE lo k true = 0 := rg_of r1 hke (by simp)
        have hrb : rgE k hi bd = 0 := rg_of hke r2 r3
        by_cases hv : (vcL b rs).2 = 0
        · have e1 := part_g hv hr
          have e2 := part_g hv hra
          have e3 := part_g hv hrb
          have hj := joins (mapL_asc (allE b rs)) hh
          have hal := (all_len (vcL_zero hv)).2
          have hml := mapL_len (allE b rs)
          generalize mapL (allE b rs) = m at e1 e2 e3 hj hml
          have l2 := List.length_filter_le (fun p : pairT.El => hasB lo k true p.1) m
          have l3 := List.length_filter_le (fun p : pairT.El => hasB k hi bd p.1) m
          have f1 : (partR b rs lo hi bd).2 = 0 := by rw [e1]
          have f2 : (partR b rs lo k true).2 = 0 := by rw [e2]
          have f3 : (partR b rs k hi bd).2 = 0 := by rw [e3]
          have g2 : (partR b rs lo k true).1.length ≤ 1000000000 := by rw [e2]; simp only; omega
          have g3 : (partR b rs k hi bd).1.length ≤ 1000000000 := by rw [e3]; simp only; omega
          have hs : (partR b rs lo k true).1 ++ (partR b rs k hi bd).1 = (partR b rs lo hi bd).1 := by rw [e1, e2, e3]; exact hj
          conv => whnf
          repeat' first
            | (refine idx_kn (by assumption) ?_; conv => whnf)
            | (refine idx_ki (by assumption) (by omega) ?_; conv => whnf)
            | (refine br_true (by first | with_reducible exact rfl | assumption | decide) ?_; conv => whnf)
            | (refine br_false (by first | with_reducible exact rfl | assumption | decide) ?_; conv => whnf)
            | ((with_reducible refine br_kt (by assumption) ?_); conv => whnf)
            | ((with_reducible refine br_kf (by assumption) ?_); conv => whnf)
            | ((with_reducible refine br_nt (by assumption) ?_); conv => whnf)
            | ((with_reducible refine br_nf (by assumption) ?_); conv => whnf)
            | ((with_reducible refine br_et (by assumption) ?_); conv => whnf)
            | ((with_reducible refine br_ef (by assumption) ?_); conv => whnf)
            | ((with_reducible refine br_dec (fun h => ?_) (fun h => ?_)) <;> first | (exfalso; omega) | conv => whnf)
            | ((with_reducible refine br_ndec (fun h => ?_) (fun h => ?_)) <;> first | (exfalso; omega) | conv => whnf)
            | ((with_reducible refine br_ne (fun h => ?_) (fun h => ?_)) <;> first | (exfalso; omega) | conv => whnf)
            | ((with_reducible refine br_eq (fun h => ?_) (fun h => ?_)) <;> first | (exfalso; omega) | conv => whnf)
            | (refine br_intro (fun h => ?_) (fun h => ?_) <;> conv => whnf)
            | (refine need_in (by first | exact trivial | assumption | exact ⟨rfl, Nat.le_refl _⟩ | exact ⟨rfl, rfl⟩ | (simp only [inR]; omega) | omega | (simp only [roomP, true_and, and_true, List.length_take, List.length_drop, List.length_append, List.length_cons, List.length_nil, List.length_set, List.length_replicate]; omega) | (refine ⟨by first | exact trivial | rfl, by first | exact Nat.le_refl _ | omega | (simp; omega), ?_⟩; change roomP _ _ 1; simp only [roomP]; omega) | (change roomP _ _ 1; simp only [roomP]; omega) | (simp; omega) | (simp [inR]; omega) | (simp [inR]; done) | decide | (simp; done)) ?_; conv => whnf)
            | (refine idx_nat (by omega) (fun x hx => ?_); conv => whnf)
            | (refine frz_auto ?_; conv => whnf)
            | (refine draw_plain ?_; conv => whnf)
            | (refine idx_intro (by omega) (by omega) (fun x hx => ?_); conv => whnf)
            | (refine idx_intro (by first | omega | (simp; omega) | (simp; done)) (by first | omega | (simp; omega) | (simp; done)) (fun x hx => ?_); conv => whnf)
            | fail
          refine absurd h ?_
          simp only [cast_self, List.take_zero, List.nil_append, Nat.zero_add, List.take_length]
          rw [List.take_of_length_le (by rw [List.length_append]; omega), hs, sameP_refl]
          decide
        · have e1 := part_v (lo := lo) (hi := hi) (bd := bd) hv
          have e2 := part_v (lo := lo) (hi := k) (bd := true) hv
          have e3 := part_v (lo := k) (hi := hi) (bd := bd) hv
          have f1 : (partR b rs lo hi bd).2 = (vcL b rs).2 := by rw [e1]
          have f2 : (partR b rs lo k true).2 = (partR b rs lo hi bd).2 := by rw [e1, e2]
          have f3 : (partR b rs k hi bd).2 = (partR b rs lo hi bd).2 := by rw [e1, e3]
          have f4 : (partR b rs lo hi bd).2 ≠ 0 := by rw [f1]; exact hv
          conv => whnf
          repeat' first
            | (refine idx_kn (by assumption) ?_; conv => whnf)
            | (refine idx_ki (by assumption) (by omega) ?_; conv => whnf)
            | (refine br_true (by first | with_reducible exact rfl | assumption | decide) ?_; conv => whnf)
            | (refine br_false (by first | with_reducible exact rfl | assumption | decide) ?_; conv => whnf)
            | ((with_reducible refine br_kt (by assumption) ?_); conv => whnf)
            | ((with_reducible refine br_kf (by assumption) ?_); conv => whnf)
            | ((with_reducible refine br_nt (by assumption) ?_); conv => whnf)
            | ((with_reducible refine br_nf (by assumption) ?_); conv => whnf)
            | ((with_reducible refine br_et (by assumption) ?_); conv => whnf)
            | ((with_reducible refine br_ef (by assumption) ?_); conv => whnf)
            | ((with_reducible refine br_dec (fun h => ?_) (fun h => ?_)) <;> first | (exfalso; omega) | conv => whnf)
            | ((with_reducible refine br_ndec (fun h => ?_) (fun h => ?_)) <;> first | (exfalso; omega) | conv => whnf)
            | ((with_reducible refine br_ne (fun h => ?_) (fun h => ?_)) <;> first | (exfalso; omega) | conv => whnf)
            | ((with_reducible refine br_eq (fun h => ?_) (fun h => ?_)) <;> first | (exfalso; omega) | conv => whnf)
            | (refine br_intro (fun h => ?_) (fun h => ?_) <;> conv => whnf)
            | (refine need_in (by first | exact trivial | assumption | exact ⟨rfl, Nat.le_refl _⟩ | exact ⟨rfl, rfl⟩ | (simp only [inR]; omega) | omega | (simp only [roomP, true_and, and_true, List.length_take, List.length_drop, List.length_append, List.length_cons, List.length_nil, List.length_set, List.length_replicate]; omega) | (refine ⟨by first | exact trivial | rfl, by first | exact Nat.le_refl _ | omega | (simp; omega), ?_⟩; change roomP _ _ 1; simp only [roomP]; omega) | (change roomP _ _ 1; simp only [roomP]; omega) | (simp; omega) | (simp [inR]; omega) | (simp [inR]; done) | decide | (simp; done)) ?_; conv => whnf)
            | (refine idx_nat (by omega) (fun x hx => ?_); conv => whnf)
            | (refine frz_auto ?_; conv => whnf)
            | (refine draw_plain ?_; conv => whnf)
            | (refine idx_intro (by omega) (by omega) (fun x hx => ?_); conv => whnf)
            | (refine idx_intro (by first | omega | (simp; omega) | (simp; done)) (by first | omega | (simp; omega) | (simp; done)) (fun x hx => ?_); conv => whnf)
            | fail
    · have hh2 : (!hasB lo hi bd k) = true := by simp [hh]
      conv => whnf
      repeat' first
        | (refine idx_kn (by assumption) ?_; conv => whnf)
        | (refine idx_ki (by assumption) (by omega) ?_; conv => whnf)
        | (refine br_true (by first | with_reducible exact rfl | assumption | decide) ?_; conv => whnf)
        | (refine br_false (by first | with_reducible exact rfl | assumption | decide) ?_; conv => whnf)
        | ((with_reducible refine br_kt (by assumption) ?_); conv => whnf)
        | ((with_reducible refine br_kf (by assumption) ?_); conv => whnf)
        | ((with_reducible refine br_nt (by assumption) ?_); conv => whnf)
        | ((with_reducible refine br_nf (by assumption) ?_); conv => whnf)
        | ((with_reducible refine br_et (by assumption) ?_); conv => whnf)
        | ((with_reducible refine br_ef (by assumption) ?_); conv => whnf)
        | ((with_reducible refine br_dec (fun h => ?_) (fun h => ?_)) <;> first | (exfalso; omega) | conv => whnf)
        | ((with_reducible refine br_ndec (fun h => ?_) (fun h => ?_)) <;> first | (exfalso; omega) | conv => whnf)
        | ((with_reducible refine br_ne (fun h => ?_) (fun h => ?_)) <;> first | (exfalso; omega) | conv => whnf)
        | ((with_reducible refine br_eq (fun h => ?_) (fun h => ?_)) <;> first | (exfalso; omega) | conv => whnf)
        | (refine br_intro (fun h => ?_) (fun h => ?_) <;> conv => whnf)
        | (refine need_in (by first | exact trivial | assumption | exact ⟨rfl, Nat.le_refl _⟩ | exact ⟨rfl, rfl⟩ | (simp only [inR]; omega) | omega | (simp only [roomP, true_and, and_true, List.length_take, List.length_drop, List.length_append, List.length_cons, List.length_nil, List.length_set, List.length_replicate]; omega) | (refine ⟨by first | exact trivial | rfl, by first | exact Nat.le_refl _ | omega | (simp; omega), ?_⟩; change roomP _ _ 1; simp only [roomP]; omega) | (change roomP _ _ 1; simp only [roomP]; omega) | (simp; omega) | (simp [inR]; omega) | (simp [inR]; done) | decide | (simp; done)) ?_; conv => whnf)
        | (refine idx_nat (by omega) (fun x hx => ?_); conv => whnf)
        | (refine frz_auto ?_; conv => whnf)
        | (refine draw_plain ?_; conv => whnf)
        | (refine idx_intro (by omega) (by omega) (fun x hx => ?_); conv => whnf)
        | (refine idx_intro (by first | omega | (simp; omega) | (simp; done)) (by first | omega | (simp; omega) | (simp; done)) (fun x hx => ?_); conv => whnf)
        | fail
  · conv => whnf
    repeat' first
      | (refine idx_kn (by assumption) ?_; conv => whnf)
      | (refine idx_ki (by assumption) (by omega) ?_; conv => whnf)
      | (refine br_true (by first | with_reducible exact rfl | assumption | decide) ?_; conv => whnf)
      | (refine br_false (by first | with_reducible exact rfl | assumption | decide) ?_; conv => whnf)
      | ((with_reducible refine br_kt (by assumption) ?_); conv => whnf)
      | ((with_reducible refine br_kf (by assumption) ?_); conv => whnf)
      | ((with_reducible refine br_nt (by assumption) ?_); conv => whnf)
      | ((with_reducible refine br_nf (by assumption) ?_); conv => whnf)
      | ((with_reducible refine br_et (by assumption) ?_); conv => whnf)
      | ((with_reducible refine br_ef (by assumption) ?_); conv => whnf)
      | ((with_reducible refine br_dec (fun h => ?_) (fun h => ?_)) <;> first | (exfalso; omega) | conv => whnf)
      | ((with_reducible refine br_ndec (fun h => ?_) (fun h => ?_)) <;> first | (exfalso; omega) | conv => whnf)
      | ((with_reducible refine br_ne (fun h => ?_) (fun h => ?_)) <;> first | (exfalso; omega) | conv => whnf)
      | ((with_reducible refine br_eq (fun h => ?_) (fun h => ?_)) <;> first | (exfalso; omega) | conv => whnf)
      | (refine br_intro (fun h => ?_) (fun h => ?_) <;> conv => whnf)
      | (refine need_in (by first | exact trivial | assumption | exact ⟨rfl, Nat.le_refl _⟩ | exact ⟨rfl, rfl⟩ | (simp only [inR]; omega) | omega | (simp only [roomP, true_and, and_true, List.length_take, List.length_drop, List.length_append, List.length_cons, List.length_nil, List.length_set, List.length_replicate]; omega) | (refine ⟨by first | exact trivial | rfl, by first | exact Nat.le_refl _ | omega | (simp; omega), ?_⟩; change roomP _ _ 1; simp only [roomP]; omega) | (change roomP _ _ 1; simp only [roomP]; omega) | (simp; omega) | (simp [inR]; omega) | (simp [inR]; done) | decide | (simp; done)) ?_; conv => whnf)
      | (refine idx_nat (by omega) (fun x hx => ?_); conv => whnf)
      | (refine frz_auto ?_; conv => whnf)
      | (refine draw_plain ?_; conv => whnf)
      | (refine idx_intro (by omega) (by omega) (fun x hx => ?_); conv => whnf)
      | (refine idx_intro (by first | omega | (simp; omega) | (simp; done)) (by first | omega | (simp; omega) | (simp; done)) (fun x hx => ?_); conv => whnf)
      | fail
theorem lJo : ∀ es : Ty.Els lJo_T, tyOks lJo_T es → bodyA lJo_C (callN lJo_C lJo_N) Try.f6 (avTs lJo_T es) [] (fun v _ => v = .bool true) := by
  rintro ⟨⟨b, rs, _⟩, ⟨lo, hi, bd, _⟩, k, _⟩ h
  exact lJo' b rs lo hi bd k h.2.2.1
end Go.Proofs.Ytekkeajcmibbaaa
