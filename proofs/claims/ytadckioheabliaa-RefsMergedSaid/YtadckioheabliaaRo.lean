/-
  The table of two lists of referrers.
-/
import Derived.Test.YtadckioheabliaaRn
namespace Go.Proofs.Ytadckioheabliaa
open Av

theorem sup_len {a b : List rcT.El} (ha : ascC a ∧ posC a) (hb : ascC b ∧ posC b) (h : ∀ n, countC a n ≤ countC b n) : a.length ≤ b.length := by
  have h1 := nodup_len_le (asc_nd ha.1) (b := b.map idC) (fun n hn => by
    obtain ⟨x, hx, rfl⟩ := List.mem_map.1 hn
    have h2 := cnt_mem ha.1 hx
    have h3 := ha.2 x hx
    have h4 := h (idC x)
    obtain ⟨y, hy, he⟩ := cnt_in (t := b) (n := idC x) (by omega)
    exact List.mem_map.2 ⟨y, hy, he⟩)
  rw [List.length_map, List.length_map] at h1
  exact h1
def badO (l : List (List Int)) : Prop := ofErr l ≠ 0 ∨ 500 < (ofT [] l).length
theorem of_cases {l : List (List Int)} (hl : l.length ≤ 1000) : (badO l ∧ ∃ e, ofL l = ([], e) ∧ e ≠ 0) ∨ (ofErr l = 0 ∧ (ofT [] l).length ≤ 500 ∧ ofL l = (ofT [] l, 0)) := by
  unfold ofL badO
  rw [if_neg (by omega)]
  by_cases h1 : ofErr l = 0
  · rw [if_neg (fun e => e h1)]
    by_cases h2 : 500 < (ofT [] l).length
    · rw [if_pos h2]
      exact .inl ⟨.inr h2, 3, rfl, by decide⟩
    · rw [if_neg h2]
      exact .inr ⟨h1, by omega, rfl⟩
  · rw [if_pos h1]
    exact .inl ⟨.inl h1, _, rfl, h1⟩
theorem of_bad {l : List (List Int)} (hl : l.length ≤ 1000) (h : badO l) : ∃ e, ofL l = ([], e) ∧ e ≠ 0 := by
  rcases of_cases hl with h1 | ⟨h1, h2, _⟩
  · exact h1.2
  · rcases h with h | h
    · exact absurd h1 h
    · omega
theorem ofT0 (l : List (List Int)) : ascC (ofT [] l) ∧ posC (ofT [] l) := ofT_asc l asc_nil
theorem ofT_cnt0 (l : List (List Int)) (n : Int) : countC (ofT [] l) n = (l.countP (fun ids => inI ids n) : Nat) := by
  rw [ofT_cnt l asc_nil, cntC_nil, Int.zero_add]
theorem bad_l {l m : List (List Int)} (h : badO l) : badO (l ++ m) := by
  rcases h with h | h
  · exact .inl (fun e => h (ofErr_zero.2 (fun ids hi => ofErr_zero.1 e ids (by simp [hi]))))
  · right
    have := sup_len (ofT0 l) (ofT0 (l ++ m)) (fun n => by rw [ofT_cnt0, ofT_cnt0, List.countP_append]; omega)
    omega
theorem bad_r {l m : List (List Int)} (h : badO m) : badO (l ++ m) := by
  rcases h with h | h
  · exact .inl (fun e => h (ofErr_zero.2 (fun ids hi => ofErr_zero.1 e ids (by simp [hi]))))
  · right
    have := sup_len (ofT0 m) (ofT0 (l ++ m)) (fun n => by rw [ofT_cnt0, ofT_cnt0, List.countP_append]; omega)
    omega
theorem okT_of0 {l : List (List Int)} (he : ofErr l = 0) (hl : l.length ≤ 1000) (h5 : (ofT [] l).length ≤ 500) : OkT (ofT [] l) := by
  have hb := ofT0 l
  have hg : ∀ x ∈ ofT [] l, goodX x := by
    intro x hx
    have h1 := cnt_mem hb.1 hx
    have h2 := hb.2 x hx
    rw [ofT_cnt0] at h1
    have h3 := List.countP_le_length (p := fun ids => inI ids (idC x)) (l := l)
    refine ⟨?_, h2, by omega⟩
    have h4 : 0 < l.countP (fun ids => inI ids (idC x)) := by omega
    rw [List.countP_pos_iff] at h4
    obtain ⟨ids, hi, hin⟩ := h4
    exact (lsE_zero (ofErr_zero.1 he ids hi)).2 _ (inI_iff.1 hin)
  exact ⟨ckL_ok h5 hg hb.1, h5, hg, hb.1⟩
theorem mg_of (l m : List (List Int)) : mgN (ofT [] l) (ofT [] m) (ofT [] m).length = ofT [] (l ++ m) := by
  have h1 := mgN_asc (b := ofT [] m) (ofT0 l) (ofT [] m).length
  have h2 := ofT0 (l ++ m)
  refine tab_ext h1.1 h2.1 h1.2 h2.2 (fun n => ?_)
  rw [mgN_cnt (ofT0 l) (ofT0 m) _ (Nat.le_refl _), List.take_length, ofT_cnt0, ofT_cnt0, ofT_cnt0, List.countP_append]
  omega
theorem two_ok {a b : List rcT.El} (ha : OkT a) (hb : OkT b) : twoE a b = 0 := by
  unfold twoE; rw [ha.ck, hb.ck]; rfl
theorem dif_self {t : List rcT.El} (h : OkT t) : difR t t = (0, 4) := by
  unfold difR
  rw [if_neg (fun e => e (two_ok h h)), if_pos dfL_self]
/-- What is merged of the tables of two lists. -/
theorem mg_cases {l m : List (List Int)} (hl : l.length ≤ 20) (hm : m.length ≤ 20) (h1 : ofErr l = 0) (h2 : ofErr m = 0) (h3 : (ofT [] l).length ≤ 500) (h4 : (ofT [] m).length ≤ 500) : (ofL (l ++ m) = ([], 3) ∧ mergeL (ofT [] l) (ofT [] m) = ([], 3)) ∨ (∃ T, ofL (l ++ m) = (T, 0) ∧ mergeL (ofT [] l) (ofT [] m) = (T, 0) ∧ difR T T = (0, 4) ∧ T.length ≤ 500) := by
  have he : ofErr (l ++ m) = 0 := ofErr_zero.2 (fun ids hi => by
    rcases List.mem_append.1 hi with hi | hi
    · exact ofErr_zero.1 h1 ids hi
    · exact ofErr_zero.1 h2 ids hi)
  have hlm : (l ++ m).length ≤ 1000 := by rw [List.length_append]; omega
  have hml : mergeL (ofT [] l) (ofT [] m) = tabR (ofT [] (l ++ m)) := by
    unfold mergeL
    rw [if_neg (fun e => e (two_ok (okT_of0 h1 (by omega) h3) (okT_of0 h2 (by omega) h4))), mg_of]
  by_cases h5 : 500 < (ofT [] (l ++ m)).length
  · left
    refine ⟨?_, hml.trans (tab_3 h5)⟩
    unfold ofL
    rw [if_neg (by omega), if_neg (fun e => e he), if_pos h5]
  · right
    have hT := okT_of0 he hlm (by omega)
    refine ⟨_, ?_, hml.trans (tab_0 h5 ?_), dif_self hT, hT.ln⟩
    · unfold ofL
      rw [if_neg (by omega), if_neg (fun e => e he), if_neg h5]
    · rw [mostB_iff.2 (fun x hx => (hT.good x hx).2.2)]; decide
set_option maxRecDepth 100000 in
theorem fnOk_lMg : FnOk Try.prog 8 Try.f8 := ⟨by rfl, by kernel_rfl, by
  show okCode _ _ = true ∧ drawsOk _ = true
  exact ⟨by kernel_rfl, by kernel_rfl⟩⟩
noncomputable abbrev lMg_C : Cx := lv_C
abbrev lMg_D := lv_D
theorem lMg_F : FnsOk Try.prog lMg_C.fns := FnsOk.nil
abbrev lMg_N : Nat := 0
abbrev lMg_T : List Ty := [.sl (.sl (.int .i64)), .sl (.sl (.int .i64))]
abbrev lMg_FN := fnOk_lMg
set_option maxRecDepth 100000 in
set_option maxHeartbeats 8000000 in
theorem lMg' (l m : List (List Int)) : bodyA lMg_C (callN lMg_C lMg_N) Try.f8 [.lst (.sl (.int .i64)) l, .lst (.sl (.int .i64)) m] [] (fun v _ => v = .bool true) := by
  cases hfl : frB l with
  | true =>
    conv => whnf
    repeat' first
      | ((first | refine idx_kn (by assumption) ?_ | refine idx_ki (by assumption) (by omega) ?_ | refine br_true (by first | with_reducible exact rfl | assumption | decide) ?_ | refine br_false (by first | with_reducible exact rfl | assumption | decide) ?_ | with_reducible first | refine br_kt (by assumption) ?_ | refine br_kf (by assumption) ?_ | refine br_nt (by assumption) ?_ | refine br_nf (by assumption) ?_ | refine br_et (by assumption) ?_ | refine br_ef (by assumption) ?_); conv => whnf)
      | ((with_reducible first | refine br_dec (fun h => ?_) (fun h => ?_) | refine br_ndec (fun h => ?_) (fun h => ?_) | refine br_ne (fun h => ?_) (fun h => ?_) | refine br_eq (fun h => ?_) (fun h => ?_)) <;> first | (exfalso; omega) | conv => whnf)
      | (refine br_intro (fun h => ?_) (fun h => ?_) <;> conv => whnf)
      | ((first | refine need_in (by first | exact trivial | assumption | exact ⟨rfl, Nat.le_refl _⟩ | exact ⟨rfl, rfl⟩ | (simp only [inR]; omega) | omega | (simp only [roomP, true_and, and_true, List.length_take, List.length_drop, List.length_append, List.length_cons, List.length_nil, List.length_set, List.length_replicate]; omega) | (refine ⟨by first | exact trivial | rfl, by first | exact Nat.le_refl _ | omega | (simp; omega), ?_⟩; change roomP _ _ 1; simp only [roomP]; omega) | (change roomP _ _ 1; simp only [roomP]; omega) | (simp; omega) | (simp [inR]; omega) | (simp [inR]; done) | decide | (simp; done)) ?_ | refine idx_nat (by omega) (fun x hx => ?_) | refine frz_auto ?_ | refine draw_plain ?_ | refine idx_intro (by first | omega | (simp; omega) | (simp; done)) (by first | omega | (simp; omega) | (simp; done)) (fun x hx => ?_)); conv => whnf)
  | false =>
    cases hfm : frB m with
    | true =>
      conv => whnf
      repeat' first
        | ((first | refine idx_kn (by assumption) ?_ | refine idx_ki (by assumption) (by omega) ?_ | refine br_true (by first | with_reducible exact rfl | assumption | decide) ?_ | refine br_false (by first | with_reducible exact rfl | assumption | decide) ?_ | with_reducible first | refine br_kt (by assumption) ?_ | refine br_kf (by assumption) ?_ | refine br_nt (by assumption) ?_ | refine br_nf (by assumption) ?_ | refine br_et (by assumption) ?_ | refine br_ef (by assumption) ?_); conv => whnf)
        | ((with_reducible first | refine br_dec (fun h => ?_) (fun h => ?_) | refine br_ndec (fun h => ?_) (fun h => ?_) | refine br_ne (fun h => ?_) (fun h => ?_) | refine br_eq (fun h => ?_) (fun h => ?_)) <;> first | (exfalso; omega) | conv => whnf)
        | (refine br_intro (fun h => ?_) (fun h => ?_) <;> conv => whnf)
        | ((first | refine need_in (by first | exact trivial | assumption | exact ⟨rfl, Nat.le_refl _⟩ | exact ⟨rfl, rfl⟩ | (simp only [inR]; omega) | omega | (simp only [roomP, true_and, and_true, List.length_take, List.length_drop, List.length_append, List.length_cons, List.length_nil, List.length_set, List.length_replicate]; omega) | (refine ⟨by first | exact trivial | rfl, by first | exact Nat.le_refl _ | omega | (simp; omega), ?_⟩; change roomP _ _ 1; simp only [roomP]; omega) | (change roomP _ _ 1; simp only [roomP]; omega) | (simp; omega) | (simp [inR]; omega) | (simp [inR]; done) | decide | (simp; done)) ?_ | refine idx_nat (by omega) (fun x hx => ?_) | refine frz_auto ?_ | refine draw_plain ?_ | refine idx_intro (by first | omega | (simp; omega) | (simp; done)) (by first | omega | (simp; omega) | (simp; done)) (fun x hx => ?_)); conv => whnf)
    | false =>
      by_cases hll : 20 < (l.length : Int)
      · conv => whnf
        repeat' first
          | ((first | refine idx_kn (by assumption) ?_ | refine idx_ki (by assumption) (by omega) ?_ | refine br_true (by first | with_reducible exact rfl | assumption | decide) ?_ | refine br_false (by first | with_reducible exact rfl | assumption | decide) ?_ | with_reducible first | refine br_kt (by assumption) ?_ | refine br_kf (by assumption) ?_ | refine br_nt (by assumption) ?_ | refine br_nf (by assumption) ?_ | refine br_et (by assumption) ?_ | refine br_ef (by assumption) ?_); conv => whnf)
          | ((with_reducible first | refine br_dec (fun h => ?_) (fun h => ?_) | refine br_ndec (fun h => ?_) (fun h => ?_) | refine br_ne (fun h => ?_) (fun h => ?_) | refine br_eq (fun h => ?_) (fun h => ?_)) <;> first | (exfalso; omega) | conv => whnf)
          | (refine br_intro (fun h => ?_) (fun h => ?_) <;> conv => whnf)
          | ((first | refine need_in (by first | exact trivial | assumption | exact ⟨rfl, Nat.le_refl _⟩ | exact ⟨rfl, rfl⟩ | (simp only [inR]; omega) | omega | (simp only [roomP, true_and, and_true, List.length_take, List.length_drop, List.length_append, List.length_cons, List.length_nil, List.length_set, List.length_replicate]; omega) | (refine ⟨by first | exact trivial | rfl, by first | exact Nat.le_refl _ | omega | (simp; omega), ?_⟩; change roomP _ _ 1; simp only [roomP]; omega) | (change roomP _ _ 1; simp only [roomP]; omega) | (simp; omega) | (simp [inR]; omega) | (simp [inR]; done) | decide | (simp; done)) ?_ | refine idx_nat (by omega) (fun x hx => ?_) | refine frz_auto ?_ | refine draw_plain ?_ | refine idx_intro (by first | omega | (simp; omega) | (simp; done)) (by first | omega | (simp; omega) | (simp; done)) (fun x hx => ?_)); conv => whnf)
      · by_cases hlm : 20 < (m.length : Int)
        · conv => whnf
          repeat' first
            | ((first | refine idx_kn (by assumption) ?_ | refine idx_ki (by assumption) (by omega) ?_ | refine br_true (by first | with_reducible exact rfl | assumption | decide) ?_ | refine br_false (by first | with_reducible exact rfl | assumption | decide) ?_ | with_reducible first | refine br_kt (by assumption) ?_ | refine br_kf (by assumption) ?_ | refine br_nt (by assumption) ?_ | refine br_nf (by assumption) ?_ | refine br_et (by assumption) ?_ | refine br_ef (by assumption) ?_); conv => whnf)
            | ((with_reducible first | refine br_dec (fun h => ?_) (fun h => ?_) | refine br_ndec (fun h => ?_) (fun h => ?_) | refine br_ne (fun h => ?_) (fun h => ?_) | refine br_eq (fun h => ?_) (fun h => ?_)) <;> first | (exfalso; omega) | conv => whnf)
            | (refine br_intro (fun h => ?_) (fun h => ?_) <;> conv => whnf)
            | ((first | refine need_in (by first | exact trivial | assumption | exact ⟨rfl, Nat.le_refl _⟩ | exact ⟨rfl, rfl⟩ | (simp only [inR]; omega) | omega | (simp only [roomP, true_and, and_true, List.length_take, List.length_drop, List.length_append, List.length_cons, List.length_nil, List.length_set, List.length_replicate]; omega) | (refine ⟨by first | exact trivial | rfl, by first | exact Nat.le_refl _ | omega | (simp; omega), ?_⟩; change roomP _ _ 1; simp only [roomP]; omega) | (change roomP _ _ 1; simp only [roomP]; omega) | (simp; omega) | (simp [inR]; omega) | (simp [inR]; done) | decide | (simp; done)) ?_ | refine idx_nat (by omega) (fun x hx => ?_) | refine frz_auto ?_ | refine draw_plain ?_ | refine idx_intro (by first | omega | (simp; omega) | (simp; done)) (by first | omega | (simp; omega) | (simp; done)) (fun x hx => ?_)); conv => whnf)
        · conv => whnf
          repeat' first
            | ((first | refine idx_kn (by assumption) ?_ | refine idx_ki (by assumption) (by omega) ?_ | refine br_true (by first | with_reducible exact rfl | assumption | decide) ?_ | refine br_false (by first | with_reducible exact rfl | assumption | decide) ?_ | with_reducible first | refine br_kt (by assumption) ?_ | refine br_kf (by assumption) ?_ | refine br_nt (by assumption) ?_ | refine br_nf (by assumption) ?_ | refine br_et (by assumption) ?_ | refine br_ef (by assumption) ?_); conv => whnf)
            | ((with_reducible first | refine br_dec (fun h => ?_) (fun h => ?_) | refine br_ndec (fun h => ?_) (fun h => ?_) | refine br_ne (fun h => ?_) (fun h => ?_) | refine br_eq (fun h => ?_) (fun h => ?_)) <;> first | (exfalso; omega) | conv => whnf)
            | (refine br_intro (fun h => ?_) (fun h => ?_) <;> conv => whnf)
            | ((first | refine need_in (by first | exact trivial | assumption | exact ⟨rfl, Nat.le_refl _⟩ | exact ⟨rfl, rfl⟩ | (simp only [inR]; omega) | omega | (simp only [roomP, true_and, and_true, List.length_take, List.length_drop, List.length_append, List.length_cons, List.length_nil, List.length_set, List.length_replicate]; omega) | (refine ⟨by first | exact trivial | rfl, by first | exact Nat.le_refl _ | omega | (simp; omega), ?_⟩; change roomP _ _ 1; simp only [roomP]; omega) | (change roomP _ _ 1; simp only [roomP]; omega) | (simp; omega) | (simp [inR]; omega) | (simp [inR]; done) | decide | (simp; done)) ?_ | refine idx_nat (by omega) (fun x hx => ?_) | refine draw_plain ?_ | refine idx_intro (by first | omega | (simp; omega) | (simp; done)) (by first | omega | (simp; omega) | (simp; done)) (fun x hx => ?_)); conv => whnf)
          simp only [cast_self, List.take_zero, List.nil_append, Nat.zero_add, List.take_length, ← List.length_append]
          have hlm2 : (l ++ m).length ≤ 1000 := by rw [List.length_append]; omega
          refine frz_auto ?_
          conv => whnf
          simp only [List.take_length]
          have hm1 := merge_len (ofL l).1 (ofL m).1
          have hm2 := of_len (l ++ m)
          rcases of_cases (l := l) (by omega) with ⟨hb1, e1, ho1, hn1⟩ | ⟨he1, h51, ho1⟩
          · obtain ⟨e3, ho3, hn3⟩ := of_bad hlm2 (bad_l (m := m) hb1)
            have q1 : (ofL l).2 ≠ 0 := by rw [ho1]; exact hn1
            have q3 : (ofL (l ++ m)).2 ≠ 0 := by rw [ho3]; exact hn3
            conv => whnf
            repeat' first
              | ((first | refine idx_kn (by assumption) ?_ | refine idx_ki (by assumption) (by omega) ?_ | refine br_true (by first | with_reducible exact rfl | assumption | decide) ?_ | refine br_false (by first | with_reducible exact rfl | assumption | decide) ?_ | with_reducible first | refine br_kt (by assumption) ?_ | refine br_kf (by assumption) ?_ | refine br_nt (by assumption) ?_ | refine br_nf (by assumption) ?_ | refine br_et (by assumption) ?_ | refine br_ef (by assumption) ?_); conv => whnf)
              | ((with_reducible first | refine br_dec (fun h => ?_) (fun h => ?_) | refine br_ndec (fun h => ?_) (fun h => ?_) | refine br_ne (fun h => ?_) (fun h => ?_) | refine br_eq (fun h => ?_) (fun h => ?_)) <;> first | (exfalso; omega) | conv => whnf)
              | (refine br_intro (fun h => ?_) (fun h => ?_) <;> conv => whnf)
              | ((first | refine need_in (by first | exact trivial | assumption | exact ⟨rfl, Nat.le_refl _⟩ | exact ⟨rfl, rfl⟩ | (simp only [inR]; omega) | omega | (simp only [roomP, true_and, and_true, List.length_take, List.length_drop, List.length_append, List.length_cons, List.length_nil, List.length_set, List.length_replicate]; omega) | (refine ⟨by first | exact trivial | rfl, by first | exact Nat.le_refl _ | omega | (simp; omega), ?_⟩; change roomP _ _ 1; simp only [roomP]; omega) | (change roomP _ _ 1; simp only [roomP]; omega) | (simp; omega) | (simp [inR]; omega) | (simp [inR]; done) | decide | (simp; done)) ?_ | refine idx_nat (by omega) (fun x hx => ?_) | refine frz_auto ?_ | refine draw_plain ?_ | refine idx_intro (by first | omega | (simp; omega) | (simp; done)) (by first | omega | (simp; omega) | (simp; done)) (fun x hx => ?_)); conv => whnf)
          · have q1 : (ofL l).2 = 0 := by rw [ho1]
            rcases of_cases (l := m) (by omega) with ⟨hb2, e2, ho2, hn2⟩ | ⟨he2, h52, ho2⟩
            · obtain ⟨e3, ho3, hn3⟩ := of_bad hlm2 (bad_r (l := l) hb2)
              have q2 : (ofL m).2 ≠ 0 := by rw [ho2]; exact hn2
              have q3 : (ofL (l ++ m)).2 ≠ 0 := by rw [ho3]; exact hn3
              conv => whnf
              repeat' first
                | ((first | refine idx_kn (by assumption) ?_ | refine idx_ki (by assumption) (by omega) ?_ | refine br_true (by first | with_reducible exact rfl | assumption | decide) ?_ | refine br_false (by first | with_reducible exact rfl | assumption | decide) ?_ | with_reducible first | refine br_kt (by assumption) ?_ | refine br_kf (by assumption) ?_ | refine br_nt (by assumption) ?_ | refine br_nf (by assumption) ?_ | refine br_et (by assumption) ?_ | refine br_ef (by assumption) ?_); conv => whnf)
                | ((with_reducible first | refine br_dec (fun h => ?_) (fun h => ?_) | refine br_ndec (fun h => ?_) (fun h => ?_) | refine br_ne (fun h => ?_) (fun h => ?_) | refine br_eq (fun h => ?_) (fun h => ?_)) <;> first | (exfalso; omega) | conv => whnf)
                | (refine br_intro (fun h => ?_) (fun h => ?_) <;> conv => whnf)
                | ((first | refine need_in (by first | exact trivial | assumption | exact ⟨rfl, Nat.le_refl _⟩ | exact ⟨rfl, rfl⟩ | (simp only [inR]; omega) | omega | (simp only [roomP, true_and, and_true, List.length_take, List.length_drop, List.length_append, List.length_cons, List.length_nil, List.length_set, List.length_replicate]; omega) | (refine ⟨by first | exact trivial | rfl, by first | exact Nat.le_refl _ | omega | (simp; omega), ?_⟩; change roomP _ _ 1; simp only [roomP]; omega) | (change roomP _ _ 1; simp only [roomP]; omega) | (simp; omega) | (simp [inR]; omega) | (simp [inR]; done) | decide | (simp; done)) ?_ | refine idx_nat (by omega) (fun x hx => ?_) | refine frz_auto ?_ | refine draw_plain ?_ | refine idx_intro (by first | omega | (simp; omega) | (simp; done)) (by first | omega | (simp; omega) | (simp; done)) (fun x hx => ?_)); conv => whnf)
            · have q2 : (ofL m).2 = 0 := by rw [ho2]
              rcases mg_cases (l := l) (m := m) (by omega) (by omega) he1 he2 h51 h52 with ⟨ho3, hmg⟩ | ⟨T, ho3, hmg, hdf, hTl⟩
              · have q3 : (ofL (l ++ m)).2 = 3 := by rw [ho3]
                have q4 : (mergeL (ofL l).1 (ofL m).1).2 = 3 := by rw [ho1, ho2]; exact congrArg Prod.snd hmg
                conv => whnf
                repeat' first
                  | ((first | refine idx_kn (by assumption) ?_ | refine idx_ki (by assumption) (by omega) ?_ | refine br_true (by first | with_reducible exact rfl | assumption | decide) ?_ | refine br_false (by first | with_reducible exact rfl | assumption | decide) ?_ | with_reducible first | refine br_kt (by assumption) ?_ | refine br_kf (by assumption) ?_ | refine br_nt (by assumption) ?_ | refine br_nf (by assumption) ?_ | refine br_et (by assumption) ?_ | refine br_ef (by assumption) ?_); conv => whnf)
                  | ((with_reducible first | refine br_dec (fun h => ?_) (fun h => ?_) | refine br_ndec (fun h => ?_) (fun h => ?_) | refine br_ne (fun h => ?_) (fun h => ?_) | refine br_eq (fun h => ?_) (fun h => ?_)) <;> first | (exfalso; omega) | conv => whnf)
                  | (refine br_intro (fun h => ?_) (fun h => ?_) <;> conv => whnf)
                  | ((first | refine need_in (by first | exact trivial | assumption | exact ⟨rfl, Nat.le_refl _⟩ | exact ⟨rfl, rfl⟩ | (simp only [inR]; omega) | omega | (simp only [roomP, true_and, and_true, List.length_take, List.length_drop, List.length_append, List.length_cons, List.length_nil, List.length_set, List.length_replicate]; omega) | (refine ⟨by first | exact trivial | rfl, by first | exact Nat.le_refl _ | omega | (simp; omega), ?_⟩; change roomP _ _ 1; simp only [roomP]; omega) | (change roomP _ _ 1; simp only [roomP]; omega) | (simp; omega) | (simp [inR]; omega) | (simp [inR]; done) | decide | (simp; done)) ?_ | refine idx_nat (by omega) (fun x hx => ?_) | refine frz_auto ?_ | refine draw_plain ?_ | refine idx_intro (by first | omega | (simp; omega) | (simp; done)) (by first | omega | (simp; omega) | (simp; done)) (fun x hx => ?_)); conv => whnf)
                all_goals (exfalso; omega)
              · have q3 : (ofL (l ++ m)).2 = 0 := by rw [ho3]
                have q3' : (ofL (l ++ m)).1 = T := by rw [ho3]
                have q4 : mergeL (ofL l).1 (ofL m).1 = (T, 0) := by rw [ho1, ho2]; exact hmg
                have q5 : (mergeL (ofL l).1 (ofL m).1).2 = 0 := by rw [q4]
                have q6 : sameL rcT (ofL (l ++ m)).1 (mergeL (ofL l).1 (ofL m).1).1 = true := by rw [q4, q3']; exact sameC_refl T
                have q7 : (difR (ofL (l ++ m)).1 (mergeL (ofL l).1 (ofL m).1).1).2 = 4 := by rw [q4, q3', hdf]
                conv => whnf
                repeat' first
                  | ((first | refine idx_kn (by assumption) ?_ | refine idx_ki (by assumption) (by omega) ?_ | refine br_true (by first | with_reducible exact rfl | assumption | decide) ?_ | refine br_false (by first | with_reducible exact rfl | assumption | decide) ?_ | with_reducible first | refine br_kt (by assumption) ?_ | refine br_kf (by assumption) ?_ | refine br_nt (by assumption) ?_ | refine br_nf (by assumption) ?_ | refine br_et (by assumption) ?_ | refine br_ef (by assumption) ?_); conv => whnf)
                  | ((with_reducible first | refine br_dec (fun h => ?_) (fun h => ?_) | refine br_ndec (fun h => ?_) (fun h => ?_) | refine br_ne (fun h => ?_) (fun h => ?_) | refine br_eq (fun h => ?_) (fun h => ?_)) <;> first | (exfalso; omega) | conv => whnf)
                  | (refine br_intro (fun h => ?_) (fun h => ?_) <;> conv => whnf)
                  | ((first | refine need_in (by first | exact trivial | assumption | exact ⟨rfl, Nat.le_refl _⟩ | exact ⟨rfl, rfl⟩ | (simp only [inR]; omega) | omega | (simp only [roomP, true_and, and_true, List.length_take, List.length_drop, List.length_append, List.length_cons, List.length_nil, List.length_set, List.length_replicate]; omega) | (refine ⟨by first | exact trivial | rfl, by first | exact Nat.le_refl _ | omega | (simp; omega), ?_⟩; change roomP _ _ 1; simp only [roomP]; omega) | (change roomP _ _ 1; simp only [roomP]; omega) | (simp; omega) | (simp [inR]; omega) | (simp [inR]; done) | decide | (simp; done)) ?_ | refine idx_nat (by omega) (fun x hx => ?_) | refine frz_auto ?_ | refine draw_plain ?_ | refine idx_intro (by first | omega | (simp; omega) | (simp; done)) (by first | omega | (simp; omega) | (simp; done)) (fun x hx => ?_)); conv => whnf)
                all_goals (exfalso; omega)
theorem lMg : ∀ es : Ty.Els lMg_T, tyOks lMg_T es → bodyA lMg_C (callN lMg_C lMg_N) Try.f8 (avTs lMg_T es) [] (fun v _ => v = .bool true) := by
  rintro ⟨l, m, _⟩ _
  exact lMg' l m
end Go.Proofs.Ytadckioheabliaa
