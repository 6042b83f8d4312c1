/-
  Merge, by the code. (Printed by mk24.py of src24/XRm.src.)
-/
import Derived.Test.YtadckioheabliaaRl
namespace Go.Proofs.Ytadckioheabliaa
open Av

/-- What is merged of the first so many counts of two tables. -/
structure MgI (a b T : List rcT.El) (i j : Nat) : Prop where
  asc : ascC T
  pos : posC T
  cnt : ∀ n, countC T n = countC (a.take i) n + countC (b.take j) n
  xab : ∀ z ∈ a.take i, ∀ y, b[j]? = some y → idC z < idC y
  xba : ∀ z ∈ b.take j, ∀ x, a[i]? = some x → idC z < idC x
theorem mg_nil (a b : List rcT.El) : MgI a b [] 0 0 := ⟨asc_nil.1, asc_nil.2, fun n => by rw [List.take_zero, List.take_zero, cntC_nil]; rfl, by simp, by simp⟩
theorem take_case {a : List rcT.El} {i : Nat} {x z : rcT.El} (hx : a[i]? = some x) (hz : z ∈ a.take (i + 1)) : z ∈ a.take i ∨ z = x := by
  rw [List.take_add_one, hx] at hz
  rcases List.mem_append.1 hz with hz | hz
  · exact .inl hz
  · exact .inr (by simpa using hz)
theorem next_lt {a : List rcT.El} (ha : ascC a) {i : Nat} {x x' : rcT.El} (hx : a[i]? = some x) (hx' : a[i + 1]? = some x') : idC x < idC x' := by
  have h1 := (List.getElem?_eq_some_iff.1 hx).1
  have h2 := (List.getElem?_eq_some_iff.1 hx').1
  have h3 := List.pairwise_iff_getElem.1 ha i (i + 1) h1 h2 (by omega)
  rw [(List.getElem?_eq_some_iff.1 hx).2, (List.getElem?_eq_some_iff.1 hx').2] at h3
  exact h3
theorem mg_a {a b T : List rcT.El} {i j : Nat} (ha : ascC a ∧ posC a) (h : MgI a b T i j) {x : rcT.El} (hx : a[i]? = some x) (hy : ∀ y, b[j]? = some y → idC x < idC y) : MgI a b (withC T (idC x) (nC x)) (i + 1) j where
  asc := (with_spec h.asc _ _).1
  pos := with_pos h.asc h.pos _ _
  cnt := fun n => by
    have h1 := ha.2 x (List.mem_of_getElem? hx)
    rw [with_cnt h.asc, (cnt_take ha.1 hx n).1, h.cnt]
    by_cases hn : n = idC x
    · subst hn
      rw [if_pos rfl, if_pos rfl, if_pos (by omega), cnt_none (t := b.take j) (fun z hz e => by have := h.xba z hz x hx; omega)]
      omega
    · rw [if_neg hn, if_neg hn]
  xab := fun z hz y hy' => by
    rcases take_case hx hz with hz | rfl
    · exact h.xab z hz y hy'
    · exact hy y hy'
  xba := fun z hz x' hx' => Int.lt_trans (h.xba z hz x hx) (next_lt ha.1 hx hx')
theorem mg_b {a b T : List rcT.El} {i j : Nat} (hb : ascC b ∧ posC b) (h : MgI a b T i j) {y : rcT.El} (hy : b[j]? = some y) (hx : ∀ x, a[i]? = some x → idC y < idC x) : MgI a b (withC T (idC y) (nC y)) i (j + 1) where
  asc := (with_spec h.asc _ _).1
  pos := with_pos h.asc h.pos _ _
  cnt := fun n => by
    have h1 := hb.2 y (List.mem_of_getElem? hy)
    rw [with_cnt h.asc, (cnt_take hb.1 hy n).1, h.cnt]
    by_cases hn : n = idC y
    · subst hn
      rw [if_pos rfl, if_pos rfl, if_pos (by omega), cnt_none (t := a.take i) (fun z hz e => by have := h.xab z hz y hy; omega)]
      omega
    · rw [if_neg hn, if_neg hn]
  xba := fun z hz x hx' => by
    rcases take_case hy hz with hz | rfl
    · exact h.xba z hz x hx'
    · exact hx x hx'
  xab := fun z hz y' hy' => Int.lt_trans (h.xab z hz y hy) (next_lt hb.1 hy hy')
theorem mg_ab {a b T : List rcT.El} {i j : Nat} (ha : ascC a ∧ posC a) (hb : ascC b ∧ posC b) (h : MgI a b T i j) {x y : rcT.El} (hx : a[i]? = some x) (hy : b[j]? = some y) (he : idC x = idC y) : MgI a b (withC T (idC x) (nC x + nC y)) (i + 1) (j + 1) where
  asc := (with_spec h.asc _ _).1
  pos := with_pos h.asc h.pos _ _
  cnt := fun n => by
    have h1 := ha.2 x (List.mem_of_getElem? hx)
    have h2 := hb.2 y (List.mem_of_getElem? hy)
    rw [with_cnt h.asc, (cnt_take ha.1 hx n).1, (cnt_take hb.1 hy n).1, h.cnt, ← he]
    by_cases hn : n = idC x
    · subst hn
      rw [if_pos rfl, if_pos rfl, if_pos rfl, if_pos (by omega)]
    · rw [if_neg hn, if_neg hn, if_neg hn]
  xab := fun z hz y' hy' => by
    have h3 := next_lt hb.1 hy hy'
    rcases take_case hx hz with hz | rfl
    · exact Int.lt_trans (h.xab z hz y hy) h3
    · rw [he]; exact h3
  xba := fun z hz x' hx' => by
    have h3 := next_lt ha.1 hx hx'
    rcases take_case hy hz with hz | rfl
    · exact Int.lt_trans (h.xba z hz x hx) h3
    · rw [← he]; exact h3
theorem mg_end {a b T : List rcT.El} {i j : Nat} (ha : ascC a ∧ posC a) (hb : ascC b ∧ posC b) (h : MgI a b T i j) (hi : a.length ≤ i) (hj : b.length ≤ j) : T = mgN a b b.length := by
  have h1 := mgN_asc (b := b) ha b.length
  refine tab_ext h.asc h1.1 h.pos h1.2 (fun n => ?_)
  rw [h.cnt, mgN_cnt ha hb _ (Nat.le_refl _), List.take_of_length_le hi, List.take_of_length_le hj, List.take_length]
theorem in_q0 {q : Int} (h1 : 1 ≤ q) (h2 : q ≤ 1000000) : inR .i64 (q + 0) := by constructor <;> omega
theorem in_0q {q : Int} (h1 : 1 ≤ q) (h2 : q ≤ 1000000) : inR .i64 (0 + q) := by constructor <;> omega
theorem in_qr {q r : Int} (h1 : 1 ≤ q) (h2 : q ≤ 1000000) (h3 : 1 ≤ r) (h4 : r ≤ 1000000) : inR .i64 (q + r) := by constructor <;> omega
theorem pos_q0 {q : Int} (h1 : 1 ≤ q) : 0 < q + 0 := by omega
theorem pos_0q {q : Int} (h1 : 1 ≤ q) : 0 < 0 + q := by omega
theorem pos_qr {q r : Int} (h1 : 1 ≤ q) (h3 : 1 ≤ r) : 0 < q + r := by omega
set_option maxRecDepth 100000 in
theorem fnOk_rfMg : FnOk Try.prog 31 Try.f31 := ⟨by rfl, by kernel_rfl, by
  show okCode _ _ = true ∧ drawsOk _ = true
  exact ⟨by kernel_rfl, by kernel_rfl⟩⟩
set_option maxRecDepth 100000 in
theorem fnOk_rfMg1 : FnOk Try.prog 52 Try.f52 := ⟨by rfl, by kernel_rfl, by
  show okCode _ _ = true ∧ drawsOk _ = true
  exact ⟨by kernel_rfl, by kernel_rfl⟩⟩
noncomputable def cr16 : Cx := ⟨tb, [(48, Try.f48), (52, Try.f52), (42, Try.f42), (62, Try.f62)], [(49, spIdOf), (47, spTwo), (38, spCmpI)]⟩
theorem spr16 : SpecsOk Try.prog cr16.specs := .cons rfIdOf_ok (.cons rfCkd_ok (.cons cmpI_ok .nil))
theorem fnr16 : FnsOk Try.prog cr16.fns := .cons fnOk_rfBoth (.cons fnOk_rfMg1 (.cons fnOk_rfTab (.cons fnOk_rfTab1 .nil)))
set_option maxRecDepth 100000 in
set_option maxHeartbeats 8000000 in
theorem rfMg_ok : SpecOk Try.prog 31 spMg := by
  refine spec_body (C := cr16) mixed tbOk spr16 (callZ_ok (C := cr16) mixed tbOk spr16 fnr16 sortsC 4) fnOk_rfMg ?_
  intro ys p r h hp
  unfold spMg at h
  split at h
  · rename_i a b
    cases h
    by_cases htw : twoE a b = 0
    · have htw' : (!twoE a b == 0) = false := by rw [htw]; rfl
      obtain ⟨hca, hcb⟩ := two_zero htw
      obtain ⟨hla, hga, hasa⟩ := ckL_zero hca
      obtain ⟨hlb, hgb, hasb⟩ := ckL_zero hcb
      have ha : ascC a ∧ posC a := ⟨hasa, good_pos hga⟩
      have hb : ascC b ∧ posC b := ⟨hasb, good_pos hgb⟩
      have hc0 : mergeL a b = tabR (mgN a b b.length) := if_neg (fun e => e htw)
      conv => whnf
      repeat' first
        | ((first | refine idx_kn (by assumption) ?_ | refine idx_ki (by assumption) (by omega) ?_ | refine br_true (by first | with_reducible exact rfl | assumption | decide) ?_ | refine br_false (by first | with_reducible exact rfl | assumption | decide) ?_ | with_reducible first | refine br_kt (by assumption) ?_ | refine br_kf (by assumption) ?_ | refine br_nt (by assumption) ?_ | refine br_nf (by assumption) ?_ | refine br_et (by assumption) ?_ | refine br_ef (by assumption) ?_); conv => whnf)
        | ((with_reducible first | refine br_dec (fun h => ?_) (fun h => ?_) | refine br_ndec (fun h => ?_) (fun h => ?_) | refine br_ne (fun h => ?_) (fun h => ?_) | refine br_eq (fun h => ?_) (fun h => ?_)) <;> first | (exfalso; omega) | conv => whnf)
        | (refine br_intro (fun h => ?_) (fun h => ?_) <;> conv => whnf)
        | ((first | refine need_in (by first | exact trivial | assumption | exact ⟨rfl, Nat.le_refl _⟩ | exact ⟨rfl, rfl⟩ | (simp only [inR]; omega) | omega | (simp only [roomP, true_and, and_true, List.length_take, List.length_drop, List.length_append, List.length_cons, List.length_nil, List.length_set, List.length_replicate]; omega) | (refine ⟨by first | exact trivial | rfl, by first | exact Nat.le_refl _ | omega | (simp; omega), ?_⟩; change roomP _ _ 1; simp only [roomP]; omega) | (change roomP _ _ 1; simp only [roomP]; omega) | (simp; omega) | (simp [inR]; omega) | (simp [inR]; done) | decide | (simp; done)) ?_ | refine idx_nat (by omega) (fun x hx => ?_) | refine frz_auto ?_ | refine draw_plain ?_ | refine idx_intro (by first | omega | (simp; omega) | (simp; done)) (by first | omega | (simp; omega) | (simp; done)) (fun x hx => ?_)); conv => whnf)
      refine .mk (fun bm => ?_)
      conv => whnf
      repeat' first
        | ((first | refine idx_kn (by assumption) ?_ | refine idx_ki (by assumption) (by omega) ?_ | refine br_true (by first | with_reducible exact rfl | assumption | decide) ?_ | refine br_false (by first | with_reducible exact rfl | assumption | decide) ?_ | with_reducible first | refine br_kt (by assumption) ?_ | refine br_kf (by assumption) ?_ | refine br_nt (by assumption) ?_ | refine br_nf (by assumption) ?_ | refine br_et (by assumption) ?_ | refine br_ef (by assumption) ?_); conv => whnf)
        | ((with_reducible first | refine br_dec (fun h => ?_) (fun h => ?_) | refine br_ndec (fun h => ?_) (fun h => ?_) | refine br_ne (fun h => ?_) (fun h => ?_) | refine br_eq (fun h => ?_) (fun h => ?_)) <;> first | (exfalso; omega) | conv => whnf)
        | (refine br_intro (fun h => ?_) (fun h => ?_) <;> conv => whnf)
        | ((first | refine need_in (by first | exact trivial | assumption | exact ⟨rfl, Nat.le_refl _⟩ | exact ⟨rfl, rfl⟩ | (simp only [inR]; omega) | omega | (simp only [roomP, true_and, and_true, List.length_take, List.length_drop, List.length_append, List.length_cons, List.length_nil, List.length_set, List.length_replicate]; omega) | (refine ⟨by first | exact trivial | rfl, by first | exact Nat.le_refl _ | omega | (simp; omega), ?_⟩; change roomP _ _ 1; simp only [roomP]; omega) | (change roomP _ _ 1; simp only [roomP]; omega) | (simp; omega) | (simp [inR]; omega) | (simp [inR]; done) | decide | (simp; done)) ?_ | refine idx_nat (by omega) (fun x hx => ?_) | refine frz_auto ?_ | refine draw_plain ?_ | refine idx_intro (by first | omega | (simp; omega) | (simp; done)) (by first | omega | (simp; omega) | (simp; done)) (fun x hx => ?_)); conv => whnf)
      refine loop_inv [] [0, 1] (fun vs h => ∃ (i j : Nat) (m : List mI) (T : List rcT.El), vs = [.lst rcT (a.drop i), .lst rcT (b.drop j)] ∧ h = [.arr 52 rcT [] false 0, .oth (.map bm (.int .i64) (.int .i64) m), .cells 60 [.oth 1]] ∧ MapC m T ∧ MgI a b T i j) (fun vs _ => match vs with | [.lst _ l, .lst _ m] => l.length + m.length | _ => 0) ?_
      conv => whnf
      refine ⟨⟨0, 0, [], [], rfl, rfl, mapC_nil, mg_nil a b⟩, ?_⟩
      rintro vs h' - ⟨i, j, M, T, rfl, rfl, hm, hI⟩
      have hda := List.length_drop (i := i) (l := a)
      have hdb := List.length_drop (i := j) (l := b)
      by_cases hia : i < a.length
      · obtain ⟨⟨n, q, ⟨⟩⟩, hx⟩ : ∃ x, a[i]? = some x := ⟨_, List.getElem?_eq_getElem hia⟩
        have hx0 : (a.drop i)[0]? = some (n, q, ()) := by rw [List.getElem?_drop]; exact hx
        have hgx := hga _ (List.mem_of_getElem? hx)
        have hn1 : (1 : Int) ≤ n := good_one hgx
        have hq1 : (1 : Int) ≤ q := hgx.2.1
        have hq2 : (q : Int) ≤ 1000000 := hgx.2.2
        have hmz := max_zero hn1
        have hr1 := in_q0 hq1 hq2
        by_cases hib : j < b.length
        · obtain ⟨⟨m, r, ⟨⟩⟩, hy⟩ : ∃ x, b[j]? = some x := ⟨_, List.getElem?_eq_getElem hib⟩
          have hy0 : (b.drop j)[0]? = some (m, r, ()) := by rw [List.getElem?_drop]; exact hy
          have hgy := hgb _ (List.mem_of_getElem? hy)
          have hm1 : (1 : Int) ≤ m := good_one hgy
          have hr1' : (1 : Int) ≤ r := hgy.2.1
          have hr2' : (r : Int) ≤ 1000000 := hgy.2.2
          have hmmz := max_zero2 hm1
          have hr2 := in_0q hr1' hr2'
          have hr3 := in_qr hq1 hq2 hr1' hr2'
          rcases Int.lt_trichotomy n m with hlt | heq | hgt
          · have h1 : n ≤ m := Int.le_of_lt hlt
            have h2 : ¬ m ≤ n := Int.not_le.2 hlt
            have hI2 := mg_a ha hI hx (fun y h => by rw [hy] at h; cases h; exact hlt)
            have hput := mapC_put (k := if n < 0 then (0 : Int) else n) (c := q + 0) hm hI.asc (pos_q0 hq1)
            conv => whnf
            repeat' first
              | ((first | refine idx_kn (by assumption) ?_ | refine idx_ki (by assumption) (by omega) ?_ | refine br_true (by first | with_reducible exact rfl | assumption | decide) ?_ | refine br_false (by first | with_reducible exact rfl | assumption | decide) ?_ | with_reducible first | refine br_kt (by assumption) ?_ | refine br_kf (by assumption) ?_ | refine br_nt (by assumption) ?_ | refine br_nf (by assumption) ?_ | refine br_et (by assumption) ?_ | refine br_ef (by assumption) ?_); conv => whnf)
              | ((with_reducible first | refine br_dec (fun h => ?_) (fun h => ?_) | refine br_ndec (fun h => ?_) (fun h => ?_) | refine br_ne (fun h => ?_) (fun h => ?_) | refine br_eq (fun h => ?_) (fun h => ?_)) <;> first | (exfalso; omega) | conv => whnf)
              | (refine br_intro (fun h => ?_) (fun h => ?_) <;> conv => whnf)
              | ((first | refine need_in (by first | exact trivial | assumption | exact ⟨rfl, Nat.le_refl _⟩ | exact ⟨rfl, rfl⟩ | (simp only [inR]; omega) | omega | (simp only [roomP, true_and, and_true, List.length_take, List.length_drop, List.length_append, List.length_cons, List.length_nil, List.length_set, List.length_replicate]; omega) | (refine ⟨by first | exact trivial | rfl, by first | exact Nat.le_refl _ | omega | (simp; omega), ?_⟩; change roomP _ _ 1; simp only [roomP]; omega) | (change roomP _ _ 1; simp only [roomP]; omega) | (simp; omega) | (simp [inR]; omega) | (simp [inR]; done) | decide | (simp; done)) ?_ | refine idx_nat (by omega) (fun x hx => ?_) | refine frz_auto ?_ | refine draw_plain ?_ | refine idx_intro (by first | omega | (simp; omega) | (simp; done)) (by first | omega | (simp; omega) | (simp; done)) (fun x hx => ?_)); conv => whnf)
            refine back_intro (by conv => whnf) rfl ⟨i + 1, j, _, _, two_lst ?_ rfl, rfl, hput, by rw [hmz, Int.add_zero]; exact hI2⟩ ?_
            · simp [List.drop_drop]
              exact List.take_of_length_le (by rw [List.length_drop]; omega)
            · show (List.take _ (List.drop _ (List.drop i a))).length + (List.drop j b).length < (List.drop i a).length + (List.drop j b).length
              simp only [List.length_take, List.length_drop]
              omega
          · subst heq
            have h1 : n ≤ n := Int.le_refl n
            have hmm := max_self n
            have hI2 := mg_ab ha hb hI hx hy rfl
            have hput := mapC_put (k := if n < n then n else n) (c := q + r) hm hI.asc (pos_qr hq1 hr1')
            conv => whnf
            repeat' first
              | ((first | refine idx_kn (by assumption) ?_ | refine idx_ki (by assumption) (by omega) ?_ | refine br_true (by first | with_reducible exact rfl | assumption | decide) ?_ | refine br_false (by first | with_reducible exact rfl | assumption | decide) ?_ | with_reducible first | refine br_kt (by assumption) ?_ | refine br_kf (by assumption) ?_ | refine br_nt (by assumption) ?_ | refine br_nf (by assumption) ?_ | refine br_et (by assumption) ?_ | refine br_ef (by assumption) ?_); conv => whnf)
              | ((with_reducible first | refine br_dec (fun h => ?_) (fun h => ?_) | refine br_ndec (fun h => ?_) (fun h => ?_) | refine br_ne (fun h => ?_) (fun h => ?_) | refine br_eq (fun h => ?_) (fun h => ?_)) <;> first | (exfalso; omega) | conv => whnf)
              | (refine br_intro (fun h => ?_) (fun h => ?_) <;> conv => whnf)
              | ((first | refine need_in (by first | exact trivial | assumption | exact ⟨rfl, Nat.le_refl _⟩ | exact ⟨rfl, rfl⟩ | (simp only [inR]; omega) | omega | (simp only [roomP, true_and, and_true, List.length_take, List.length_drop, List.length_append, List.length_cons, List.length_nil, List.length_set, List.length_replicate]; omega) | (refine ⟨by first | exact trivial | rfl, by first | exact Nat.le_refl _ | omega | (simp; omega), ?_⟩; change roomP _ _ 1; simp only [roomP]; omega) | (change roomP _ _ 1; simp only [roomP]; omega) | (simp; omega) | (simp [inR]; omega) | (simp [inR]; done) | decide | (simp; done)) ?_ | refine idx_nat (by omega) (fun x hx => ?_) | refine frz_auto ?_ | refine draw_plain ?_ | refine idx_intro (by first | omega | (simp; omega) | (simp; done)) (by first | omega | (simp; omega) | (simp; done)) (fun x hx => ?_)); conv => whnf)
            refine back_intro (by conv => whnf) rfl ⟨i + 1, j + 1, _, _, two_lst ?_ ?_, rfl, hput, by rw [hmm]; exact hI2⟩ ?_
            · simp [List.drop_drop]
              exact List.take_of_length_le (by rw [List.length_drop]; omega)
            · simp [List.drop_drop]
              exact List.take_of_length_le (by rw [List.length_drop]; omega)
            · show (List.take _ (List.drop _ (List.drop i a))).length + (List.take _ (List.drop _ (List.drop j b))).length < (List.drop i a).length + (List.drop j b).length
              simp only [List.length_take, List.length_drop]
              omega
          · have h1 : m ≤ n := Int.le_of_lt hgt
            have h2 : ¬ n ≤ m := Int.not_le.2 hgt
            have hI2 := mg_b hb hI hy (fun x h => by rw [hx] at h; cases h; exact hgt)
            have hput := mapC_put (k := if 0 < m then m else (0 : Int)) (c := 0 + r) hm hI.asc (pos_0q hr1')
            conv => whnf
            repeat' first
              | ((first | refine idx_kn (by assumption) ?_ | refine idx_ki (by assumption) (by omega) ?_ | refine br_true (by first | with_reducible exact rfl | assumption | decide) ?_ | refine br_false (by first | with_reducible exact rfl | assumption | decide) ?_ | with_reducible first | refine br_kt (by assumption) ?_ | refine br_kf (by assumption) ?_ | refine br_nt (by assumption) ?_ | refine br_nf (by assumption) ?_ | refine br_et (by assumption) ?_ | refine br_ef (by assumption) ?_); conv => whnf)
              | ((with_reducible first | refine br_dec (fun h => ?_) (fun h => ?_) | refine br_ndec (fun h => ?_) (fun h => ?_) | refine br_ne (fun h => ?_) (fun h => ?_) | refine br_eq (fun h => ?_) (fun h => ?_)) <;> first | (exfalso; omega) | conv => whnf)
              | (refine br_intro (fun h => ?_) (fun h => ?_) <;> conv => whnf)
              | ((first | refine need_in (by first | exact trivial | assumption | exact ⟨rfl, Nat.le_refl _⟩ | exact ⟨rfl, rfl⟩ | (simp only [inR]; omega) | omega | (simp only [roomP, true_and, and_true, List.length_take, List.length_drop, List.length_append, List.length_cons, List.length_nil, List.length_set, List.length_replicate]; omega) | (refine ⟨by first | exact trivial | rfl, by first | exact Nat.le_refl _ | omega | (simp; omega), ?_⟩; change roomP _ _ 1; simp only [roomP]; omega) | (change roomP _ _ 1; simp only [roomP]; omega) | (simp; omega) | (simp [inR]; omega) | (simp [inR]; done) | decide | (simp; done)) ?_ | refine idx_nat (by omega) (fun x hx => ?_) | refine frz_auto ?_ | refine draw_plain ?_ | refine idx_intro (by first | omega | (simp; omega) | (simp; done)) (by first | omega | (simp; omega) | (simp; done)) (fun x hx => ?_)); conv => whnf)
            refine back_intro (by conv => whnf) rfl ⟨i, j + 1, _, _, two_lst rfl ?_, rfl, hput, by rw [hmmz, Int.zero_add]; exact hI2⟩ ?_
            · simp [List.drop_drop]
              exact List.take_of_length_le (by rw [List.length_drop]; omega)
            · show (List.drop i a).length + (List.take _ (List.drop _ (List.drop j b))).length < (List.drop i a).length + (List.drop j b).length
              simp only [List.length_take, List.length_drop]
              omega
        · have hy : b[j]? = none := List.getElem?_eq_none (by omega)
          have hI2 := mg_a ha hI hx (fun y h => by rw [hy] at h; cases h)
          have hput := mapC_put (k := if n < 0 then (0 : Int) else n) (c := q + 0) hm hI.asc (pos_q0 hq1)
          conv => whnf
          repeat' first
            | ((first | refine idx_kn (by assumption) ?_ | refine idx_ki (by assumption) (by omega) ?_ | refine br_true (by first | with_reducible exact rfl | assumption | decide) ?_ | refine br_false (by first | with_reducible exact rfl | assumption | decide) ?_ | with_reducible first | refine br_kt (by assumption) ?_ | refine br_kf (by assumption) ?_ | refine br_nt (by assumption) ?_ | refine br_nf (by assumption) ?_ | refine br_et (by assumption) ?_ | refine br_ef (by assumption) ?_); conv => whnf)
            | ((with_reducible first | refine br_dec (fun h => ?_) (fun h => ?_) | refine br_ndec (fun h => ?_) (fun h => ?_) | refine br_ne (fun h => ?_) (fun h => ?_) | refine br_eq (fun h => ?_) (fun h => ?_)) <;> first | (exfalso; omega) | conv => whnf)
            | (refine br_intro (fun h => ?_) (fun h => ?_) <;> conv => whnf)
            | ((first | refine need_in (by first | exact trivial | assumption | exact ⟨rfl, Nat.le_refl _⟩ | exact ⟨rfl, rfl⟩ | (simp only [inR]; omega) | omega | (simp only [roomP, true_and, and_true, List.length_take, List.length_drop, List.length_append, List.length_cons, List.length_nil, List.length_set, List.length_replicate]; omega) | (refine ⟨by first | exact trivial | rfl, by first | exact Nat.le_refl _ | omega | (simp; omega), ?_⟩; change roomP _ _ 1; simp only [roomP]; omega) | (change roomP _ _ 1; simp only [roomP]; omega) | (simp; omega) | (simp [inR]; omega) | (simp [inR]; done) | decide | (simp; done)) ?_ | refine idx_nat (by omega) (fun x hx => ?_) | refine frz_auto ?_ | refine draw_plain ?_ | refine idx_intro (by first | omega | (simp; omega) | (simp; done)) (by first | omega | (simp; omega) | (simp; done)) (fun x hx => ?_)); conv => whnf)
          refine back_intro (by conv => whnf) rfl ⟨i + 1, j, _, _, two_lst ?_ rfl, rfl, hput, by rw [hmz, Int.add_zero]; exact hI2⟩ ?_
          · simp [List.drop_drop]
            exact List.take_of_length_le (by rw [List.length_drop]; omega)
          · show (List.take _ (List.drop _ (List.drop i a))).length + (List.drop j b).length < (List.drop i a).length + (List.drop j b).length
            simp only [List.length_take, List.length_drop]
            omega
      · have hx : a[i]? = none := List.getElem?_eq_none (by omega)
        by_cases hib : j < b.length
        · obtain ⟨⟨m, r, ⟨⟩⟩, hy⟩ : ∃ x, b[j]? = some x := ⟨_, List.getElem?_eq_getElem hib⟩
          have hy0 : (b.drop j)[0]? = some (m, r, ()) := by rw [List.getElem?_drop]; exact hy
          have hgy := hgb _ (List.mem_of_getElem? hy)
          have hm1 : (1 : Int) ≤ m := good_one hgy
          have hr1' : (1 : Int) ≤ r := hgy.2.1
          have hr2' : (r : Int) ≤ 1000000 := hgy.2.2
          have hmmz := max_zero2 hm1
          have hr2 := in_0q hr1' hr2'
          have hI2 := mg_b hb hI hy (fun x h => by rw [hx] at h; cases h)
          have hput := mapC_put (k := if 0 < m then m else (0 : Int)) (c := 0 + r) hm hI.asc (pos_0q hr1')
          conv => whnf
          repeat' first
            | ((first | refine idx_kn (by assumption) ?_ | refine idx_ki (by assumption) (by omega) ?_ | refine br_true (by first | with_reducible exact rfl | assumption | decide) ?_ | refine br_false (by first | with_reducible exact rfl | assumption | decide) ?_ | with_reducible first | refine br_kt (by assumption) ?_ | refine br_kf (by assumption) ?_ | refine br_nt (by assumption) ?_ | refine br_nf (by assumption) ?_ | refine br_et (by assumption) ?_ | refine br_ef (by assumption) ?_); conv => whnf)
            | ((with_reducible first | refine br_dec (fun h => ?_) (fun h => ?_) | refine br_ndec (fun h => ?_) (fun h => ?_) | refine br_ne (fun h => ?_) (fun h => ?_) | refine br_eq (fun h => ?_) (fun h => ?_)) <;> first | (exfalso; omega) | conv => whnf)
            | (refine br_intro (fun h => ?_) (fun h => ?_) <;> conv => whnf)
            | ((first | refine need_in (by first | exact trivial | assumption | exact ⟨rfl, Nat.le_refl _⟩ | exact ⟨rfl, rfl⟩ | (simp only [inR]; omega) | omega | (simp only [roomP, true_and, and_true, List.length_take, List.length_drop, List.length_append, List.length_cons, List.length_nil, List.length_set, List.length_replicate]; omega) | (refine ⟨by first | exact trivial | rfl, by first | exact Nat.le_refl _ | omega | (simp; omega), ?_⟩; change roomP _ _ 1; simp only [roomP]; omega) | (change roomP _ _ 1; simp only [roomP]; omega) | (simp; omega) | (simp [inR]; omega) | (simp [inR]; done) | decide | (simp; done)) ?_ | refine idx_nat (by omega) (fun x hx => ?_) | refine frz_auto ?_ | refine draw_plain ?_ | refine idx_intro (by first | omega | (simp; omega) | (simp; done)) (by first | omega | (simp; omega) | (simp; done)) (fun x hx => ?_)); conv => whnf)
          refine back_intro (by conv => whnf) rfl ⟨i, j + 1, _, _, two_lst rfl ?_, rfl, hput, by rw [hmmz, Int.zero_add]; exact hI2⟩ ?_
          · simp [List.drop_drop]
            exact List.take_of_length_le (by rw [List.length_drop]; omega)
          · show (List.drop i a).length + (List.take _ (List.drop _ (List.drop j b))).length < (List.drop i a).length + (List.drop j b).length
            simp only [List.length_take, List.length_drop]
            omega
        · have hTe := mg_end ha hb hI (by omega) (by omega)
          subst hTe
          have htasc := hI.asc
          have htlen := mgN_len a b b.length
          generalize hB : mgN a b b.length = B at *
          conv => whnf
          repeat' first
            | ((first | refine idx_kn (by assumption) ?_ | refine idx_ki (by assumption) (by omega) ?_ | refine br_true (by first | with_reducible exact rfl | assumption | decide) ?_ | refine br_false (by first | with_reducible exact rfl | assumption | decide) ?_ | with_reducible first | refine br_kt (by assumption) ?_ | refine br_kf (by assumption) ?_ | refine br_nt (by assumption) ?_ | refine br_nf (by assumption) ?_ | refine br_et (by assumption) ?_ | refine br_ef (by assumption) ?_); conv => whnf)
            | ((with_reducible first | refine br_dec (fun h => ?_) (fun h => ?_) | refine br_ndec (fun h => ?_) (fun h => ?_) | refine br_ne (fun h => ?_) (fun h => ?_) | refine br_eq (fun h => ?_) (fun h => ?_)) <;> first | (exfalso; omega) | conv => whnf)
            | (refine br_intro (fun h => ?_) (fun h => ?_) <;> conv => whnf)
            | ((first | refine need_in (by first | exact trivial | assumption | exact ⟨rfl, Nat.le_refl _⟩ | exact ⟨rfl, rfl⟩ | (simp only [inR]; omega) | omega | (simp only [roomP, true_and, and_true, List.length_take, List.length_drop, List.length_append, List.length_cons, List.length_nil, List.length_set, List.length_replicate]; omega) | (refine ⟨by first | exact trivial | rfl, by first | exact Nat.le_refl _ | omega | (simp; omega), ?_⟩; change roomP _ _ 1; simp only [roomP]; omega) | (change roomP _ _ 1; simp only [roomP]; omega) | (simp; omega) | (simp [inR]; omega) | (simp [inR]; done) | decide | (simp; done)) ?_ | refine idx_nat (by omega) (fun x hx => ?_) | refine frz_auto ?_ | refine draw_plain ?_ | refine idx_intro (by first | omega | (simp; omega) | (simp; done)) (by first | omega | (simp; omega) | (simp; done)) (fun x hx => ?_)); conv => whnf)
          obtain ⟨m, hme⟩ : ∃ m, m = M := ⟨_, rfl⟩
          subst hme
          have htl : m.length = (B).length := mapC_len hm htasc
          have hstp := stp_range m
          refine loop_inv [] [4, 5] (fun vs h => ∃ (g : Nat) (seen : List Nat) (out : List rcT.El) (mx : Int), vs = [.own 4 g out.length, .int .i64 mx] ∧ h = [.arr 52 rcT [] false 0, .oth (.map bm (.int .i64) (.int .i64) m), .cells 60 [.oth 1], .arr 52 rcT [] false 0, .arr 52 rcT out false g, .oth (.iter 1 bm m.length seen)] ∧ OutC m (List.range m.length) seen out mx) (fun _ h => match h with | [_, _, _, _, _, .oth (.iter _ _ _ seen)] => m.length - seen.length | _ => 0) ?_
          conv => whnf
          refine ⟨⟨0, [], [], 0, rfl, rfl, outC_nil m (List.range m.length)⟩, ?_⟩
          rintro vs h' - ⟨g, seen, out, mx, rfl, rfl, ho⟩
          have hsl := outC_le ho
          have hol := ho.ln
          have hbl := hstp.ln
          conv => whnf
          repeat' first
            | ((first | refine idx_kn (by assumption) ?_ | refine idx_ki (by assumption) (by omega) ?_ | refine br_true (by first | with_reducible exact rfl | assumption | decide) ?_ | refine br_false (by first | with_reducible exact rfl | assumption | decide) ?_ | with_reducible first | refine br_kt (by assumption) ?_ | refine br_kf (by assumption) ?_ | refine br_nt (by assumption) ?_ | refine br_nf (by assumption) ?_ | refine br_et (by assumption) ?_ | refine br_ef (by assumption) ?_); conv => whnf)
            | ((with_reducible first | refine br_dec (fun h => ?_) (fun h => ?_) | refine br_ndec (fun h => ?_) (fun h => ?_) | refine br_ne (fun h => ?_) (fun h => ?_) | refine br_eq (fun h => ?_) (fun h => ?_)) <;> first | (exfalso; omega) | conv => whnf)
            | (refine br_intro (fun h => ?_) (fun h => ?_) <;> conv => whnf)
            | ((first | refine need_in (by first | exact trivial | assumption | exact ⟨rfl, Nat.le_refl _⟩ | exact ⟨rfl, rfl⟩ | (simp only [inR]; omega) | omega | (simp only [roomP, true_and, and_true, List.length_take, List.length_drop, List.length_append, List.length_cons, List.length_nil, List.length_set, List.length_replicate]; omega) | (refine ⟨by first | exact trivial | rfl, by first | exact Nat.le_refl _ | omega | (simp; omega), ?_⟩; change roomP _ _ 1; simp only [roomP]; omega) | (change roomP _ _ 1; simp only [roomP]; omega) | (simp; omega) | (simp [inR]; omega) | (simp [inR]; done) | decide | (simp; done)) ?_ | refine idx_nat (by omega) (fun x hx => ?_) | refine frz_auto ?_ | refine draw_plain ?_ | refine idx_intro (by first | omega | (simp; omega) | (simp; done)) (by first | omega | (simp; omega) | (simp; done)) (fun x hx => ?_)); conv => whnf)
          refine .mk (fun i e he hn => ?_) (fun hall0 => ?_)
          · have hbi : (List.range m.length)[i]? = some i := by rw [List.getElem?_range (List.getElem?_eq_some_iff.1 he).1]
            have hst2 := fun x hx mx2 hmx => outC_step (x := x) (mx2 := mx2) hstp hm.nd ho he hbi hn hx hmx
            have hsl2 := outC_le (hst2 (e.1, e.2, ()) rfl _ rfl)
            rw [List.length_cons] at hsl2
            conv => whnf
            repeat' first
              | ((first | refine idx_kn (by assumption) ?_ | refine idx_ki (by assumption) (by omega) ?_ | refine br_true (by first | with_reducible exact rfl | assumption | decide) ?_ | refine br_false (by first | with_reducible exact rfl | assumption | decide) ?_ | with_reducible first | refine br_kt (by assumption) ?_ | refine br_kf (by assumption) ?_ | refine br_nt (by assumption) ?_ | refine br_nf (by assumption) ?_ | refine br_et (by assumption) ?_ | refine br_ef (by assumption) ?_); conv => whnf)
              | ((with_reducible first | refine br_dec (fun h => ?_) (fun h => ?_) | refine br_ndec (fun h => ?_) (fun h => ?_) | refine br_ne (fun h => ?_) (fun h => ?_) | refine br_eq (fun h => ?_) (fun h => ?_)) <;> first | (exfalso; omega) | conv => whnf)
              | (refine br_intro (fun h => ?_) (fun h => ?_) <;> conv => whnf)
              | ((first | refine need_in (by first | exact trivial | assumption | exact ⟨rfl, Nat.le_refl _⟩ | exact ⟨rfl, rfl⟩ | (simp only [inR]; omega) | omega | (simp only [roomP, true_and, and_true, List.length_take, List.length_drop, List.length_append, List.length_cons, List.length_nil, List.length_set, List.length_replicate]; omega) | (refine ⟨by first | exact trivial | rfl, by first | exact Nat.le_refl _ | omega | (simp; omega), ?_⟩; change roomP _ _ 1; simp only [roomP]; omega) | (change roomP _ _ 1; simp only [roomP]; omega) | (simp; omega) | (simp [inR]; omega) | (simp [inR]; done) | decide | (simp; done)) ?_ | refine idx_nat (by omega) (fun x hx => ?_) | refine frz_auto ?_ | refine draw_plain ?_ | refine idx_intro (by first | omega | (simp; omega) | (simp; done)) (by first | omega | (simp; omega) | (simp; done)) (fun x hx => ?_)); conv => whnf)
            refine back_intro (by conv => whnf) rfl ⟨g + 1, i :: seen, out ++ [(e.1, e.2, ())], maxI mx e.2, ?_, heap_tab6 ?_, hst2 _ rfl _ rfl⟩ ?_
            · rw [List.length_append]; rfl
            · simp only [cast_self, List.take_length]; rfl
            · show m.length - (i :: seen).length < m.length - seen.length
              rw [List.length_cons]
              omega
          · have hall : ∀ b ∈ List.range m.length, b ∈ seen := fun b hb => hall0 b (List.mem_range.1 hb)
            have hlen := outC_len hstp hm htasc ho hall
            have hmax := outC_max hstp hm ho hall
            have hneed : g = g ∧ out.length = out.length ∧ Ty.beq rcT rcT = true ∧ out.length < 4611686018427387904 := ⟨rfl, rfl, by decide, by omega⟩
            conv => whnf
            repeat' first
              | ((first | refine idx_kn (by assumption) ?_ | refine idx_ki (by assumption) (by omega) ?_ | refine br_true (by first | with_reducible exact rfl | assumption | decide) ?_ | refine br_false (by first | with_reducible exact rfl | assumption | decide) ?_ | with_reducible first | refine br_kt (by assumption) ?_ | refine br_kf (by assumption) ?_ | refine br_nt (by assumption) ?_ | refine br_nf (by assumption) ?_ | refine br_et (by assumption) ?_ | refine br_ef (by assumption) ?_); conv => whnf)
              | ((with_reducible first | refine br_dec (fun h => ?_) (fun h => ?_) | refine br_ndec (fun h => ?_) (fun h => ?_) | refine br_ne (fun h => ?_) (fun h => ?_) | refine br_eq (fun h => ?_) (fun h => ?_)) <;> first | (exfalso; omega) | conv => whnf)
              | (refine br_intro (fun h => ?_) (fun h => ?_) <;> conv => whnf)
              | ((first | refine need_in (by first | exact trivial | assumption | exact ⟨rfl, Nat.le_refl _⟩ | exact ⟨rfl, rfl⟩ | (simp only [inR]; omega) | omega | (simp only [roomP, true_and, and_true, List.length_take, List.length_drop, List.length_append, List.length_cons, List.length_nil, List.length_set, List.length_replicate]; omega) | (refine ⟨by first | exact trivial | rfl, by first | exact Nat.le_refl _ | omega | (simp; omega), ?_⟩; change roomP _ _ 1; simp only [roomP]; omega) | (change roomP _ _ 1; simp only [roomP]; omega) | (simp; omega) | (simp [inR]; omega) | (simp [inR]; done) | decide | (simp; done)) ?_ | refine idx_nat (by omega) (fun x hx => ?_) | refine frz_auto ?_ | refine draw_plain ?_ | refine idx_intro (by first | omega | (simp; omega) | (simp; done)) (by first | omega | (simp; omega) | (simp; done)) (fun x hx => ?_)); conv => whnf)
            · rw [hc0, tab_3 (by omega)]; rfl
            · rw [hc0, tab_7 (by omega) (hmax.1 (by omega))]; rfl
            · refine .mk (fun _ => True) (fun x y => cmpI (idC x) (idC y)) (fun _ _ => trivial) (fun x y _ _ => ?_) (fun x _ => ?_) (fun x y z _ _ _ h1 h2 => ?_) (fun x y z _ _ _ h1 h2 => ?_) (fun out' hp' hs' => ?_)
              · conv => whnf
                repeat' first
                  | ((first | refine br_true (by first | with_reducible exact rfl | assumption | decide) ?_ | refine br_false (by first | with_reducible exact rfl | assumption | decide) ?_ | with_reducible first | refine br_kt (by assumption) ?_ | refine br_kf (by assumption) ?_ | refine br_nt (by assumption) ?_ | refine br_nf (by assumption) ?_ | refine br_et (by assumption) ?_ | refine br_ef (by assumption) ?_); conv => whnf)
                  | ((with_reducible first | refine br_dec (fun h => ?_) (fun h => ?_) | refine br_ndec (fun h => ?_) (fun h => ?_) | refine br_ne (fun h => ?_) (fun h => ?_) | refine br_eq (fun h => ?_) (fun h => ?_)) <;> first | (exfalso; omega) | conv => whnf)
                  | (refine br_intro (fun h => ?_) (fun h => ?_) <;> conv => whnf)
                  | ((first | refine need_in (by first | exact trivial | assumption | exact ⟨rfl, Nat.le_refl _⟩ | exact ⟨rfl, rfl⟩ | (simp only [inR]; omega) | omega | (simp only [roomP, true_and, and_true, List.length_take, List.length_drop, List.length_append, List.length_cons, List.length_nil, List.length_set, List.length_replicate]; omega) | (refine ⟨by first | exact trivial | rfl, by first | exact Nat.le_refl _ | omega | (simp; omega), ?_⟩; change roomP _ _ 1; simp only [roomP]; omega) | (change roomP _ _ 1; simp only [roomP]; omega) | (simp; omega) | (simp [inR]; omega) | (simp [inR]; done) | decide | (simp; done)) ?_ | refine idx_nat (by omega) (fun x hx => ?_) | refine frz_auto ?_ | refine draw_plain ?_ | refine idx_intro (by first | omega | (simp; omega) | (simp; done)) (by first | omega | (simp; omega) | (simp; done)) (fun x hx => ?_)); conv => whnf)
                all_goals rfl
              · rw [cmpI_lt]; exact Int.lt_irrefl _
              · exact cmpI_lt.2 (Int.lt_trans (cmpI_lt.1 h1) (cmpI_lt.1 h2))
              · intro h
                have h3 := cmpI_lt.1 h
                have g1 : ¬ idC x < idC y := fun e => h1 (cmpI_lt.2 e)
                have g2 : ¬ idC y < idC z := fun e => h2 (cmpI_lt.2 e)
                omega
              · have hout := outC_sort hstp hm htasc ho hall hp' hs'
                subst hout
                conv => whnf
                repeat' first
                  | ((first | refine idx_kn (by assumption) ?_ | refine idx_ki (by assumption) (by omega) ?_ | refine br_true (by first | with_reducible exact rfl | assumption | decide) ?_ | refine br_false (by first | with_reducible exact rfl | assumption | decide) ?_ | with_reducible first | refine br_kt (by assumption) ?_ | refine br_kf (by assumption) ?_ | refine br_nt (by assumption) ?_ | refine br_nf (by assumption) ?_ | refine br_et (by assumption) ?_ | refine br_ef (by assumption) ?_); conv => whnf)
                  | ((with_reducible first | refine br_dec (fun h => ?_) (fun h => ?_) | refine br_ndec (fun h => ?_) (fun h => ?_) | refine br_ne (fun h => ?_) (fun h => ?_) | refine br_eq (fun h => ?_) (fun h => ?_)) <;> first | (exfalso; omega) | conv => whnf)
                  | (refine br_intro (fun h => ?_) (fun h => ?_) <;> conv => whnf)
                  | ((first | refine need_in (by first | exact trivial | assumption | exact ⟨rfl, Nat.le_refl _⟩ | exact ⟨rfl, rfl⟩ | (simp only [inR]; omega) | omega | (simp only [roomP, true_and, and_true, List.length_take, List.length_drop, List.length_append, List.length_cons, List.length_nil, List.length_set, List.length_replicate]; omega) | (refine ⟨by first | exact trivial | rfl, by first | exact Nat.le_refl _ | omega | (simp; omega), ?_⟩; change roomP _ _ 1; simp only [roomP]; omega) | (change roomP _ _ 1; simp only [roomP]; omega) | (simp; omega) | (simp [inR]; omega) | (simp [inR]; done) | decide | (simp; done)) ?_ | refine idx_nat (by omega) (fun x hx => ?_) | refine frz_auto ?_ | refine draw_plain ?_ | refine idx_intro (by first | omega | (simp; omega) | (simp; done)) (by first | omega | (simp; omega) | (simp; done)) (fun x hx => ?_)); conv => whnf)
                rw [hc0, tab_0 (by omega) (fun e => by have := hmax.2 e; omega)]; exact tup_l2 (List.take_of_length_le (Nat.le_of_eq hlen.symm)) rfl
    · have hc : mergeL a b = ([], twoE a b) := if_pos htw
      have htw' : (!twoE a b == 0) = true := by simpa using htw
      conv => whnf
      repeat' first
        | ((first | refine idx_kn (by assumption) ?_ | refine idx_ki (by assumption) (by omega) ?_ | refine br_true (by first | with_reducible exact rfl | assumption | decide) ?_ | refine br_false (by first | with_reducible exact rfl | assumption | decide) ?_ | with_reducible first | refine br_kt (by assumption) ?_ | refine br_kf (by assumption) ?_ | refine br_nt (by assumption) ?_ | refine br_nf (by assumption) ?_ | refine br_et (by assumption) ?_ | refine br_ef (by assumption) ?_); conv => whnf)
        | ((with_reducible first | refine br_dec (fun h => ?_) (fun h => ?_) | refine br_ndec (fun h => ?_) (fun h => ?_) | refine br_ne (fun h => ?_) (fun h => ?_) | refine br_eq (fun h => ?_) (fun h => ?_)) <;> first | (exfalso; omega) | conv => whnf)
        | (refine br_intro (fun h => ?_) (fun h => ?_) <;> conv => whnf)
        | ((first | refine need_in (by first | exact trivial | assumption | exact ⟨rfl, Nat.le_refl _⟩ | exact ⟨rfl, rfl⟩ | (simp only [inR]; omega) | omega | (simp only [roomP, true_and, and_true, List.length_take, List.length_drop, List.length_append, List.length_cons, List.length_nil, List.length_set, List.length_replicate]; omega) | (refine ⟨by first | exact trivial | rfl, by first | exact Nat.le_refl _ | omega | (simp; omega), ?_⟩; change roomP _ _ 1; simp only [roomP]; omega) | (change roomP _ _ 1; simp only [roomP]; omega) | (simp; omega) | (simp [inR]; omega) | (simp [inR]; done) | decide | (simp; done)) ?_ | refine idx_nat (by omega) (fun x hx => ?_) | refine frz_auto ?_ | refine draw_plain ?_ | refine idx_intro (by first | omega | (simp; omega) | (simp; done)) (by first | omega | (simp; omega) | (simp; done)) (fun x hx => ?_)); conv => whnf)
      rw [hc]; rfl
  · cases h
end Go.Proofs.Ytadckioheabliaa
