/-
  Differ and Merge, by the code. (Printed by mk24.py of src24/XRl.src.)
-/
import Derived.Test.YtadckioheabliaaRe
import Derived.Test.YtadckioheabliaaRk
namespace Go.Proofs.Ytadckioheabliaa
open Av

/-! ### The least difference -/
theorem dfF_spec {a b : List rcT.El} : ∀ (l : List Int) (r0 : Int), (∀ n ∈ l, 1 ≤ n) → (r0 = 0 ∨ 1 ≤ r0 ∧ countC a r0 ≠ countC b r0) → ((l.foldl (dfS a b) r0 = 0 ∧ r0 = 0 ∧ ∀ n ∈ l, countC a n = countC b n) ∨ (1 ≤ l.foldl (dfS a b) r0 ∧ countC a (l.foldl (dfS a b) r0) ≠ countC b (l.foldl (dfS a b) r0) ∧ (∀ n ∈ l, countC a n ≠ countC b n → l.foldl (dfS a b) r0 ≤ n) ∧ (r0 ≠ 0 → l.foldl (dfS a b) r0 ≤ r0)))
  | [], r0, _, h => by
    rcases h with h | ⟨h1, h2⟩
    · exact .inl ⟨h, h, by simp⟩
    · exact .inr ⟨h1, h2, by simp, fun _ => Int.le_refl _⟩
  | n :: l, r0, hl, h => by
    have hn := hl n (by simp)
    have hl' : ∀ m ∈ l, 1 ≤ m := fun m hm => hl m (by simp [hm])
    show ((l.foldl (dfS a b) (dfS a b r0 n) = 0 ∧ _) ∨ _)
    by_cases hc : countC a n ≠ countC b n ∧ (r0 = 0 ∨ n < r0)
    · have hs : dfS a b r0 n = n := if_pos hc
      rw [List.foldl_cons, hs]
      rcases dfF_spec l n hl' (.inr ⟨hn, hc.1⟩) with ⟨h1, h2, h3⟩ | ⟨h1, h2, h3, h4⟩
      · omega
      · refine .inr ⟨h1, h2, fun m hm hd => ?_, fun h0 => ?_⟩
        · rcases List.mem_cons.1 hm with rfl | hm
          · exact h4 (by omega)
          · exact h3 m hm hd
        · have := h4 (by omega)
          rcases hc.2 with e | e
          · exact absurd e h0
          · omega
    · have hs : dfS a b r0 n = r0 := if_neg hc
      rw [List.foldl_cons, hs]
      rcases dfF_spec l r0 hl' h with ⟨h1, h2, h3⟩ | ⟨h1, h2, h3, h4⟩
      · refine .inl ⟨h1, h2, fun m hm => ?_⟩
        rcases List.mem_cons.1 hm with rfl | hm
        · exact Classical.byContradiction (fun e => hc ⟨e, .inl h2⟩)
        · exact h3 m hm
      · refine .inr ⟨h1, h2, fun m hm hd => ?_, h4⟩
        rcases List.mem_cons.1 hm with rfl | hm
        · by_cases h0 : r0 = 0
          · exact absurd ⟨hd, .inl h0⟩ hc
          · have h5 := h4 h0
            have h6 : ¬ m < r0 := fun e => hc ⟨hd, .inr e⟩
            omega
        · exact h3 m hm hd
theorem known_one {n : Int} (h : knownI n = true) : 1 ≤ n := by
  unfold knownI at h
  rw [Bool.and_eq_true] at h
  exact of_decide_eq_true h.1
theorem good_one {x : rcT.El} (h : goodX x) : 1 ≤ idC x := known_one h.1
theorem keys_one {a b : List rcT.El} (ha : ∀ x ∈ a, goodX x) (hb : ∀ x ∈ b, goodX x) : ∀ n ∈ keysC a b, 1 ≤ n := by
  intro n hn
  rcases List.mem_append.1 hn with hn | hn
  · obtain ⟨x, hx, rfl⟩ := List.mem_map.1 hn
    exact good_one (ha x hx)
  · obtain ⟨x, hx, rfl⟩ := List.mem_map.1 hn
    exact good_one (hb x hx)
theorem keys_in {a b : List rcT.El} {n : Int} (h : countC a n ≠ countC b n) : n ∈ keysC a b := by
  by_cases h1 : countC a n = 0
  · obtain ⟨x, hx, rfl⟩ := cnt_in (t := b) (n := n) (fun e => h (h1.trans e.symm))
    exact List.mem_append_right _ (List.mem_map.2 ⟨x, hx, rfl⟩)
  · obtain ⟨x, hx, rfl⟩ := cnt_in (t := a) (n := n) h1
    exact List.mem_append_left _ (List.mem_map.2 ⟨x, hx, rfl⟩)
theorem dfL_is {a b : List rcT.El} (ha : ∀ x ∈ a, goodX x) (hb : ∀ x ∈ b, goodX x) {r : Int} (h1 : countC a r ≠ countC b r) (h2 : ∀ n, n < r → countC a n = countC b n) : dfL a b = r ∧ dfL a b ≠ 0 := by
  have hk := keys_one ha hb
  have hr := hk r (keys_in h1)
  rcases dfF_spec (keysC a b) 0 hk (.inl rfl) with ⟨_, _, h3⟩ | ⟨h3, h4, h5, _⟩
  · exact absurd (h3 r (keys_in h1)) h1
  · have h6 := h5 r (keys_in h1) h1
    have h7 : ¬ dfL a b < r := fun e => h4 (h2 _ e)
    have h8 : dfL a b = (keysC a b).foldl (dfS a b) 0 := rfl
    rw [← h8] at h3 h6
    omega
theorem dfL_self {a : List rcT.El} : dfL a a = 0 := by
  have : ∀ (l : List Int), l.foldl (dfS a a) 0 = 0 := by
    intro l
    induction l with
    | nil => rfl
    | cons n l ih =>
      rw [List.foldl_cons, show dfS a a 0 n = 0 from if_neg (fun e => e.1 rfl)]
      exact ih
  exact this _
theorem below_in {a : List rcT.El} (ha : ascC a) {i : Nat} {r : Int} (hr : ∀ y, a[i]? = some y → r ≤ idC y) {z : rcT.El} (hz : z ∈ a) (hlt : idC z < r) : z ∈ a.take i := by
  obtain ⟨k, hk⟩ := List.mem_iff_getElem?.1 hz
  rcases Nat.lt_or_ge k i with h | h
  · exact List.mem_iff_getElem?.2 ⟨k, by rw [List.getElem?_take, if_pos h]; exact hk⟩
  · have hkl := (List.getElem?_eq_some_iff.1 hk).1
    obtain ⟨y, hy⟩ : ∃ y, a[i]? = some y := ⟨_, List.getElem?_eq_getElem (by omega)⟩
    have h1 := hr y hy
    rcases Nat.lt_or_ge i k with h2 | h2
    · have h3 := List.pairwise_iff_getElem.1 ha i k (by omega) hkl h2
      rw [(List.getElem?_eq_some_iff.1 hy).2, (List.getElem?_eq_some_iff.1 hk).2] at h3
      omega
    · have : i = k := by omega
      subst this
      rw [hk] at hy
      cases hy
      omega
theorem cnt_half {a b : List rcT.El} (ha : ascC a) (hb : ascC b) {i : Nat} {n r : Int} (hab : a.take i = b.take i) (hra : ∀ y, a[i]? = some y → r ≤ idC y) (hrb : ∀ y, b[i]? = some y → r ≤ idC y) (hn : n < r) : countC a n = countC b n := by
  rcases cnt_cases a n with ⟨z, hz, rfl⟩ | hno
  · have h1 := below_in ha hra hz hn
    rw [hab] at h1
    rw [cnt_mem ha hz, cnt_mem hb (List.mem_of_mem_take h1)]
  · rw [cnt_none hno]
    refine (cnt_none (fun z hz e => ?_)).symm
    have h1 := below_in hb hrb hz (by omega)
    rw [← hab] at h1
    exact hno z (List.mem_of_mem_take h1) e
theorem at_in {a : List rcT.El} (ha : ascC a) {i : Nat} {r : Int} (hr : ∀ y, a[i]? = some y → r ≤ idC y) {z : rcT.El} (hz : z ∈ a) (he : idC z = r) (hn : z ∉ a.take i) : a[i]? = some z := by
  obtain ⟨k, hk⟩ := List.mem_iff_getElem?.1 hz
  have hki : i ≤ k := by
    rcases Nat.lt_or_ge k i with h | h
    · exact absurd (List.mem_iff_getElem?.2 ⟨k, by rw [List.getElem?_take, if_pos h]; exact hk⟩) hn
    · exact h
  have hkl := (List.getElem?_eq_some_iff.1 hk).1
  rcases Nat.lt_or_ge i k with h2 | h2
  · obtain ⟨y, hy⟩ : ∃ y, a[i]? = some y := ⟨_, List.getElem?_eq_getElem (by omega)⟩
    have h3 := List.pairwise_iff_getElem.1 ha i k (by omega) hkl h2
    rw [(List.getElem?_eq_some_iff.1 hy).2, (List.getElem?_eq_some_iff.1 hk).2] at h3
    have := hr y hy
    omega
  · have : i = k := by omega
    subst this
    exact hk
theorem take_no {a : List rcT.El} (ha : ascC a) {i : Nat} {x : rcT.El} (hx : a[i]? = some x) : ∀ z ∈ a.take i, idC z < idC x := by
  intro z hz
  obtain ⟨j, hj⟩ := List.mem_iff_getElem?.1 hz
  rw [List.getElem?_take] at hj
  split at hj
  · have hil := (List.getElem?_eq_some_iff.1 hx).1
    have h3 := List.pairwise_iff_getElem.1 ha j i (by omega) hil (by assumption)
    rw [(List.getElem?_eq_some_iff.1 hj).2, (List.getElem?_eq_some_iff.1 hx).2] at h3
    exact h3
  · cases hj
/-- Two tables part at a place, the first one's element being the lesser, or the other's missing, or another count. -/
theorem part_a {a b : List rcT.El} (ha : ascC a) (hb : ascC b) (ga : ∀ x ∈ a, goodX x) (gb : ∀ x ∈ b, goodX x) {i : Nat} (hab : a.take i = b.take i) {x : rcT.El} (hx : a[i]? = some x) (hy : ∀ y, b[i]? = some y → idC x ≤ idC y ∧ (idC x = idC y → nC x ≠ nC y)) : dfL a b = idC x ∧ dfL a b ≠ 0 := by
  have hra : ∀ y, a[i]? = some y → idC x ≤ idC y := fun y h => by rw [hx] at h; cases h; exact Int.le_refl _
  have hrb : ∀ y, b[i]? = some y → idC x ≤ idC y := fun y h => (hy y h).1
  refine dfL_is ga gb ?_ (fun n hn => cnt_half ha hb hab hra hrb hn)
  have hxm := List.mem_of_getElem? hx
  have hno := take_no ha hx
  rw [cnt_mem ha hxm]
  intro e
  have h1 := (ga x hxm).2.1
  obtain ⟨z, hz, hze⟩ := cnt_in (t := b) (n := idC x) (by omega)
  have h2 := at_in hb hrb hz hze (fun h => by rw [← hab] at h; have := hno z h; omega)
  have h3 := (hy z h2).2 hze.symm
  rw [← hze, cnt_mem hb hz] at e
  exact h3 e
theorem part_b {a b : List rcT.El} (ha : ascC a) (hb : ascC b) (ga : ∀ x ∈ a, goodX x) (gb : ∀ x ∈ b, goodX x) {i : Nat} (hab : a.take i = b.take i) {y : rcT.El} (hy : b[i]? = some y) (hx : ∀ x, a[i]? = some x → idC y ≤ idC x ∧ (idC y = idC x → nC y ≠ nC x)) : dfL a b = idC y ∧ dfL a b ≠ 0 := by
  have hra : ∀ x, a[i]? = some x → idC y ≤ idC x := fun x h => (hx x h).1
  have hrb : ∀ x, b[i]? = some x → idC y ≤ idC x := fun x h => by rw [hy] at h; cases h; exact Int.le_refl _
  refine dfL_is ga gb ?_ (fun n hn => cnt_half ha hb hab hra hrb hn)
  have hym := List.mem_of_getElem? hy
  have hno := take_no hb hy
  rw [cnt_mem hb hym]
  intro e
  have h1 := (gb y hym).2.1
  obtain ⟨z, hz, hze⟩ := cnt_in (t := a) (n := idC y) (by omega)
  have h2 := at_in ha hra hz hze (fun h => by rw [hab] at h; have := hno z h; omega)
  have h3 := (hx z h2).2 hze.symm
  rw [← hze, cnt_mem ha hz] at e
  exact h3 e.symm
theorem ne_zero {n : Int} (q : Int) (h : 1 ≤ n) : (!eqT rcT ((n, q, ()) : rcT.El) ((0, 0, ()) : rcT.El)) = true := by
  have : eqT rcT ((n, q, ()) : rcT.El) ((0, 0, ()) : rcT.El) = false := by
    rw [Bool.eq_false_iff]
    intro e
    have := eqC_iff.1 e
    have h2 : n = 0 := congrArg Prod.fst this
    omega
  rw [this]; rfl
theorem ne_zero2 {n : Int} (q : Int) (h : 1 ≤ n) : (!eqT rcT ((0, 0, ()) : rcT.El) ((n, q, ()) : rcT.El)) = true := by
  have : eqT rcT ((0, 0, ()) : rcT.El) ((n, q, ()) : rcT.El) = false := by
    rw [Bool.eq_false_iff]
    intro e
    have := eqC_iff.1 e
    have h2 : 0 = n := congrArg Prod.fst this
    omega
  rw [this]; rfl
theorem ne_count (n : Int) {q r : Int} (h : ¬ q = r) : (!eqT rcT ((n, q, ()) : rcT.El) ((n, r, ()) : rcT.El)) = true := by
  have : eqT rcT ((n, q, ()) : rcT.El) ((n, r, ()) : rcT.El) = false := by
    rw [Bool.eq_false_iff]
    intro e
    have := eqC_iff.1 e
    have h2 : q = r := congrArg (fun x : rcT.El => x.2.1) this
    exact h h2
  rw [this]; rfl
theorem eq_self (n q : Int) : (!eqT rcT ((n, q, ()) : rcT.El) ((n, q, ()) : rcT.El)) = false := by
  rw [eqC_iff.2 rfl]; rfl
theorem max_zero {n : Int} (h : 1 ≤ n) : (if n < 0 then (0 : Int) else n) = n := if_neg (by omega)
theorem max_zero2 {n : Int} (h : 1 ≤ n) : (if 0 < n then n else (0 : Int)) = n := if_pos (by omega)
theorem max_self (n : Int) : (if n < n then n else n) = n := by split <;> rfl
theorem tup_ii {a b c d : Int} (h : a = c) (h2 : b = d) : AV.tup [AV.int .i64 a, .int .i64 b] = AV.tup [AV.int .i64 c, .int .i64 d] := by rw [h, h2]
theorem two_lst {t : Ty} {a b c d : List t.El} (h : a = c) (h2 : b = d) : [AV.lst t a, AV.lst t b] = [AV.lst t c, AV.lst t d] := by rw [h, h2]
set_option maxRecDepth 100000 in
theorem fnOk_rfDf : FnOk Try.prog 29 Try.f29 := ⟨by rfl, by kernel_rfl, by
  show okCode _ _ = true ∧ drawsOk _ = true
  exact ⟨by kernel_rfl, by kernel_rfl⟩⟩
set_option maxRecDepth 100000 in
theorem fnOk_rfDf1 : FnOk Try.prog 50 Try.f50 := ⟨by rfl, by kernel_rfl, by
  show okCode _ _ = true ∧ drawsOk _ = true
  exact ⟨by kernel_rfl, by kernel_rfl⟩⟩
set_option maxRecDepth 100000 in
theorem fnOk_rfBoth : FnOk Try.prog 48 Try.f48 := ⟨by rfl, by kernel_rfl, by
  show okCode _ _ = true ∧ drawsOk _ = true
  exact ⟨by kernel_rfl, by kernel_rfl⟩⟩
set_option maxRecDepth 100000 in
theorem fnOk_rfIdOf : FnOk Try.prog 49 Try.f49 := ⟨by rfl, by kernel_rfl, by
  show okCode _ _ = true ∧ drawsOk _ = true
  exact ⟨by kernel_rfl, by kernel_rfl⟩⟩
def spIdOf : DSpec
  | [.agg [.int .i64 a, .int .i64 m]] => some (True, .int .i64 a)
  | _ => none
set_option maxRecDepth 100000 in
theorem rfIdOf_ok : SpecOk Try.prog 49 spIdOf := by
  refine spec_body (C := cx0) mixed tbOk SpecsOk.nil (callN_ok (C := cx0) mixed tbOk SpecsOk.nil FnsOk.nil 0) fnOk_rfIdOf ?_
  intro ys p r h hp
  unfold spIdOf at h
  split at h
  · cases h
    conv => whnf
    repeat' first
      | ((first | refine idx_kn (by assumption) ?_ | refine idx_ki (by assumption) (by omega) ?_ | refine br_true (by first | with_reducible exact rfl | assumption | decide) ?_ | refine br_false (by first | with_reducible exact rfl | assumption | decide) ?_ | with_reducible first | refine br_kt (by assumption) ?_ | refine br_kf (by assumption) ?_ | refine br_nt (by assumption) ?_ | refine br_nf (by assumption) ?_ | refine br_et (by assumption) ?_ | refine br_ef (by assumption) ?_); conv => whnf)
      | ((with_reducible first | refine br_dec (fun h => ?_) (fun h => ?_) | refine br_ndec (fun h => ?_) (fun h => ?_) | refine br_ne (fun h => ?_) (fun h => ?_) | refine br_eq (fun h => ?_) (fun h => ?_)) <;> first | (exfalso; omega) | conv => whnf)
      | (refine br_intro (fun h => ?_) (fun h => ?_) <;> conv => whnf)
      | ((first | refine need_in (by first | exact trivial | assumption | exact ⟨rfl, Nat.le_refl _⟩ | exact ⟨rfl, rfl⟩ | (simp only [inR]; omega) | omega | (simp only [roomP, true_and, and_true, List.length_take, List.length_drop, List.length_append, List.length_cons, List.length_nil, List.length_set, List.length_replicate]; omega) | (refine ⟨by first | exact trivial | rfl, by first | exact Nat.le_refl _ | omega | (simp; omega), ?_⟩; change roomP _ _ 1; simp only [roomP]; omega) | (change roomP _ _ 1; simp only [roomP]; omega) | (simp; omega) | (simp [inR]; omega) | (simp [inR]; done) | decide | (simp; done)) ?_ | refine idx_nat (by omega) (fun x hx => ?_) | refine frz_auto ?_ | refine draw_plain ?_ | refine idx_intro (by first | omega | (simp; omega) | (simp; done)) (by first | omega | (simp; omega) | (simp; done)) (fun x hx => ?_)); conv => whnf)
  · cases h
noncomputable def cr15 : Cx := ⟨tb, [(48, Try.f48), (50, Try.f50)], [(49, spIdOf), (47, spTwo)]⟩
theorem spr15 : SpecsOk Try.prog cr15.specs := .cons rfIdOf_ok (.cons rfCkd_ok .nil)
theorem fnr15 : FnsOk Try.prog cr15.fns := .cons fnOk_rfBoth (.cons fnOk_rfDf1 .nil)
set_option maxRecDepth 100000 in
set_option maxHeartbeats 4000000 in
theorem rfDf_ok : SpecOk Try.prog 29 spDf := by
  refine spec_body (C := cr15) mixed tbOk spr15 (callN_ok (C := cr15) mixed tbOk spr15 fnr15 4) fnOk_rfDf ?_
  intro ys p r h hp
  unfold spDf at h
  split at h
  · rename_i a b
    cases h
    by_cases htw : twoE a b = 0
    · have htw' : (!twoE a b == 0) = false := by rw [htw]; rfl
      obtain ⟨hca, hcb⟩ := two_zero htw
      obtain ⟨hla, hga, hasa⟩ := ckL_zero hca
      obtain ⟨hlb, hgb, hasb⟩ := ckL_zero hcb
      have hd0 : difR a b = if dfL a b = 0 then (0, 4) else (dfL a b, 0) := if_neg (fun e => e htw)
      conv => whnf
      repeat' first
        | ((first | refine idx_kn (by assumption) ?_ | refine idx_ki (by assumption) (by omega) ?_ | refine br_true (by first | with_reducible exact rfl | assumption | decide) ?_ | refine br_false (by first | with_reducible exact rfl | assumption | decide) ?_ | with_reducible first | refine br_kt (by assumption) ?_ | refine br_kf (by assumption) ?_ | refine br_nt (by assumption) ?_ | refine br_nf (by assumption) ?_ | refine br_et (by assumption) ?_ | refine br_ef (by assumption) ?_); conv => whnf)
        | ((with_reducible first | refine br_dec (fun h => ?_) (fun h => ?_) | refine br_ndec (fun h => ?_) (fun h => ?_) | refine br_ne (fun h => ?_) (fun h => ?_) | refine br_eq (fun h => ?_) (fun h => ?_)) <;> first | (exfalso; omega) | conv => whnf)
        | (refine br_intro (fun h => ?_) (fun h => ?_) <;> conv => whnf)
        | ((first | refine need_in (by first | exact trivial | assumption | exact ⟨rfl, Nat.le_refl _⟩ | exact ⟨rfl, rfl⟩ | (simp only [inR]; omega) | omega | (simp only [roomP, true_and, and_true, List.length_take, List.length_drop, List.length_append, List.length_cons, List.length_nil, List.length_set, List.length_replicate]; omega) | (refine ⟨by first | exact trivial | rfl, by first | exact Nat.le_refl _ | omega | (simp; omega), ?_⟩; change roomP _ _ 1; simp only [roomP]; omega) | (change roomP _ _ 1; simp only [roomP]; omega) | (simp; omega) | (simp [inR]; omega) | (simp [inR]; done) | decide | (simp; done)) ?_ | refine idx_nat (by omega) (fun x hx => ?_) | refine frz_auto ?_ | refine draw_plain ?_ | refine idx_intro (by first | omega | (simp; omega) | (simp; done)) (by first | omega | (simp; omega) | (simp; done)) (fun x hx => ?_)); conv => whnf)
      refine loop_inv [] [0, 1] (fun vs h => ∃ i : Nat, vs = [.lst rcT (a.drop i), .lst rcT (b.drop i)] ∧ h = [.cells 3 [.int .i64 0], .cells 25 [.int .i64 4]] ∧ a.take i = b.take i) (fun vs _ => match vs with | [.lst _ l, .lst _ m] => l.length + m.length | _ => 0) ?_
      conv => whnf
      refine ⟨⟨0, rfl, rfl, rfl⟩, ?_⟩
      rintro vs h' - ⟨i, rfl, rfl, hab⟩
      have hda := List.length_drop (i := i) (l := a)
      have hdb := List.length_drop (i := i) (l := b)
      have hpa := fun (x : rcT.El) hx hy => part_a (x := x) hasa hasb hga hgb hab hx hy
      have hpb := fun (y : rcT.El) hx hy => part_b (y := y) hasa hasb hga hgb hab hx hy
      have hdd : ∀ v : Int, dfL a b = v ∧ dfL a b ≠ 0 → difR a b = (v, 0) := fun v h => by rw [hd0, if_neg h.2, h.1]
      by_cases hia : i < a.length
      · obtain ⟨⟨n, q, ⟨⟩⟩, hx⟩ : ∃ x, a[i]? = some x := ⟨_, List.getElem?_eq_getElem hia⟩
        have hx0 : (a.drop i)[0]? = some (n, q, ()) := by rw [List.getElem?_drop]; exact hx
        have hn1 : (1 : Int) ≤ n := good_one (hga _ (List.mem_of_getElem? hx))
        have hnz := ne_zero q hn1
        have hmz := max_zero hn1
        by_cases hib : i < b.length
        · obtain ⟨⟨m, r, ⟨⟩⟩, hy⟩ : ∃ x, b[i]? = some x := ⟨_, List.getElem?_eq_getElem hib⟩
          have hy0 : (b.drop i)[0]? = some (m, r, ()) := by rw [List.getElem?_drop]; exact hy
          have hm1 : (1 : Int) ≤ m := good_one (hgb _ (List.mem_of_getElem? hy))
          have hmnz := ne_zero2 r hm1
          have hmmz := max_zero2 hm1
          rcases Int.lt_trichotomy n m with hlt | heq | hgt
          · have h1 : n ≤ m := Int.le_of_lt hlt
            have h2 : ¬ m ≤ n := Int.not_le.2 hlt
            have hD := hdd n (hpa (n, q, ()) hx (fun y h => by rw [hy] at h; cases h; exact ⟨h1, fun e => absurd e (Int.ne_of_lt hlt)⟩))
            conv => whnf
            repeat' first
              | ((first | refine idx_kn (by assumption) ?_ | refine idx_ki (by assumption) (by omega) ?_ | refine br_true (by first | with_reducible exact rfl | assumption | decide) ?_ | refine br_false (by first | with_reducible exact rfl | assumption | decide) ?_ | with_reducible first | refine br_kt (by assumption) ?_ | refine br_kf (by assumption) ?_ | refine br_nt (by assumption) ?_ | refine br_nf (by assumption) ?_ | refine br_et (by assumption) ?_ | refine br_ef (by assumption) ?_); conv => whnf)
              | ((with_reducible first | refine br_dec (fun h => ?_) (fun h => ?_) | refine br_ndec (fun h => ?_) (fun h => ?_) | refine br_ne (fun h => ?_) (fun h => ?_) | refine br_eq (fun h => ?_) (fun h => ?_)) <;> first | (exfalso; omega) | conv => whnf)
              | (refine br_intro (fun h => ?_) (fun h => ?_) <;> conv => whnf)
              | ((first | refine need_in (by first | exact trivial | assumption | exact ⟨rfl, Nat.le_refl _⟩ | exact ⟨rfl, rfl⟩ | (simp only [inR]; omega) | omega | (simp only [roomP, true_and, and_true, List.length_take, List.length_drop, List.length_append, List.length_cons, List.length_nil, List.length_set, List.length_replicate]; omega) | (refine ⟨by first | exact trivial | rfl, by first | exact Nat.le_refl _ | omega | (simp; omega), ?_⟩; change roomP _ _ 1; simp only [roomP]; omega) | (change roomP _ _ 1; simp only [roomP]; omega) | (simp; omega) | (simp [inR]; omega) | (simp [inR]; done) | decide | (simp; done)) ?_ | refine idx_nat (by omega) (fun x hx => ?_) | refine frz_auto ?_ | refine draw_plain ?_ | refine idx_intro (by first | omega | (simp; omega) | (simp; done)) (by first | omega | (simp; omega) | (simp; done)) (fun x hx => ?_)); conv => whnf)
            exact tup_ii (hmz.trans (by rw [hD])) (by rw [hD])
          · subst heq
            have h1 : n ≤ n := Int.le_refl n
            by_cases hqr : q = r
            · subst hqr
              have heq2 := eq_self n q
              have hab2 : a.take (i + 1) = b.take (i + 1) := by rw [List.take_add_one, List.take_add_one, hx, hy, hab]
              conv => whnf
              repeat' first
                | ((first | refine idx_kn (by assumption) ?_ | refine idx_ki (by assumption) (by omega) ?_ | refine br_true (by first | with_reducible exact rfl | assumption | decide) ?_ | refine br_false (by first | with_reducible exact rfl | assumption | decide) ?_ | with_reducible first | refine br_kt (by assumption) ?_ | refine br_kf (by assumption) ?_ | refine br_nt (by assumption) ?_ | refine br_nf (by assumption) ?_ | refine br_et (by assumption) ?_ | refine br_ef (by assumption) ?_); conv => whnf)
                | ((with_reducible first | refine br_dec (fun h => ?_) (fun h => ?_) | refine br_ndec (fun h => ?_) (fun h => ?_) | refine br_ne (fun h => ?_) (fun h => ?_) | refine br_eq (fun h => ?_) (fun h => ?_)) <;> first | (exfalso; omega) | conv => whnf)
                | (refine br_intro (fun h => ?_) (fun h => ?_) <;> conv => whnf)
                | ((first | refine need_in (by first | exact trivial | assumption | exact ⟨rfl, Nat.le_refl _⟩ | exact ⟨rfl, rfl⟩ | (simp only [inR]; omega) | omega | (simp only [roomP, true_and, and_true, List.length_take, List.length_drop, List.length_append, List.length_cons, List.length_nil, List.length_set, List.length_replicate]; omega) | (refine ⟨by first | exact trivial | rfl, by first | exact Nat.le_refl _ | omega | (simp; omega), ?_⟩; change roomP _ _ 1; simp only [roomP]; omega) | (change roomP _ _ 1; simp only [roomP]; omega) | (simp; omega) | (simp [inR]; omega) | (simp [inR]; done) | decide | (simp; done)) ?_ | refine idx_nat (by omega) (fun x hx => ?_) | refine frz_auto ?_ | refine draw_plain ?_ | refine idx_intro (by first | omega | (simp; omega) | (simp; done)) (by first | omega | (simp; omega) | (simp; done)) (fun x hx => ?_)); conv => whnf)
              refine back_intro (by conv => whnf) rfl ⟨i + 1, two_lst ?_ ?_, rfl, hab2⟩ ?_
              · simp [List.drop_drop]
                exact List.take_of_length_le (by rw [List.length_drop]; omega)
              · simp [List.drop_drop]
                exact List.take_of_length_le (by rw [List.length_drop]; omega)
              · show (List.take _ (List.drop _ (List.drop i a))).length + (List.take _ (List.drop _ (List.drop i b))).length < (List.drop i a).length + (List.drop i b).length
                simp only [List.length_take, List.length_drop]
                omega
            · have hne2 := ne_count n hqr
              have hmm := max_self n
              have hD := hdd n (hpa (n, q, ()) hx (fun y h => by rw [hy] at h; cases h; exact ⟨h1, fun _ => hqr⟩))
              conv => whnf
              repeat' first
                | ((first | refine idx_kn (by assumption) ?_ | refine idx_ki (by assumption) (by omega) ?_ | refine br_true (by first | with_reducible exact rfl | assumption | decide) ?_ | refine br_false (by first | with_reducible exact rfl | assumption | decide) ?_ | with_reducible first | refine br_kt (by assumption) ?_ | refine br_kf (by assumption) ?_ | refine br_nt (by assumption) ?_ | refine br_nf (by assumption) ?_ | refine br_et (by assumption) ?_ | refine br_ef (by assumption) ?_); conv => whnf)
                | ((with_reducible first | refine br_dec (fun h => ?_) (fun h => ?_) | refine br_ndec (fun h => ?_) (fun h => ?_) | refine br_ne (fun h => ?_) (fun h => ?_) | refine br_eq (fun h => ?_) (fun h => ?_)) <;> first | (exfalso; omega) | conv => whnf)
                | (refine br_intro (fun h => ?_) (fun h => ?_) <;> conv => whnf)
                | ((first | refine need_in (by first | exact trivial | assumption | exact ⟨rfl, Nat.le_refl _⟩ | exact ⟨rfl, rfl⟩ | (simp only [inR]; omega) | omega | (simp only [roomP, true_and, and_true, List.length_take, List.length_drop, List.length_append, List.length_cons, List.length_nil, List.length_set, List.length_replicate]; omega) | (refine ⟨by first | exact trivial | rfl, by first | exact Nat.le_refl _ | omega | (simp; omega), ?_⟩; change roomP _ _ 1; simp only [roomP]; omega) | (change roomP _ _ 1; simp only [roomP]; omega) | (simp; omega) | (simp [inR]; omega) | (simp [inR]; done) | decide | (simp; done)) ?_ | refine idx_nat (by omega) (fun x hx => ?_) | refine frz_auto ?_ | refine draw_plain ?_ | refine idx_intro (by first | omega | (simp; omega) | (simp; done)) (by first | omega | (simp; omega) | (simp; done)) (fun x hx => ?_)); conv => whnf)
              exact tup_ii (hmm.trans (by rw [hD])) (by rw [hD])
          · have h1 : m ≤ n := Int.le_of_lt hgt
            have h2 : ¬ n ≤ m := Int.not_le.2 hgt
            have hD := hdd m (hpb (m, r, ()) hy (fun y h => by rw [hx] at h; cases h; exact ⟨h1, fun e => absurd e (Int.ne_of_lt hgt)⟩))
            conv => whnf
            repeat' first
              | ((first | refine idx_kn (by assumption) ?_ | refine idx_ki (by assumption) (by omega) ?_ | refine br_true (by first | with_reducible exact rfl | assumption | decide) ?_ | refine br_false (by first | with_reducible exact rfl | assumption | decide) ?_ | with_reducible first | refine br_kt (by assumption) ?_ | refine br_kf (by assumption) ?_ | refine br_nt (by assumption) ?_ | refine br_nf (by assumption) ?_ | refine br_et (by assumption) ?_ | refine br_ef (by assumption) ?_); conv => whnf)
              | ((with_reducible first | refine br_dec (fun h => ?_) (fun h => ?_) | refine br_ndec (fun h => ?_) (fun h => ?_) | refine br_ne (fun h => ?_) (fun h => ?_) | refine br_eq (fun h => ?_) (fun h => ?_)) <;> first | (exfalso; omega) | conv => whnf)
              | (refine br_intro (fun h => ?_) (fun h => ?_) <;> conv => whnf)
              | ((first | refine need_in (by first | exact trivial | assumption | exact ⟨rfl, Nat.le_refl _⟩ | exact ⟨rfl, rfl⟩ | (simp only [inR]; omega) | omega | (simp only [roomP, true_and, and_true, List.length_take, List.length_drop, List.length_append, List.length_cons, List.length_nil, List.length_set, List.length_replicate]; omega) | (refine ⟨by first | exact trivial | rfl, by first | exact Nat.le_refl _ | omega | (simp; omega), ?_⟩; change roomP _ _ 1; simp only [roomP]; omega) | (change roomP _ _ 1; simp only [roomP]; omega) | (simp; omega) | (simp [inR]; omega) | (simp [inR]; done) | decide | (simp; done)) ?_ | refine idx_nat (by omega) (fun x hx => ?_) | refine frz_auto ?_ | refine draw_plain ?_ | refine idx_intro (by first | omega | (simp; omega) | (simp; done)) (by first | omega | (simp; omega) | (simp; done)) (fun x hx => ?_)); conv => whnf)
            exact tup_ii (hmmz.trans (by rw [hD])) (by rw [hD])
        · have hy : b[i]? = none := List.getElem?_eq_none (by omega)
          have hD := hdd n (hpa (n, q, ()) hx (fun y h => by rw [hy] at h; cases h))
          conv => whnf
          repeat' first
            | ((first | refine idx_kn (by assumption) ?_ | refine idx_ki (by assumption) (by omega) ?_ | refine br_true (by first | with_reducible exact rfl | assumption | decide) ?_ | refine br_false (by first | with_reducible exact rfl | assumption | decide) ?_ | with_reducible first | refine br_kt (by assumption) ?_ | refine br_kf (by assumption) ?_ | refine br_nt (by assumption) ?_ | refine br_nf (by assumption) ?_ | refine br_et (by assumption) ?_ | refine br_ef (by assumption) ?_); conv => whnf)
            | ((with_reducible first | refine br_dec (fun h => ?_) (fun h => ?_) | refine br_ndec (fun h => ?_) (fun h => ?_) | refine br_ne (fun h => ?_) (fun h => ?_) | refine br_eq (fun h => ?_) (fun h => ?_)) <;> first | (exfalso; omega) | conv => whnf)
            | (refine br_intro (fun h => ?_) (fun h => ?_) <;> conv => whnf)
            | ((first | refine need_in (by first | exact trivial | assumption | exact ⟨rfl, Nat.le_refl _⟩ | exact ⟨rfl, rfl⟩ | (simp only [inR]; omega) | omega | (simp only [roomP, true_and, and_true, List.length_take, List.length_drop, List.length_append, List.length_cons, List.length_nil, List.length_set, List.length_replicate]; omega) | (refine ⟨by first | exact trivial | rfl, by first | exact Nat.le_refl _ | omega | (simp; omega), ?_⟩; change roomP _ _ 1; simp only [roomP]; omega) | (change roomP _ _ 1; simp only [roomP]; omega) | (simp; omega) | (simp [inR]; omega) | (simp [inR]; done) | decide | (simp; done)) ?_ | refine idx_nat (by omega) (fun x hx => ?_) | refine frz_auto ?_ | refine draw_plain ?_ | refine idx_intro (by first | omega | (simp; omega) | (simp; done)) (by first | omega | (simp; omega) | (simp; done)) (fun x hx => ?_)); conv => whnf)
          exact tup_ii (hmz.trans (by rw [hD])) (by rw [hD])
      · have hx : a[i]? = none := List.getElem?_eq_none (by omega)
        by_cases hib : i < b.length
        · obtain ⟨⟨m, r, ⟨⟩⟩, hy⟩ : ∃ x, b[i]? = some x := ⟨_, List.getElem?_eq_getElem hib⟩
          have hy0 : (b.drop i)[0]? = some (m, r, ()) := by rw [List.getElem?_drop]; exact hy
          have hm1 : (1 : Int) ≤ m := good_one (hgb _ (List.mem_of_getElem? hy))
          have hmnz := ne_zero2 r hm1
          have hmmz := max_zero2 hm1
          have hD := hdd m (hpb (m, r, ()) hy (fun y h => by rw [hx] at h; cases h))
          conv => whnf
          repeat' first
            | ((first | refine idx_kn (by assumption) ?_ | refine idx_ki (by assumption) (by omega) ?_ | refine br_true (by first | with_reducible exact rfl | assumption | decide) ?_ | refine br_false (by first | with_reducible exact rfl | assumption | decide) ?_ | with_reducible first | refine br_kt (by assumption) ?_ | refine br_kf (by assumption) ?_ | refine br_nt (by assumption) ?_ | refine br_nf (by assumption) ?_ | refine br_et (by assumption) ?_ | refine br_ef (by assumption) ?_); conv => whnf)
            | ((with_reducible first | refine br_dec (fun h => ?_) (fun h => ?_) | refine br_ndec (fun h => ?_) (fun h => ?_) | refine br_ne (fun h => ?_) (fun h => ?_) | refine br_eq (fun h => ?_) (fun h => ?_)) <;> first | (exfalso; omega) | conv => whnf)
            | (refine br_intro (fun h => ?_) (fun h => ?_) <;> conv => whnf)
            | ((first | refine need_in (by first | exact trivial | assumption | exact ⟨rfl, Nat.le_refl _⟩ | exact ⟨rfl, rfl⟩ | (simp only [inR]; omega) | omega | (simp only [roomP, true_and, and_true, List.length_take, List.length_drop, List.length_append, List.length_cons, List.length_nil, List.length_set, List.length_replicate]; omega) | (refine ⟨by first | exact trivial | rfl, by first | exact Nat.le_refl _ | omega | (simp; omega), ?_⟩; change roomP _ _ 1; simp only [roomP]; omega) | (change roomP _ _ 1; simp only [roomP]; omega) | (simp; omega) | (simp [inR]; omega) | (simp [inR]; done) | decide | (simp; done)) ?_ | refine idx_nat (by omega) (fun x hx => ?_) | refine frz_auto ?_ | refine draw_plain ?_ | refine idx_intro (by first | omega | (simp; omega) | (simp; done)) (by first | omega | (simp; omega) | (simp; done)) (fun x hx => ?_)); conv => whnf)
          exact tup_ii (hmmz.trans (by rw [hD])) (by rw [hD])
        · have he : a = b := by rw [List.take_of_length_le (by omega), List.take_of_length_le (by omega)] at hab; exact hab
          subst he
          have hD : difR a a = (0, 4) := by rw [hd0, if_pos dfL_self]
          conv => whnf
          repeat' first
            | ((first | refine idx_kn (by assumption) ?_ | refine idx_ki (by assumption) (by omega) ?_ | refine br_true (by first | with_reducible exact rfl | assumption | decide) ?_ | refine br_false (by first | with_reducible exact rfl | assumption | decide) ?_ | with_reducible first | refine br_kt (by assumption) ?_ | refine br_kf (by assumption) ?_ | refine br_nt (by assumption) ?_ | refine br_nf (by assumption) ?_ | refine br_et (by assumption) ?_ | refine br_ef (by assumption) ?_); conv => whnf)
            | ((with_reducible first | refine br_dec (fun h => ?_) (fun h => ?_) | refine br_ndec (fun h => ?_) (fun h => ?_) | refine br_ne (fun h => ?_) (fun h => ?_) | refine br_eq (fun h => ?_) (fun h => ?_)) <;> first | (exfalso; omega) | conv => whnf)
            | (refine br_intro (fun h => ?_) (fun h => ?_) <;> conv => whnf)
            | ((first | refine need_in (by first | exact trivial | assumption | exact ⟨rfl, Nat.le_refl _⟩ | exact ⟨rfl, rfl⟩ | (simp only [inR]; omega) | omega | (simp only [roomP, true_and, and_true, List.length_take, List.length_drop, List.length_append, List.length_cons, List.length_nil, List.length_set, List.length_replicate]; omega) | (refine ⟨by first | exact trivial | rfl, by first | exact Nat.le_refl _ | omega | (simp; omega), ?_⟩; change roomP _ _ 1; simp only [roomP]; omega) | (change roomP _ _ 1; simp only [roomP]; omega) | (simp; omega) | (simp [inR]; omega) | (simp [inR]; done) | decide | (simp; done)) ?_ | refine idx_nat (by omega) (fun x hx => ?_) | refine frz_auto ?_ | refine draw_plain ?_ | refine idx_intro (by first | omega | (simp; omega) | (simp; done)) (by first | omega | (simp; omega) | (simp; done)) (fun x hx => ?_)); conv => whnf)
          rw [hD]
    · have hc : difR a b = (0, twoE a b) := if_pos htw
      have htw' : (!twoE a b == 0) = true := by simpa using htw
      conv => whnf
      repeat' first
        | ((first | refine idx_kn (by assumption) ?_ | refine idx_ki (by assumption) (by omega) ?_ | refine br_true (by first | with_reducible exact rfl | assumption | decide) ?_ | refine br_false (by first | with_reducible exact rfl | assumption | decide) ?_ | with_reducible first | refine br_kt (by assumption) ?_ | refine br_kf (by assumption) ?_ | refine br_nt (by assumption) ?_ | refine br_nf (by assumption) ?_ | refine br_et (by assumption) ?_ | refine br_ef (by assumption) ?_); conv => whnf)
        | ((with_reducible first | refine br_dec (fun h => ?_) (fun h => ?_) | refine br_ndec (fun h => ?_) (fun h => ?_) | refine br_ne (fun h => ?_) (fun h => ?_) | refine br_eq (fun h => ?_) (fun h => ?_)) <;> first | (exfalso; omega) | conv => whnf)
        | (refine br_intro (fun h => ?_) (fun h => ?_) <;> conv => whnf)
        | ((first | refine need_in (by first | exact trivial | assumption | exact ⟨rfl, Nat.le_refl _⟩ | exact ⟨rfl, rfl⟩ | (simp only [inR]; omega) | omega | (simp only [roomP, true_and, and_true, List.length_take, List.length_drop, List.length_append, List.length_cons, List.length_nil, List.length_set, List.length_replicate]; omega) | (refine ⟨by first | exact trivial | rfl, by first | exact Nat.le_refl _ | omega | (simp; omega), ?_⟩; change roomP _ _ 1; simp only [roomP]; omega) | (change roomP _ _ 1; simp only [roomP]; omega) | (simp; omega) | (simp [inR]; omega) | (simp [inR]; done) | decide | (simp; done)) ?_ | refine idx_nat (by omega) (fun x hx => ?_) | refine frz_auto ?_ | refine draw_plain ?_ | refine idx_intro (by first | omega | (simp; omega) | (simp; done)) (by first | omega | (simp; omega) | (simp; done)) (fun x hx => ?_)); conv => whnf)
      rw [hc]
  · cases h
end Go.Proofs.Ytadckioheabliaa
