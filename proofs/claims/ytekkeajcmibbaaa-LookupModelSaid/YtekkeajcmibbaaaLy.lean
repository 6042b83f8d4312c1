/-
  The value of a key, and the map: plain Lean.
  A view with one entry put over its buffer: plain Lean.
-/
import Derived.Test.YtekkeajcmibbaaaLs
import Derived.Test.YtekkeajcmibbaaaLk
import Derived.Test.YtekkeajcmibbaaaPc
namespace Go.Proofs.Ytekkeajcmibbaaa
open Av Bk

theorem nwG_first (k : ByteArray) : ∀ (L : List (List entT.El)) (i : Int), (nwG L i k).map (·.1) = firstK L.flatten k
  | [], _ => rfl
  | l :: L, i => by
    rw [nwG, List.flatten_cons, firstK_append]
    cases firstK l k with
    | some x => rfl
    | none => exact nwG_first k L (i + 1)
theorem getR_o {b : List entT.El} {rs : List runT.El} {k : ByteArray} (h : askE b rs k = 0) : getR b rs k = match getM (allE b rs) k with | some v => (v, 0) | none => (⟨#[]⟩, 4) := by
  have h1 := nwG_first k (partsB b rs) (-1)
  have h2 : nwR b rs k = match nwG (partsB b rs) (-1) k with
    | some (x, i) => (x, i, 0)
    | none => (mkE ⟨#[]⟩ ⟨#[]⟩ false 0, 0, 4) := by
    unfold nwR
    rw [if_neg (by simp [h])]
    cases nwG (partsB b rs) (-1) k <;> rfl
  unfold getM getR
  rw [show firstK (allE b rs) k = (nwG (partsB b rs) (-1) k).map (·.1) from h1.symm, h2]
  cases nwG (partsB b rs) (-1) k with
  | none => rfl
  | some r =>
    obtain ⟨x, i⟩ := r
    simp only [Option.map_some, valE]
    by_cases hd : x.2.2.1 = true
    · simp [hd]
    · simp [hd]
theorem getR_last {b : List entT.El} {rs : List runT.El} {k : ByteArray} (h : askE b rs k = 0) : getR b rs k = ((pO (lastQ (fun p => sEq p.1 k) (mapL (allE b rs)))).2.1, eO (lastQ (fun p => sEq p.1 k) (mapL (allE b rs)))) := by
  rw [getR_o h]
  cases hl : lastQ (fun p => sEq p.1 k) (mapL (allE b rs)) with
  | some p =>
    obtain ⟨h1, h2⟩ := lastQ_some _ _ hl
    have h3 := (mapL_mem _ p).1 h1
    rw [sEq_iff.1 h2] at h3
    rw [h3]
    rfl
  | none =>
    cases hg : getM (allE b rs) k with
    | none => rfl
    | some v =>
      have := lastQ_none _ hl (mkP k v) ((mapL_mem _ _).2 hg)
      rw [show sEq (mkP k v).1 k = true from sEq_refl k] at this
      cases this
end Go.Proofs.Ytekkeajcmibbaaa
namespace Go.Proofs.Ytekkeajcmibbaaa
open Av Bk

theorem asc_pw {l : List entT.El} (h : ascS l) : l.Pairwise (fun x y => sLt x.1 y.1 = true) := by
  rw [List.pairwise_iff_getElem]
  intro i j hi hj hij
  exact asc_rel h hij (List.getElem?_eq_getElem hi) (List.getElem?_eq_getElem hj)
theorem pw_asc {l : List entT.El} (h : l.Pairwise (fun x y => sLt x.1 y.1 = true)) : ascS l := by
  intro k x y hx hy
  have h1 := List.getElem?_eq_some_iff.1 hx
  have h2 := List.getElem?_eq_some_iff.1 hy
  have := List.pairwise_iff_getElem.1 h k (k + 1) h1.1 h2.1 (by omega)
  rw [h1.2, h2.2] at this
  exact this
theorem ov_asc {l : List entT.El} (h : ascS l) (x : entT.El) : ascS (ovL l x) := by
  refine pw_asc ?_
  have hp := asc_pw h
  unfold ovL
  rw [List.pairwise_append]
  refine ⟨hp.filter _, List.pairwise_cons.2 ⟨fun z hz => (List.mem_filter.1 hz).2, hp.filter _⟩, fun y hy z hz => ?_⟩
  have h1 : sLt y.1 x.1 = true := (List.mem_filter.1 hy).2
  rcases List.mem_cons.1 hz with rfl | hz
  · exact h1
  · exact sLt_trans h1 (List.mem_filter.1 hz).2
theorem ov_len1 (l : List entT.El) (x : entT.El) : (ovL l x).length ≤ l.length + 1 := by
  unfold ovL
  rw [List.length_append, List.length_cons]
  have : ∀ l : List entT.El, (l.filter (fun y => sLt y.1 x.1)).length + (l.filter (fun y => sLt x.1 y.1)).length ≤ l.length := by
    intro l
    induction l with
    | nil => simp
    | cons y l ih =>
      rw [List.filter_cons, List.filter_cons, List.length_cons]
      cases h1 : sLt y.1 x.1 with
      | true => rw [sLt_asym h1]; simp only [if_true, Bool.false_eq_true, if_false, List.length_cons]; omega
      | false => cases h2 : sLt x.1 y.1 <;> simp only [if_true, Bool.false_eq_true, if_false, List.length_cons] <;> omega
  have := this l
  omega
theorem ov_iff {l : List entT.El} {x z : entT.El} : z ∈ ovL l x ↔ z = x ∨ (z ∈ l ∧ z.1 ≠ x.1) := by
  unfold ovL
  rw [List.mem_append, List.mem_cons, List.mem_filter, List.mem_filter]
  constructor
  · rintro (⟨h1, h2⟩ | rfl | ⟨h1, h2⟩)
    · exact .inr ⟨h1, sLt_ne h2⟩
    · exact .inl rfl
    · exact .inr ⟨h1, fun e => sLt_ne h2 e.symm⟩
  · rintro (rfl | ⟨h1, h2⟩)
    · exact .inr (.inl rfl)
    · cases h3 : sLt z.1 x.1 with
      | true => exact .inl ⟨h1, rfl⟩
      | false => exact .inr (.inr ⟨h1, sLt_of h3 h2⟩)
theorem asc_uniq {l : List entT.El} (h : ascS l) {x y : entT.El} (hx : x ∈ l) (hy : y ∈ l) (he : x.1 = y.1) : x = y := by
  obtain ⟨i, hi⟩ := List.mem_iff_getElem?.1 hx
  obtain ⟨j, hj⟩ := List.mem_iff_getElem?.1 hy
  rcases Nat.lt_trichotomy i j with h' | h' | h'
  · have := asc_rel h h' hi hj; rw [he, sLt_irrefl] at this; cases this
  · subst h'; rw [hi] at hj; cases hj; rfl
  · have := asc_rel h h' hj hi; rw [he, sLt_irrefl] at this; cases this
theorem first_asc {l : List entT.El} (h : ascS l) {x : entT.El} (hx : x ∈ l) : firstK l x.1 = some x := by
  cases hf : firstK l x.1 with
  | none => exact absurd rfl (firstK_none.1 hf x hx)
  | some y =>
    obtain ⟨h1, h2⟩ := firstK_some hf
    rw [asc_uniq h h1 hx h2]
theorem ov_first {l : List entT.El} (h : ascS l) (x : entT.El) (k : ByteArray) : firstK (ovL l x) k = if x.1 = k then some x else firstK l k := by
  by_cases hk : x.1 = k
  · subst hk
    rw [if_pos rfl]
    exact first_asc (ov_asc h x) (ov_iff.2 (.inl rfl))
  · rw [if_neg hk]
    cases hf : firstK l k with
    | none =>
      rw [firstK_none] at hf ⊢
      intro z hz
      rcases ov_iff.1 hz with rfl | ⟨h1, _⟩
      · exact hk
      · exact hf z h1
    | some y =>
      obtain ⟨h1, rfl⟩ := firstK_some hf
      exact first_asc (ov_asc h x) (ov_iff.2 (.inr ⟨h1, fun e => hk e.symm⟩))
theorem ov_get {b : List entT.El} {rs : List runT.El} (h : ascS b) (x : entT.El) (k : ByteArray) : getM (allE (ovL b x) rs) k = if x.1 = k then (if x.2.2.1 = true then none else some x.2.1) else getM (allE b rs) k := by
  unfold getM
  show valE (firstK (ovL b x :: rs.map (fun r => r.2.1)).flatten k) = _
  rw [List.flatten_cons, firstK_append, ov_first h]
  by_cases hk : x.1 = k
  · rw [if_pos hk, if_pos hk]; rfl
  · rw [if_neg hk, if_neg hk]
    show _ = valE (firstK (b :: rs.map (fun r => r.2.1)).flatten k)
    rw [List.flatten_cons, firstK_append]
theorem clGo_ok1 : ∀ (l : List entT.El) (i : Int) (pv : Option ByteArray), (∀ x ∈ l, errX x = 0) → ascS l → (∀ x, l[0]? = some x → falls pv x = false) → clGo pv i l = (0, 0)
  | [], _, _, _, _, _ => rfl
  | x :: l, i, pv, h1, h2, h3 => by
    rw [clGo, if_neg (by rw [h1 x (by simp)]; simp), if_neg (by rw [h3 x rfl]; simp)]
    refine clGo_ok1 l _ _ (fun y hy => h1 y (by simp [hy])) (ascS_tail h2) (fun y hy => ?_)
    have : sLt x.1 y.1 = true := h2 0 x y rfl (by simpa using hy)
    show (!sLt x.1 y.1) = false
    rw [this]; rfl
theorem ov_vcL {b : List entT.El} {rs : List runT.El} {x : entT.El} (h : (vcL b rs).2 = 0) (hl : b.length ≤ 15) (hx : errX x = 0) : (vcL (ovL b x) rs).2 = 0 := by
  obtain ⟨_, h1, h2⟩ := clL_zero (vcL_zero h).gb
  have h3 := ov_len1 b x
  have h4 : clL (ovL b x) = (0, 0) := by
    unfold clL
    rw [if_neg (by omega)]
    refine clGo_ok1 _ _ _ (fun z hz => ?_) (ov_asc h2 x) (fun _ _ => rfl)
    rcases ov_iff.1 hz with rfl | ⟨h5, _⟩
    · exact hx
    · exact h1 z h5
  have h6 : ¬ 24 < rs.length := by have := (vcL_zero h).lr; omega
  have h7 := (vcL_zero h).gb
  unfold vcL at h ⊢
  rw [if_neg (by omega), if_neg (by rw [h7]; decide), if_neg h6] at h
  rw [if_neg (by omega), if_neg (by rw [h4]; decide), if_neg h6]
  exact h
/-- How many pairs have a key. -/
theorem cnt_key {m : List pairT.El} (ha : ascP m) (k : ByteArray) : m.length = (m.filter (fun p => !sEq p.1 k)).length + (m.filter (fun p => sEq p.1 k)).length := by
  induction m with
  | nil => rfl
  | cons p m ih =>
    rw [List.filter_cons, List.filter_cons, List.length_cons, ih (List.pairwise_cons.1 ha).2]
    cases sEq p.1 k <;> simp only [Bool.not_true, Bool.not_false, if_true, Bool.false_eq_true, if_false, List.length_cons] <;> omega
theorem cnt_one {m : List pairT.El} (ha : ascP m) {k : ByteArray} {p : pairT.El} (hp : p ∈ m) (hk : p.1 = k) : (m.filter (fun p => sEq p.1 k)).length = 1 := by
  induction m with
  | nil => cases hp
  | cons q m ih =>
    have ha' := List.pairwise_cons.1 ha
    rw [List.filter_cons]
    rcases List.mem_cons.1 hp with rfl | hp
    · rw [if_pos (sEq_iff.2 hk)]
      have : m.filter (fun p => sEq p.1 k) = [] := List.filter_eq_nil_iff.2 (fun r hr he => by
        have := ha'.1 r hr
        rw [sEq_iff.1 he, hk, sLt_irrefl] at this; cases this)
      rw [this]; rfl
    · have hq : sEq q.1 k = false := by
        cases he : sEq q.1 k with
        | false => rfl
        | true =>
          have := ha'.1 p hp
          rw [sEq_iff.1 he, hk, sLt_irrefl] at this; cases this
      rw [hq, if_neg (by decide)]
      exact ih ha'.2 hp
theorem cnt_map (l : List entT.El) (k : ByteArray) : ((mapL l).filter (fun p => sEq p.1 k)).length = if (getM l k).isSome = true then 1 else 0 := by
  cases h : getM l k with
  | some v =>
    rw [if_pos (show (some v).isSome = true from rfl)]
    exact cnt_one (mapL_asc l) (p := mkP k v) ((mapL_mem l (mkP k v)).2 h) rfl
  | none =>
    rw [if_neg (show ¬ (none : Option ByteArray).isSome = true by decide)]
    have : (mapL l).filter (fun p => sEq p.1 k) = [] := List.filter_eq_nil_iff.2 (fun p hp he => by
      have h1 := (mapL_mem l p).1 hp
      rw [sEq_iff.1 he, h] at h1; cases h1)
    rw [this]; rfl
theorem ov_rest {b : List entT.El} {rs : List runT.El} (h : ascS b) (x : entT.El) : (mapL (allE (ovL b x) rs)).filter (fun p => !sEq p.1 x.1) = (mapL (allE b rs)).filter (fun p => !sEq p.1 x.1) := by
  refine asc_ext ((mapL_asc _).filter _) ((mapL_asc _).filter _) (fun p => ?_)
  rw [List.mem_filter, List.mem_filter, mapL_mem, mapL_mem, ov_get h]
  constructor
  · rintro ⟨h1, h2⟩
    have hne : x.1 ≠ p.1 := fun e => by rw [sEq_iff.2 e.symm] at h2; cases h2
    rw [if_neg hne] at h1
    exact ⟨h1, h2⟩
  · rintro ⟨h1, h2⟩
    have hne : x.1 ≠ p.1 := fun e => by rw [sEq_iff.2 e.symm] at h2; cases h2
    rw [if_neg hne]
    exact ⟨h1, h2⟩
theorem ov_count {b : List entT.El} {rs : List runT.El} (h : ascS b) (x : entT.El) : ((mapL (allE (ovL b x) rs)).length : Int) = (mapL (allE b rs)).length - (if (getM (allE b rs) x.1).isSome = true then 1 else 0) + (if x.2.2.1 = true then 0 else 1) := by
  have h1 := cnt_key (mapL_asc (allE (ovL b x) rs)) x.1
  have h2 := cnt_key (mapL_asc (allE b rs)) x.1
  rw [ov_rest h] at h1
  rw [cnt_map] at h1 h2
  have h3 : (getM (allE (ovL b x) rs) x.1).isSome = !x.2.2.1 := by
    rw [ov_get h, if_pos rfl]
    cases x.2.2.1 <;> rfl
  rw [h3] at h1
  cases hd : x.2.2.1 <;> rw [hd] at h1 <;> cases hg : (getM (allE b rs) x.1).isSome <;> rw [hg] at h2 <;> simp only [Bool.not_true, Bool.not_false, if_true, Bool.false_eq_true, if_false] at h1 h2 ⊢ <;> omega
end Go.Proofs.Ytekkeajcmibbaaa
