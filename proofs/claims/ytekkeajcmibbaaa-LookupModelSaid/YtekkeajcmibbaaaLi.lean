/-
  A map of Go that holds the newest entries: plain Lean.
-/
import Derived.Test.YtekkeajcmibbaaaLh
import Derived.Test.YtekkeajcmibbaaaAvs
namespace Go.Proofs.Ytekkeajcmibbaaa
open Av Bk

abbrev mEl : Type := ByteArray × entT.El
def keyOk (e : mEl) : Prop := e.1 = e.2.1
/-- What a map has behind some entries. -/
structure MapOk (m : List mEl) (l : List entT.El) : Prop where
  find : ∀ k, findK (kt := .str) (vt := entT) m k = firstK l k
  nd : (m.map (·.1)).Nodup
  key : ∀ e ∈ m, e.1 = e.2.1
  ln : m.length ≤ l.length
theorem has_find {m : List mEl} {k : ByteArray} : hasK (kt := .str) (vt := entT) m k = (findK (kt := .str) (vt := entT) m k).isSome := by
  unfold hasK findK
  rw [Option.isSome_map, Bool.eq_iff_iff, List.any_eq_true, List.find?_isSome]
theorem findK_snoc (m : List mEl) (e : mEl) (k : ByteArray) : findK (kt := .str) (vt := entT) (m ++ [e]) k = (findK (kt := .str) (vt := entT) m k).or (if e.1 = k then some e.2 else none) := by
  unfold findK
  rw [List.find?_append]
  have h1 : ∀ x : mEl, eqT .str x.1 k = sEq x.1 k := fun x => rfl
  by_cases h : e.1 = k
  · rw [if_pos h]
    have : ([e].find? fun e => eqT .str e.1 k) = some e := by rw [List.find?_cons_of_pos]; rw [h1, sEq_iff]; exact h
    rw [this]
    cases (m.find? fun e => eqT .str e.1 k) <;> rfl
  · rw [if_neg h]
    have : ([e].find? fun e => eqT .str e.1 k) = none := by rw [List.find?_cons_of_neg]; rfl; rw [h1, sEq_iff]; exact h
    rw [this]
    cases (m.find? fun e => eqT .str e.1 k) <;> rfl
theorem mapOk_nil : MapOk [] [] := ⟨fun _ => rfl, List.nodup_nil, by simp, Nat.le_refl _⟩
theorem mapOk_old {m : List mEl} {l : List entT.El} {x y : entT.El} (h : MapOk m l) (hf : findK (kt := .str) (vt := entT) m x.1 = some y) : MapOk m (l ++ [x]) where
  nd := h.nd
  key := h.key
  ln := by have := h.ln; rw [List.length_append]; omega
  find := fun k => by
    rw [firstK_append, firstK_one, h.find k]
    by_cases hk : x.1 = k
    · rw [← hk, ← h.find, hf]; rfl
    · rw [if_neg hk]; cases firstK l k <;> rfl
theorem mapOk_new {m : List mEl} {l : List entT.El} {x : entT.El} (h : MapOk m l) (hf : findK (kt := .str) (vt := entT) m x.1 = none) : MapOk (putL (kt := .str) (vt := entT) m x.1 x) (l ++ [x]) ∧ (putL (kt := .str) (vt := entT) m x.1 x).length = m.length + 1 := by
  have hp : putL (kt := .str) (vt := entT) m x.1 x = m ++ [(x.1, x)] := by
    unfold putL
    rw [has_find, hf]
    rfl
  rw [hp]
  refine ⟨⟨fun k => ?_, ?_, ?_, by have := h.ln; simp; omega⟩, by simp⟩
  · rw [findK_snoc, firstK_append, firstK_one, h.find k]
  · rw [List.map_append, List.nodup_append]
    refine ⟨h.nd, by simp, ?_⟩
    intro a ha b hb e
    simp only [List.map_cons, List.map_nil, List.mem_singleton] at hb
    subst hb
    subst e
    obtain ⟨e, he, hk⟩ := List.mem_map.1 ha
    unfold findK at hf
    rw [Option.map_eq_none_iff, List.find?_eq_none] at hf
    exact hf e he (show sEq e.1 x.1 = true by rw [sEq_iff]; exact hk)
  · intro e he
    rcases List.mem_append.1 he with he | he
    · exact h.key e he
    · simp only [List.mem_singleton] at he
      subst he
      rfl
/-- What was taken out of a map, at some places of it. -/
structure OutOk (m : List mEl) (seen : List Nat) (out : List pairT.El) : Prop where
  mem : ∀ p, p ∈ out ↔ ∃ i ∈ seen, ∃ e, m[i]? = some e ∧ e.2.2.2.1 = false ∧ p = mkP e.1 e.2.2.1
  nd : (out.map (·.1)).Nodup
  sd : seen.Nodup
  lt : ∀ i ∈ seen, i < m.length
  ln : out.length ≤ seen.length
theorem outOk_nil (m : List mEl) : OutOk m [] [] := ⟨by simp, List.nodup_nil, List.nodup_nil, by simp, Nat.le_refl _⟩
theorem outOk_dead {m : List mEl} {seen : List Nat} {out : List pairT.El} {i : Nat} {e : mEl} (h : OutOk m seen out) (hi : m[i]? = some e) (hn : i ∉ seen) (hd : e.2.2.2.1 = true) : OutOk m (i :: seen) out where
  nd := h.nd
  sd := List.nodup_cons.2 ⟨hn, h.sd⟩
  lt := fun j hj => by
    rcases List.mem_cons.1 hj with rfl | hj
    · exact (List.getElem?_eq_some_iff.1 hi).1
    · exact h.lt j hj
  ln := by have := h.ln; simp only [List.length_cons]; omega
  mem := fun p => by
    rw [h.mem p]
    constructor
    · rintro ⟨j, hj, r⟩
      exact ⟨j, List.mem_cons_of_mem _ hj, r⟩
    · rintro ⟨j, hj, e', he, hl, r⟩
      rcases List.mem_cons.1 hj with rfl | hj
      · rw [hi] at he
        cases he
        rw [hd] at hl
        cases hl
      · exact ⟨j, hj, e', he, hl, r⟩
theorem nodup_at {m : List mEl} (h : (m.map (·.1)).Nodup) {i j : Nat} {a b : mEl} (hi : m[i]? = some a) (hj : m[j]? = some b) (e : a.1 = b.1) : i = j := by
  have h1 : (m.map (·.1))[i]? = some a.1 := by rw [List.getElem?_map, hi]; rfl
  have h2 : (m.map (·.1))[j]? = some a.1 := by rw [List.getElem?_map, hj, e]; rfl
  have hl := (List.getElem?_eq_some_iff.1 h1).1
  exact (List.getElem?_inj hl h).1 (h1.trans h2.symm)
theorem outOk_live {m : List mEl} {l : List entT.El} (hm : MapOk m l) {seen : List Nat} {out : List pairT.El} {i : Nat} {e : mEl} (h : OutOk m seen out) (hi : m[i]? = some e) (hn : i ∉ seen) (hd : e.2.2.2.1 = false) : OutOk m (i :: seen) (out ++ [mkP e.1 e.2.2.1]) where
  nd := by
    rw [List.map_append, List.nodup_append]
    refine ⟨h.nd, by simp, ?_⟩
    intro a ha b hb hab
    simp only [List.map_cons, List.map_nil, List.mem_singleton] at hb
    subst hb
    subst hab
    obtain ⟨p, hp, hk⟩ := List.mem_map.1 ha
    obtain ⟨j, hj, e', he, _, rfl⟩ := (h.mem p).1 hp
    have := nodup_at hm.nd hi he hk.symm
    subst this
    exact hn hj
  sd := List.nodup_cons.2 ⟨hn, h.sd⟩
  lt := fun j hj => by
    rcases List.mem_cons.1 hj with rfl | hj
    · exact (List.getElem?_eq_some_iff.1 hi).1
    · exact h.lt j hj
  ln := by have := h.ln; simp only [List.length_cons, List.length_append, List.length_nil]; omega
  mem := fun p => by
    rw [List.mem_append, h.mem p, List.mem_singleton]
    constructor
    · rintro (⟨j, hj, r⟩ | rfl)
      · exact ⟨j, List.mem_cons_of_mem _ hj, r⟩
      · exact ⟨i, by simp, e, hi, hd, rfl⟩
    · rintro ⟨j, hj, e', he, hl, r⟩
      rcases List.mem_cons.1 hj with rfl | hj
      · rw [hi] at he
        cases he
        exact .inr r
      · exact .inl ⟨j, hj, e', he, hl, r⟩
theorem seen_len : ∀ {n : Nat} {seen : List Nat}, seen.Nodup → (∀ i ∈ seen, i < n) → seen.length ≤ n
  | 0, [], _, _ => Nat.le_refl _
  | 0, i :: _, _, h => absurd (h i (by simp)) (by omega)
  | n + 1, seen, hs, h => by
    have := seen_len (n := n) (hs.erase n) (fun i hi => by
      have h1 := (List.Nodup.mem_erase_iff hs).1 hi
      have h2 := h i h1.2
      omega)
    by_cases hn : n ∈ seen
    · rw [List.length_erase_of_mem hn] at this
      omega
    · rw [List.erase_of_not_mem hn] at this
      omega
theorem sorted_map {m : List mEl} {l : List entT.El} (hm : MapOk m l) {seen : List Nat} {out out' : List pairT.El} (h : OutOk m seen out) (ha : ∀ i, i < m.length → i ∈ seen) (hp : out'.Perm out) (hs : out'.Pairwise (fun x y => ¬ ordS y.1 x.1 < 0)) : out' = mapL l := by
  have hnd : (out'.map (·.1)).Nodup := (hp.map (·.1)).nodup_iff.2 h.nd
  refine mapL_eq ?_ (fun p => ?_)
  · have hn : out'.Pairwise (fun x y => x.1 ≠ y.1) := List.pairwise_map.1 hnd
    refine (hs.and hn).imp (fun {x y} hxy => ?_)
    have h1 : sLt y.1 x.1 = false := by
      cases hc : sLt y.1 x.1 with
      | false => rfl
      | true => exact absurd (ordS_lt.2 hc) hxy.1
    exact sLt_of h1 (fun e => hxy.2 e.symm)
  · rw [hp.mem_iff, h.mem p]
    unfold getM
    constructor
    · rintro ⟨i, _, e, he, hd, rfl⟩
      have hf : findK (kt := .str) (vt := entT) m e.1 = some e.2 := by
        unfold findK
        rw [find_at (fun x : mEl => x.1) (fun x : mEl => eqT .str x.1 e.1) m i e he hm.nd (fun x => sEq_iff)]
        rfl
      rw [hm.find] at hf
      show valE (firstK l e.1) = some e.2.2.1
      rw [hf]
      simp [valE, hd]
    · intro hv
      rw [← hm.find] at hv
      unfold findK at hv
      cases hf : (m.find? fun e => eqT .str e.1 p.1) with
      | none => rw [hf] at hv; cases hv
      | some e =>
        rw [hf] at hv
        have hv : (if e.2.2.2.1 = true then none else some e.2.2.1) = some p.2.1 := hv
        have hk : e.1 = p.1 := sEq_iff.1 (List.find?_some (p := fun e : mEl => eqT .str e.1 p.1) hf)
        obtain ⟨i, hi⟩ := List.mem_iff_getElem?.1 (List.mem_of_find?_eq_some hf)
        refine ⟨i, ha i (List.getElem?_eq_some_iff.1 hi).1, e, hi, ?_, ?_⟩
        · cases hd : e.2.2.2.1 with
          | false => rfl
          | true => rw [hd] at hv; cases hv
        · split at hv
          · cases hv
          · obtain ⟨k, v, u⟩ := p
            cases hv
            simp only at hk
            subst hk
            rfl
end Go.Proofs.Ytekkeajcmibbaaa
