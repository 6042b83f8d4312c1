/-
  A map of Go that holds the newest entries: plain Lean.
  An abstract reading of values and memory: what a sort makes of an array of the code's own.
  An abstract reading of values and memory: what a function value that a sort is given sees, whatever the sort does meanwhile.
  An abstract reading of values and memory: slices.SortFunc, by the library's contract, as a call that is walked through.
  An abstract reading of values and memory: slices.SortFunc: the contracts, taken over.
  An abstract reading of values and memory: slices.SortFunc at elements of one cell.
-/
import Derived.Test.YtdbnohpolknbbaaGreatAw0
import Derived.Test.YtdbnohpolknbbaaGreatAvs
import Derived.Test.YtdbnohpolknbbaaGreatE5
import Derived.Shelf.SlSortCmp.NoneTotal
namespace Go.Proofs.YtdbnohpolknbbaaGreat
open Av Bk

abbrev mEl : Type := ByteArray × entT.El
/-- What a map has behind some entries. -/
structure MapOk (m : List mEl) (l : List entT.El) : Prop where
  find : ∀ k, findK (kt := .str) (vt := entT) m k = firstK l k
  nd : (m.map (·.1)).Nodup
  key : ∀ e ∈ m, e.1 = e.2.1
  ln : m.length ≤ l.length
theorem has_find {m : List mEl} {k : ByteArray} : hasK (kt := .str) (vt := entT) m k = (findK (kt := .str) (vt := entT) m k).isSome := by
  unfold hasK findK
  rw [Option.isSome_map, Bool.eq_iff_iff, List.any_eq_true, List.find?_isSome]
theorem findK_snoc (m : List mEl) (e : mEl) (k : ByteArray) : findK (kt := .str) (vt := entT) (m ++ [e]) k = (findK (kt := .str) (vt := entT) m k).or (if e.1 = k then some e.2 else none) := by
  unfold findK
  rw [List.find?_append]
  have h1 : ∀ x : mEl, eqT .str x.1 k = sEq x.1 k := fun x => rfl
  by_cases h : e.1 = k
  · rw [if_pos h]
    have : ([e].find? fun e => eqT .str e.1 k) = some e := by rw [List.find?_cons_of_pos]; rw [h1, sEq_iff]; exact h
    rw [this]
    cases (m.find? fun e => eqT .str e.1 k) <;> rfl
  · rw [if_neg h]
    have : ([e].find? fun e => eqT .str e.1 k) = none := by rw [List.find?_cons_of_neg]; rfl; rw [h1, sEq_iff]; exact h
    rw [this]
    cases (m.find? fun e => eqT .str e.1 k) <;> rfl
theorem mapOk_nil : MapOk [] [] := ⟨fun _ => rfl, List.nodup_nil, by simp, Nat.le_refl _⟩
theorem mapOk_old {m : List mEl} {l : List entT.El} {x y : entT.El} (h : MapOk m l) (hf : findK (kt := .str) (vt := entT) m x.1 = some y) : MapOk m (l ++ [x]) where
  nd := h.nd
  key := h.key
  ln := by have := h.ln; rw [List.length_append]; omega
  find := fun k => by
    rw [firstK_append, firstK_one, h.find k]
    by_cases hk : x.1 = k
    · rw [← hk, ← h.find, hf]; rfl
    · rw [if_neg hk]; cases firstK l k <;> rfl
theorem mapOk_new {m : List mEl} {l : List entT.El} {x : entT.El} (h : MapOk m l) (hf : findK (kt := .str) (vt := entT) m x.1 = none) : MapOk (putL (kt := .str) (vt := entT) m x.1 x) (l ++ [x]) ∧ (putL (kt := .str) (vt := entT) m x.1 x).length = m.length + 1 := by
  have hp : putL (kt := .str) (vt := entT) m x.1 x = m ++ [(x.1, x)] := by
    unfold putL
    rw [has_find, hf]
    rfl
  rw [hp]
  refine ⟨⟨fun k => ?_, ?_, ?_, by have := h.ln; simp; omega⟩, by simp⟩
  · rw [findK_snoc, firstK_append, firstK_one, h.find k]
  · rw [List.map_append, List.nodup_append]
    refine ⟨h.nd, by simp, ?_⟩
    intro a ha b hb e
    simp only [List.map_cons, List.map_nil, List.mem_singleton] at hb
    subst hb
    subst e
    obtain ⟨e, he, hk⟩ := List.mem_map.1 ha
    unfold findK at hf
    rw [Option.map_eq_none_iff, List.find?_eq_none] at hf
    exact hf e he (show sEq e.1 x.1 = true by rw [sEq_iff]; exact hk)
  · intro e he
    rcases List.mem_append.1 he with he | he
    · exact h.key e he
    · simp only [List.mem_singleton] at he
      subst he
      rfl
/-- What was taken out of a map, at some places of it. -/
structure OutOk (m : List mEl) (seen : List Nat) (out : List pairT.El) : Prop where
  mem : ∀ p, p ∈ out ↔ ∃ i ∈ seen, ∃ e, m[i]? = some e ∧ e.2.2.2.1 = false ∧ p = mkP e.1 e.2.2.1
  nd : (out.map (·.1)).Nodup
  sd : seen.Nodup
  lt : ∀ i ∈ seen, i < m.length
  ln : out.length ≤ seen.length
theorem outOk_nil (m : List mEl) : OutOk m [] [] := ⟨by simp, List.nodup_nil, List.nodup_nil, by simp, Nat.le_refl _⟩
theorem outOk_dead {m : List mEl} {seen : List Nat} {out : List pairT.El} {i : Nat} {e : mEl} (h : OutOk m seen out) (hi : m[i]? = some e) (hn : i ∉ seen) (hd : e.2.2.2.1 = true) : OutOk m (i :: seen) out where
  nd := h.nd
  sd := List.nodup_cons.2 ⟨hn, h.sd⟩
  lt := fun j hj => by
    rcases List.mem_cons.1 hj with rfl | hj
    · exact (List.getElem?_eq_some_iff.1 hi).1
    · exact h.lt j hj
  ln := by have := h.ln; simp only [List.length_cons]; omega
  mem := fun p => by
    rw [h.mem p]
    constructor
    · rintro ⟨j, hj, r⟩
      exact ⟨j, List.mem_cons_of_mem _ hj, r⟩
    · rintro ⟨j, hj, e', he, hl, r⟩
      rcases List.mem_cons.1 hj with rfl | hj
      · rw [hi] at he
        cases he
        rw [hd] at hl
        cases hl
      · exact ⟨j, hj, e', he, hl, r⟩
theorem nodup_at {m : List mEl} (h : (m.map (·.1)).Nodup) {i j : Nat} {a b : mEl} (hi : m[i]? = some a) (hj : m[j]? = some b) (e : a.1 = b.1) : i = j := by
  have h1 : (m.map (·.1))[i]? = some a.1 := by rw [List.getElem?_map, hi]; rfl
  have h2 : (m.map (·.1))[j]? = some a.1 := by rw [List.getElem?_map, hj, e]; rfl
  have hl := (List.getElem?_eq_some_iff.1 h1).1
  exact (List.getElem?_inj hl h).1 (h1.trans h2.symm)
theorem outOk_live {m : List mEl} {l : List entT.El} (hm : MapOk m l) {seen : List Nat} {out : List pairT.El} {i : Nat} {e : mEl} (h : OutOk m seen out) (hi : m[i]? = some e) (hn : i ∉ seen) (hd : e.2.2.2.1 = false) : OutOk m (i :: seen) (out ++ [mkP e.1 e.2.2.1]) where
  nd := by
    rw [List.map_append, List.nodup_append]
    refine ⟨h.nd, by simp, ?_⟩
    intro a ha b hb hab
    simp only [List.map_cons, List.map_nil, List.mem_singleton] at hb
    subst hb
    subst hab
    obtain ⟨p, hp, hk⟩ := List.mem_map.1 ha
    obtain ⟨j, hj, e', he, _, rfl⟩ := (h.mem p).1 hp
    have := nodup_at hm.nd hi he hk.symm
    subst this
    exact hn hj
  sd := List.nodup_cons.2 ⟨hn, h.sd⟩
  lt := fun j hj => by
    rcases List.mem_cons.1 hj with rfl | hj
    · exact (List.getElem?_eq_some_iff.1 hi).1
    · exact h.lt j hj
  ln := by have := h.ln; simp only [List.length_cons, List.length_append, List.length_nil]; omega
  mem := fun p => by
    rw [List.mem_append, h.mem p, List.mem_singleton]
    constructor
    · rintro (⟨j, hj, r⟩ | rfl)
      · exact ⟨j, List.mem_cons_of_mem _ hj, r⟩
      · exact ⟨i, by simp, e, hi, hd, rfl⟩
    · rintro ⟨j, hj, e', he, hl, r⟩
      rcases List.mem_cons.1 hj with rfl | hj
      · rw [hi] at he
        cases he
        exact .inr r
      · exact .inl ⟨j, hj, e', he, hl, r⟩
theorem seen_len : ∀ {n : Nat} {seen : List Nat}, seen.Nodup → (∀ i ∈ seen, i < n) → seen.length ≤ n
  | 0, [], _, _ => Nat.le_refl _
  | 0, i :: _, _, h => absurd (h i (by simp)) (by omega)
  | n + 1, seen, hs, h => by
    have := seen_len (n := n) (hs.erase n) (fun i hi => by
      have h1 := (List.Nodup.mem_erase_iff hs).1 hi
      have h2 := h i h1.2
      omega)
    by_cases hn : n ∈ seen
    · rw [List.length_erase_of_mem hn] at this
      omega
    · rw [List.erase_of_not_mem hn] at this
      omega
theorem sorted_map {m : List mEl} {l : List entT.El} (hm : MapOk m l) {seen : List Nat} {out out' : List pairT.El} (h : OutOk m seen out) (ha : ∀ i, i < m.length → i ∈ seen) (hp : out'.Perm out) (hs : out'.Pairwise (fun x y => ¬ ordS y.1 x.1 < 0)) : out' = mapL l := by
  have hnd : (out'.map (·.1)).Nodup := (hp.map (·.1)).nodup_iff.2 h.nd
  refine mapL_eq ?_ (fun p => ?_)
  · have hn : out'.Pairwise (fun x y => x.1 ≠ y.1) := List.pairwise_map.1 hnd
    refine (hs.and hn).imp (fun {x y} hxy => ?_)
    have h1 : sLt y.1 x.1 = false := by
      cases hc : sLt y.1 x.1 with
      | false => rfl
      | true => exact absurd (ordS_lt.2 hc) hxy.1
    exact sLt_of h1 (fun e => hxy.2 e.symm)
  · rw [hp.mem_iff, h.mem p]
    unfold getM
    constructor
    · rintro ⟨i, _, e, he, hd, rfl⟩
      have hf : findK (kt := .str) (vt := entT) m e.1 = some e.2 := by
        unfold findK
        rw [find_at (fun x : mEl => x.1) (fun x : mEl => eqT .str x.1 e.1) m i e he hm.nd (fun x => sEq_iff)]
        rfl
      rw [hm.find] at hf
      show valE (firstK l e.1) = some e.2.2.1
      rw [hf]
      simp [valE, hd]
    · intro hv
      rw [← hm.find] at hv
      unfold findK at hv
      cases hf : (m.find? fun e => eqT .str e.1 p.1) with
      | none => rw [hf] at hv; cases hv
      | some e =>
        rw [hf] at hv
        have hv : (if e.2.2.2.1 = true then none else some e.2.2.1) = some p.2.1 := hv
        have hk : e.1 = p.1 := sEq_iff.1 (List.find?_some (p := fun e : mEl => eqT .str e.1 p.1) hf)
        obtain ⟨i, hi⟩ := List.mem_iff_getElem?.1 (List.mem_of_find?_eq_some hf)
        refine ⟨i, ha i (List.getElem?_eq_some_iff.1 hi).1, e, hi, ?_, ?_⟩
        · cases hd : e.2.2.2.1 with
          | false => rfl
          | true => rw [hd] at hv; cases hv
        · split at hv
          · cases hv
          · obtain ⟨k, v, u⟩ := p
            cases hv
            simp only at hk
            subst hk
            rfl
end Go.Proofs.YtdbnohpolknbbaaGreat
namespace Av
open Go Go.Sort Go.Proofs

/-! ### Data without memory, as values -/
mutual
def valsT : (t : Ty) → t.El → List Value
  | .bool, b => [.bool b]
  | .int k, n => [.int k n]
  | .str, s => [.string s]
  | .sl _, _ => []
  | .ifc _ _, _ => []
  | .st fs, x => valsTs fs x
def valsTs : (ts : List Ty) → Ty.Els ts → List Value
  | [], _ => []
  | t :: ts, x => valsT t x.1 ++ valsTs ts x.2
end
mutual
theorem valsT_len : ∀ (t : Ty) (x : t.El), flatT t = true → (valsT t x).length = t.size
  | .bool, _, _ => rfl
  | .int _, _, _ => rfl
  | .str, _, _ => rfl
  | .sl _, _, h => by simp [flatT] at h
  | .st fs, x, h => by simp only [flatT] at h; simp only [valsT, Ty.size]; exact valsTs_len fs x h
theorem valsTs_len : ∀ (ts : List Ty) (x : Ty.Els ts), flatTs ts = true → (valsTs ts x).length = Ty.sizes ts
  | [], _, _ => rfl
  | t :: ts, x, h => by
    simp only [flatTs, Bool.and_eq_true] at h
    simp only [valsTs, Ty.sizes, List.length_append, valsT_len t x.1 h.1, valsTs_len ts x.2 h.2]
end
mutual
theorem valsT_RT {s : St} : ∀ (t : Ty) (x : t.El) (c : Nat → Option Value), flatT t = true → (RT s t x c ↔ ∀ j v, (valsT t x)[j]? = some v → c j = some v)
  | .bool, b, c, _ => by
    simp only [RT, valsT]
    exact ⟨fun h j v hv => by cases j with
      | zero => cases hv; exact h
      | succ j => simp at hv, fun h => h 0 _ rfl⟩
  | .int k, n, c, _ => by
    simp only [RT, valsT]
    exact ⟨fun h j v hv => by cases j with
      | zero => cases hv; exact h
      | succ j => simp at hv, fun h => h 0 _ rfl⟩
  | .str, x, c, _ => by
    simp only [RT, valsT]
    exact ⟨fun h j v hv => by cases j with
      | zero => cases hv; exact h
      | succ j => simp at hv, fun h => h 0 _ rfl⟩
  | .sl _, _, _, h => by simp [flatT] at h
  | .st fs, x, c, h => by simp only [flatT] at h; simp only [RT, valsT]; exact valsTs_RT fs x c h
theorem valsTs_RT {s : St} : ∀ (ts : List Ty) (x : Ty.Els ts) (c : Nat → Option Value), flatTs ts = true → (RTs s ts x c ↔ ∀ j v, (valsTs ts x)[j]? = some v → c j = some v)
  | [], _, c, _ => by simp [RTs, valsTs]
  | t :: ts, x, c, h => by
    simp only [flatTs, Bool.and_eq_true] at h
    simp only [RTs, valsTs]
    have hl := valsT_len t x.1 h.1
    rw [valsT_RT t x.1 c h.1, valsTs_RT ts x.2 _ h.2]
    constructor
    · rintro ⟨h1, h2⟩ j v hv
      rw [List.getElem?_append] at hv
      split at hv
      · exact h1 j v hv
      · have := h2 _ v hv
        rw [show t.size + (j - (valsT t x.1).length) = j by omega] at this
        exact this
    · intro h1
      refine ⟨fun j v hv => h1 j v ?_, fun j v hv => h1 _ v ?_⟩
      · rw [List.getElem?_append_left (List.getElem?_eq_some_iff.1 hv).1]
        exact hv
      · rw [List.getElem?_append_right (by omega), hl, Nat.add_sub_cancel_left]
        exact hv
end
mutual
theorem valsT_one : ∀ (t : Ty) (x : t.El), ∀ v ∈ valsT t x, v.oneCell' = true
  | .bool, _, v, h => by simp only [valsT, List.mem_singleton] at h; subst h; rfl
  | .int _, _, v, h => by simp only [valsT, List.mem_singleton] at h; subst h; rfl
  | .str, _, v, h => by simp only [valsT, List.mem_singleton] at h; subst h; rfl
  | .sl _, _, v, h => by simp [valsT] at h
  | .ifc _ _, _, v, h => by simp [valsT] at h
  | .st fs, x, v, h => by simp only [valsT] at h; exact valsTs_one fs x v h
theorem valsTs_one : ∀ (ts : List Ty) (x : Ty.Els ts), ∀ v ∈ valsTs ts x, v.oneCell' = true
  | [], _, v, h => by simp [valsTs] at h
  | t :: ts, x, v, h => by
    simp only [valsTs, List.mem_append] at h
    rcases h with h | h
    · exact valsT_one t x.1 v h
    · exact valsTs_one ts x.2 v h
end
mutual
theorem valsT_R {s : St} : ∀ (t : Ty) (x : t.El), flatT t = true → RL s (flat t x) (valsT t x)
  | .bool, b, _ => by simp only [flat, valsT, RL, R]; exact ⟨_, _, rfl, rfl, rfl⟩
  | .int k, n, _ => by simp only [flat, valsT, RL, R]; exact ⟨_, _, rfl, rfl, rfl⟩
  | .str, x, _ => by simp only [flat, valsT, RL, R]; exact ⟨_, _, rfl, rfl, rfl⟩
  | .sl _, _, h => by simp [flatT] at h
  | .st fs, x, h => by simp only [flatT] at h; simp only [flat, valsT]; exact valsTs_R fs x h
theorem valsTs_R {s : St} : ∀ (ts : List Ty) (x : Ty.Els ts), flatTs ts = true → RL s (flats ts x) (valsTs ts x)
  | [], _, _ => by simp only [flats, valsTs, RL]
  | t :: ts, x, h => by
    simp only [flatTs, Bool.and_eq_true] at h
    simp only [flats, valsTs]
    exact RL_append (valsT_R t x.1 h.1) (valsTs_R ts x.2 h.2)
end
/-- An element, as it is handed to a function. -/
def elA (t : Ty) (x : t.El) : AV := match t with
  | .st fs => .agg (flats fs x)
  | .bool => .bool x
  | .int k => .int k x
  | .str => .str x
  | .sl e => .lst e x
  | .ifc _ _ => .any
def elV (t : Ty) (x : t.El) : Value := match t with
  | .st fs => .agg (valsTs fs x).toArray
  | .bool => .bool x
  | .int k => .int k x
  | .str => .string x
  | .sl _ => undef
  | .ifc _ _ => undef
theorem elA_R {s : St} (t : Ty) (x : t.El) (h : flatT t = true) : R s (elA t x) (elV t x) := by
  cases t with
  | st fs =>
    simp only [flatT] at h
    simp only [elA, elV, R]
    exact ⟨_, rfl, valsTs_R fs x h, valsTs_one fs x⟩
  | bool => simp only [elA, elV, R]
  | int k => simp only [elA, elV, R]
  | str => simp only [elA, elV, R]
  | sl e => simp [flatT] at h
  | ifc _ _ => simp [flatT] at h
def rowsV (t : Ty) (l : List t.El) : List Value := l.flatMap (valsT t)
theorem rowsV_len {t : Ty} (h : flatT t = true) : ∀ l : List t.El, (rowsV t l).length = l.length * t.size
  | [] => by simp [rowsV]
  | x :: l => by
    have := rowsV_len h l
    simp only [rowsV] at this
    simp only [rowsV, List.flatMap_cons, List.length_append, valsT_len t x h, this, List.length_cons, Nat.add_mul, Nat.one_mul]
    omega
theorem rowsV_get {t : Ty} (h : flatT t = true) : ∀ (l : List t.El) (i : Nat) (x : t.El) (j : Nat), l[i]? = some x → j < t.size → (rowsV t l)[i * t.size + j]? = (valsT t x)[j]?
  | y :: l, 0, x, j, hx, hj => by
    cases hx
    have hl := valsT_len t y h
    simp only [rowsV, List.flatMap_cons, Nat.zero_mul, Nat.zero_add]
    rw [List.getElem?_append_left (by omega)]
  | y :: l, i + 1, x, j, hx, hj => by
    have hl := valsT_len t y h
    have := rowsV_get h l i x j (by simpa using hx) hj
    simp only [rowsV, List.flatMap_cons]
    rw [List.getElem?_append_right (by rw [hl, Nat.add_mul]; omega), hl, Nat.add_mul, Nat.one_mul, show i * t.size + t.size + j - t.size = i * t.size + j by omega]
    exact this
theorem rowsV_of {s : St} {t : Ty} (h : flatT t = true) (hp : 0 < t.size) {l : List t.El} {xs : List Value} (hlen : xs.length = l.length * t.size) (hr : ∀ i x, l[i]? = some x → RT s t x (fun j => xs[i * t.size + j]?)) : xs = rowsV t l := by
  apply List.ext_getElem?
  intro q
  by_cases hq : q < l.length * t.size
  · have hi : q / t.size < l.length := (Nat.div_lt_iff_lt_mul hp).2 hq
    have hj := Nat.mod_lt q hp
    have hqe : q / t.size * t.size + q % t.size = q := by rw [Nat.mul_comm]; exact Nat.div_add_mod q t.size
    have hx : l[q / t.size]? = some l[q / t.size] := List.getElem?_eq_getElem hi
    have h1 := rowsV_get h l _ _ (q % t.size) hx hj
    rw [hqe] at h1
    have hl2 : q % t.size < (valsT t l[q / t.size]).length := by rw [valsT_len t _ h]; exact hj
    have hv : (valsT t l[q / t.size])[q % t.size]? = some (valsT t l[q / t.size])[q % t.size] := List.getElem?_eq_getElem hl2
    have h2 := (valsT_RT (s := s) t _ _ h).1 (hr _ _ hx) _ _ hv
    rw [hqe] at h2
    rw [h2, h1, hv]
  · rw [List.getElem?_eq_none (by omega), List.getElem?_eq_none (by rw [rowsV_len h]; omega)]
end Av
namespace Av
open Go

/-! ### Values that are read in a later world -/
structure Fr (s s2 : St) : Prop where
  size : s.w.heap.size ≤ s2.w.heap.size
  own : ∀ b, ¬ Own s b → ¬ Own s2 b
  heap : ∀ b, ¬ Own s b → b < s.w.heap.size → s2.w.heap[b]? = s.w.heap[b]?
theorem Fr.cell {s s2 : St} (h : Fr s s2) {b : Nat} (hb : ¬ Own s b) {o : Nat} {v : Value} (hc : s.w.cell? ⟨b, o, none⟩ = some v) : s2.w.cell? ⟨b, o, none⟩ = some v := by
  have hlt : b < s.w.heap.size := World.block_lt_of_cell? s.w ⟨b, o, none⟩ hc
  rw [World.cell?_of_block (w := s.w) (a := ⟨b, o, none⟩) (h.heap b hb hlt)]
  exact hc
mutual
theorem RT_fr {s s2 : St} (hf : Fr s s2) : ∀ (t : Ty) (x : t.El) (c c' : Nat → Option Value), (∀ j v, c j = some v → c' j = some v) → RT s t x c → RT s2 t x c'
  | .bool, b, c, c', hc, h => by simp only [RT] at h ⊢; exact hc _ _ h
  | .int _, b, c, c', hc, h => by simp only [RT] at h ⊢; exact hc _ _ h
  | .str, b, c, c', hc, h => by simp only [RT] at h ⊢; exact hc _ _ h
  | .sl e, l, c, c', hc, h => by
    simp only [RT] at h ⊢
    obtain ⟨a, cap, h0, h1, h2⟩ := h
    refine ⟨a, cap, hc _ _ h0, h1, fun hne => ?_⟩
    obtain ⟨b, o, ha, hlt, hb, hx⟩ := h2 hne
    exact ⟨b, o, ha, Nat.lt_of_lt_of_le hlt hf.size, hf.own b hb, fun i x hi => RT_fr hf e x _ _ (fun _ _ hv => hf.cell hb hv) (hx i x hi)⟩
  | .st fs, x, c, c', hc, h => by simp only [RT] at h ⊢; exact RTs_fr hf fs x c c' hc h
  | .ifc Ts ts, x, c, c', hc, h => by
    simp only [RT] at h ⊢
    obtain ⟨v, h0, h1⟩ := h
    exact ⟨v, hc _ _ h0, RA_fr hf ts Ts x v h1⟩
theorem RTs_fr {s s2 : St} (hf : Fr s s2) : ∀ (ts : List Ty) (x : Ty.Els ts) (c c' : Nat → Option Value), (∀ j v, c j = some v → c' j = some v) → RTs s ts x c → RTs s2 ts x c'
  | [], _, _, _, _, _ => by simp only [RTs]
  | t :: ts, x, c, c', hc, h => by
    simp only [RTs] at h ⊢
    exact ⟨RT_fr hf t x.1 c c' hc h.1, RTs_fr hf ts x.2 _ _ (fun _ _ hv => hc _ _ hv) h.2⟩
theorem RA_fr {s s2 : St} (hf : Fr s s2) : ∀ (ts : List Ty) (Ts : List TypeId) (x : Ty.Alts ts Ts) (v : Value), RA s ts Ts x v → RA s2 ts Ts x v
  | [], _, x, _, _ => nomatch x
  | _ :: _, [], x, _, _ => nomatch x
  | t :: ts, T :: Ts, .inl y, v, h => by
    simp only [RA] at h ⊢
    obtain ⟨w, h0, h1⟩ := h
    exact ⟨w, h0, RV_fr hf t y w h1⟩
  | t :: ts, T :: Ts, .inr x, v, h => by
    simp only [RA] at h ⊢
    exact RA_fr hf ts Ts x v h
theorem RV_fr {s s2 : St} (hf : Fr s s2) : ∀ (t : Ty) (x : t.El) (v : Value), RV s t x v → RV s2 t x v
  | .bool, _, _, h => by simp only [RV] at h ⊢; exact h
  | .int _, _, _, h => by simp only [RV] at h ⊢; exact h
  | .str, _, _, h => by simp only [RV] at h ⊢; exact h
  | .sl e, l, v, h => by
    simp only [RV] at h ⊢
    obtain ⟨a, cap, h0, h1, h2⟩ := h
    refine ⟨a, cap, h0, h1, fun hne => ?_⟩
    obtain ⟨b, o, ha, hlt, hb, hx⟩ := h2 hne
    exact ⟨b, o, ha, Nat.lt_of_lt_of_le hlt hf.size, hf.own b hb, fun i x hi => RT_fr hf e x _ _ (fun _ _ hv => hf.cell hb hv) (hx i x hi)⟩
  | .st fs, x, v, h => by
    simp only [RV] at h ⊢
    obtain ⟨vs, h1, h2, h3, h4⟩ := h
    exact ⟨vs, h1, h2, RTs_fr hf fs x _ _ (fun _ _ hv => hv) h3, h4⟩
  | .ifc Ts ts, x, v, h => by simp only [RV] at h ⊢; exact RA_fr hf ts Ts x v h
end
theorem RLst_fr {s s2 : St} (hf : Fr s s2) {t : Ty} {l : List t.El} {v : Value} (h : RLst s t l v) : RLst s2 t l v := by
  obtain ⟨a, cap, h0, h1, h2⟩ := h
  refine ⟨a, cap, h0, h1, fun hne => ?_⟩
  obtain ⟨b, o, ha, hlt, hb, hx⟩ := h2 hne
  exact ⟨b, o, ha, Nat.lt_of_lt_of_le hlt hf.size, hf.own b hb, fun i x hi => RT_fr hf t x _ _ (fun _ _ hv => hf.cell hb hv) (hx i x hi)⟩
mutual
theorem R_fr {s s2 : St} (hh : s.h = []) (hf : Fr s s2) : ∀ (a : AV) (v : Value), R s a v → R s2 a v
  | .any, _, _ => by simp only [R]
  | .und, v, h => by simpa only [R] using h
  | .bool b, v, h => by simpa only [R] using h
  | .int k n, v, h => by simpa only [R] using h
  | .str x, v, h => by simpa only [R] using h
  | .nilp, v, h => by simpa only [R] using h
  | .nsl, v, h => by simpa only [R] using h
  | .zsl _, v, h => by simpa only [R] using h
  | .nilfn, v, h => by simpa only [R] using h
  | .nili, v, h => by simpa only [R] using h
  | .nilm, v, h => by simpa only [R] using h
  | .oth id, v, h => by simp only [R] at h; rw [hh] at h; simp [kn] at h
  | .ptr id off, v, h => by simp only [R] at h; rw [hh] at h; simp [kn] at h
  | .optr id g t i off, v, h => by simp only [R] at h; rw [hh] at h; simp [kn] at h
  | .own id g n, v, h => by simp only [R] at h; rw [hh] at h; simp [kn] at h
  | .osl id g lo n, v, h => by simp only [R] at h; rw [hh] at h; simp [kn] at h
  | .tosl id g lo n, v, h => by simp only [R] at h; rw [hh] at h; simp [kn] at h
  | .pv cs, v, h => by
    simp only [R] at h ⊢
    obtain ⟨b, o, hv, hlt, hb, hc⟩ := h
    exact ⟨b, o, hv, Nat.lt_of_lt_of_le hlt hf.size, hf.own b hb, RC_fr hh hf cs _ _ (fun _ _ hv => hf.cell hb hv) hc⟩
  | .agg cs, v, h => by
    simp only [R] at h ⊢
    obtain ⟨vs, hv, hl, h1⟩ := h
    exact ⟨vs, hv, RL_fr hh hf cs vs hl, h1⟩
  | .tup cs, v, h => by
    simp only [R] at h ⊢
    obtain ⟨vs, hv, hl⟩ := h
    exact ⟨vs, hv, RL_fr hh hf cs vs hl⟩
  | .lst t l, v, h => by simp only [R] at h ⊢; exact RLst_fr hf h
  | .tlst t l, v, h => by simp only [R] at h ⊢; exact ⟨RLst_fr hf h.1, h.2⟩
  | .fn f a b, v, h => by
    simp only [R] at h ⊢
    obtain ⟨xs, ys, hv, h1, h2⟩ := h
    exact ⟨xs, ys, hv, RL_fr hh hf a xs h1, RL_fr hh hf b ys h2⟩
  | .iface t x, v, h => by
    simp only [R] at h ⊢
    obtain ⟨y, hv, h1⟩ := h
    exact ⟨y, hv, R_fr hh hf x y h1⟩
theorem RL_fr {s s2 : St} (hh : s.h = []) (hf : Fr s s2) : ∀ (cs : List AV) (vs : List Value), RL s cs vs → RL s2 cs vs
  | [], vs, h => by simpa only [RL] using h
  | c :: cs, vs, h => by
    simp only [RL] at h ⊢
    obtain ⟨v, vs', hv, h1, h2⟩ := h
    exact ⟨v, vs', hv, R_fr hh hf c v h1, RL_fr hh hf cs vs' h2⟩
theorem RC_fr {s s2 : St} (hh : s.h = []) (hf : Fr s s2) : ∀ (cs : List AV) (c c' : Nat → Option Value), (∀ j v, c j = some v → c' j = some v) → RC s cs c → RC s2 cs c'
  | [], _, _, _, _ => by simp only [RC]
  | x :: cs, c, c', hc, h => by
    simp only [RC] at h ⊢
    obtain ⟨⟨v, h0, h1, h2⟩, h3⟩ := h
    exact ⟨⟨v, hc _ _ h0, R_fr hh hf x v h1, h2⟩, RC_fr hh hf cs _ _ (fun _ _ hv => hc _ _ hv) h3⟩
end

/-! ### What a function value sees -/
def viewsD (f : AV → (AV → Prop) → Prop) (l : List AV) : (List AV → Prop) → Prop :=
  @List.rec AV (fun _ => (List AV → Prop) → Prop) (fun k => k []) (fun c _ ih k => f c fun c => ih fun cs => k (c :: cs)) l
def viewD1 (i0 : Nat) (h : Hp) (ih : AV → (AV → Prop) → Prop) (v : AV) (k : AV → Prop) : Prop := match v with
  | .ptr id off => match Nat.beq id i0, h[id]? with
    | false, some (.cells _ cs) => viewsD ih (cs.drop off) fun cs => k (.pv cs)
    | _, _ => False
  | .own id g m => match Nat.beq id i0, h[id]? with
    | false, some (.arr _ t l _ g') => need (g' = g ∧ m ≤ l.length) (k (.lst t (l.take m)))
    | _, _ => False
  | .fn f [] caps => viewsD ih caps fun caps => k (.fn f [] caps)
  | .agg cs => viewsD ih cs fun cs => k (.agg cs)
  | .lst t l => k (.lst t l)
  | .tlst t l => k (.lst t l)
  | .bool b => k (.bool b)
  | .int i n => k (.int i n)
  | .str s => k (.str s)
  | .nilfn => k .nilfn
  | .nilp => k .nilp
  | .nili => k .nili
  | .zsl t => k (.lst t [])
  | _ => False
def viewD (n i0 : Nat) (h : Hp) : AV → (AV → Prop) → Prop :=
  @Nat.rec (fun _ => AV → (AV → Prop) → Prop) (fun _ _ => False) (fun _ ih => viewD1 i0 h ih) n
theorem viewsD_ok {s s0 : St} {f : AV → (AV → Prop) → Prop} (hf : ∀ v c k, R s v c → f v k → ∃ v', k v' ∧ R s0 v' c) : ∀ (l : List AV) (cs : List Value) (k : List AV → Prop), RL s l cs → viewsD f l k → ∃ l', k l' ∧ RL s0 l' cs
  | [], cs, k, hr, h => ⟨[], h, by simpa only [RL] using hr⟩
  | v :: l, cs, k, hr, h => by
    simp only [RL] at hr
    obtain ⟨c, cs', rfl, h1, h2⟩ := hr
    have h : f v fun v' => viewsD f l fun l' => k (v' :: l') := h
    obtain ⟨v', h3, h4⟩ := hf v c _ h1 h
    obtain ⟨l', h5, h6⟩ := viewsD_ok hf l cs' _ h2 h3
    exact ⟨v' :: l', h5, by simp only [RL]; exact ⟨c, cs', rfl, h4, h6⟩⟩
theorem viewsD_RC {s s0 : St} {f : AV → (AV → Prop) → Prop} (hf : ∀ v c k, R s v c → f v k → ∃ v', k v' ∧ R s0 v' c) : ∀ (l : List AV) (c : Nat → Option Value) (k : List AV → Prop), RC s l c → viewsD f l k → ∃ l', k l' ∧ RC s0 l' c
  | [], c, k, hr, h => ⟨[], h, by simp only [RC]⟩
  | v :: l, c, k, hr, h => by
    simp only [RC] at hr
    obtain ⟨⟨u, h0, h1, h1'⟩, h2⟩ := hr
    have h : f v fun v' => viewsD f l fun l' => k (v' :: l') := h
    obtain ⟨v', h3, h4⟩ := hf v u _ h1 h
    obtain ⟨l', h5, h6⟩ := viewsD_RC hf l _ _ h2 h3
    exact ⟨v' :: l', h5, by simp only [RC]; exact ⟨⟨u, h0, h4, h1'⟩, h6⟩⟩
/-- The state of a function that is called while a block of the caller's is being written. -/
def St.only (s : St) (b : Nat) : St := s.callee (fun x => x = b)
theorem viewD_ok {s : St} (hok : Ok s) {i0 b0 : Nat} {o0 : AObj} (ho0 : s.h[i0]? = some o0) (ha0 : o0.alive = true) (hb0 : blkOf (s.σ i0) = some b0) : ∀ (n : Nat) (v : AV) (c : Value) (k : AV → Prop), R s v c → viewD n i0 s.h v k → ∃ v', k v' ∧ R (s.only b0) v' c
  | 0, v, c, k, _, h => h.elim
  | n + 1, v, c, k, hr, h => by
    have ih := viewD_ok hok ho0 ha0 hb0 n
    replace h : viewD1 i0 s.h (viewD n i0 s.h) v k := h
    have hF : ∀ b, (fun x => x = b0) b → Own s b := fun b hb => by
      have hb : b = b0 := hb
      rw [hb]
      exact .inr ⟨i0, o0, ho0, ha0, hb0⟩
    have hne : ∀ {id : Nat} {o : AObj} {b : Nat}, Nat.beq id i0 = false → s.h[id]? = some o → o.alive = true → blkOf (s.σ id) = some b → b ≠ b0 := by
      intro id o b hid ho ha hb e
      subst e
      have := hok.inj id i0 o o0 b ho ho0 ha ha0 hb hb0
      subst this
      simp at hid
    have hlst : ∀ {t : Ty} {l : List t.El} {c : Value}, RLst s t l c → RLst (s.only b0) t l c := fun h =>
      RLst_pure (s := s) (s2 := s.only b0) rfl (fun b hb h => hb (hF b ((callee_own (F := fun x => x = b0)).1 h))) h
    unfold viewD1 at h
    split at h
    · rename_i id off
      split at h
      · rename_i Tc cs hid hoc
        simp only [R] at hr
        obtain ⟨_, b, hv, hσ⟩ := hr
        have hσ := hσ _ _ hoc
        obtain ⟨b', hσ', hrc⟩ := cells_RC hok hoc
        rw [hσ] at hσ'
        cases hσ'
        obtain ⟨cs', h1, h2⟩ := viewsD_RC ih _ _ _ (RC_drop off hrc) h
        refine ⟨_, h1, ?_⟩
        simp only [R]
        exact ⟨b, off, hv, own_lt hok ⟨id, _, hoc, rfl, by rw [hσ]; rfl⟩, fun h => hne hid hoc rfl (by rw [hσ]; rfl) ((callee_own (F := fun x => x = b0)).1 h), h2⟩
      · exact h.elim
    · rename_i id g m
      split at h
      · rename_i Tc t l f g' hid hoc
        obtain ⟨⟨rfl, hm⟩, hkk⟩ := need_elim h
        refine ⟨_, hkk, ?_⟩
        simp only [R] at hr ⊢
        obtain ⟨_, base, cap, rfl, hr⟩ := hr
        obtain ⟨_, len, hσ⟩ := (hr _ _ _ _ _ hoc).2 rfl
        obtain ⟨_, hcap, hb⟩ := own_RC hok hoc hσ
        have := own_view hok (F := fun x => x = b0) hF (fun b hb h => hne hid hoc rfl hb h) hoc (lo := 0) (n := m) (ad := base) (cap' := cap) hσ (by omega) (by omega) (fun hpos => by
          have hl0 : l ≠ [] := by rintro rfl; simp at hm; omega
          obtain ⟨b, hb, _⟩ := hb hl0
          exact ⟨b, hb, by rw [hb, Nat.zero_mul]⟩)
        rw [List.drop_zero] at this
        exact this
      · exact h.elim
    · simp only [R] at hr
      obtain ⟨xs, ys, hv, h1, h2⟩ := hr
      obtain ⟨l', h3, h4⟩ := viewsD_ok ih _ _ _ h2 h
      exact ⟨_, h3, by simp only [R]; exact ⟨xs, ys, hv, by simpa only [RL] using h1, h4⟩⟩
    · simp only [R] at hr
      obtain ⟨vs, hv, h1, h2⟩ := hr
      obtain ⟨l', h3, h4⟩ := viewsD_ok ih _ _ _ h1 h
      exact ⟨_, h3, by simp only [R]; exact ⟨vs, hv, h4, h2⟩⟩
    · exact ⟨_, h, by simp only [R] at hr ⊢; exact hlst hr⟩
    · exact ⟨_, h, by simp only [R] at hr ⊢; exact hlst hr.1⟩
    · exact ⟨_, h, by simpa only [R] using hr⟩
    · exact ⟨_, h, by simpa only [R] using hr⟩
    · exact ⟨_, h, by simpa only [R] using hr⟩
    · exact ⟨_, h, by simpa only [R] using hr⟩
    · exact ⟨_, h, by simpa only [R] using hr⟩
    · exact ⟨_, h, by simpa only [R] using hr⟩
    · refine ⟨_, h, ?_⟩
      simp only [R] at hr ⊢
      subst hr
      exact ⟨none, 0, rfl, Nat.le_refl _, fun h => absurd rfl h⟩
    · exact h.elim
end Av
namespace Av
open Go Go.Sort Go.Proofs

/-- A sort: whatever the order of equal elements, what follows holds. -/
inductive sortP (call : CallA) (c : FuncId) (t : Ty) (caps : List AV) (l : List t.El) (k : List t.El → Prop) : Prop where
  | mk (Q : t.El → Prop) (cf : t.El → t.El → Int) (hl : ∀ x ∈ l, Q x)
      (hc : ∀ x y, Q x → Q y → call c (elA t x :: elA t y :: caps) [] fun v _ => v = .int .i64 (cf x y))
      (hirr : ∀ x, Q x → ¬ cf x x < 0) (htr : ∀ x y z, Q x → Q y → Q z → cf x y < 0 → cf y z < 0 → cf x z < 0)
      (hnt : ∀ x y z, Q x → Q y → Q z → ¬ cf x y < 0 → ¬ cf y z < 0 → ¬ cf x z < 0)
      (hk : ∀ l', l'.Perm l → l'.Pairwise (fun x y => ¬ cf y x < 0) → k l') : sortP call c t caps l k
def sortA (t0 : Ty) (call : CallA) (xs : List AV) (h : Hp) (K : AV → Hp → Prop) : Prop := match xs with
  | [.own id g n, .fn (.func c) [] caps] => match h[id]? with
    | some (.arr T t l f g') => need (g' = g ∧ n = l.length ∧ Ty.beq t t0 = true ∧ l.length < 4611686018427387904) (viewsD (viewD 6 id h) caps fun caps => sortP call c t caps l fun l' => putK h id (.arr T t l' f g') fun h => K (.tup []) h)
    | _ => False
  | [.nsl, .fn (.func _) [] _] => K (.tup []) h
  | [.zsl _, .fn (.func _) [] _] => K (.tup []) h
  | _ => False

/-! ### The world behind a sort -/
theorem putCells_list {F : Array Value} {cur : Array Value} (h : F.size ≤ cur.size) : (putCells id 0 F cur).toList = F.toList ++ cur.toList.drop F.size := by
  apply List.ext_getElem?
  intro k
  simp only [putCells, Array.getElem?_toList, Array.getElem?_mapIdx, Nat.zero_le, true_and, Nat.zero_add, Nat.sub_zero, id]
  by_cases hk : k < cur.size
  · rw [Array.getElem?_eq_getElem hk, Option.map_some]
    by_cases hF : k < F.size
    · rw [if_pos hF, List.getElem?_append_left (by simpa using hF), getElem!_pos F k hF]
      simp
    · rw [if_neg hF, List.getElem?_append_right (by simp; omega), List.getElem?_drop]
      simp only [Array.length_toList]
      rw [show F.size + (k - F.size) = k by omega, Array.getElem?_toList, Array.getElem?_eq_getElem hk]
  · rw [Array.getElem?_eq_none (by omega), List.getElem?_eq_none (by simp; omega)]
    rfl
theorem world_heap {w : World} {b : Nat} {cur : Array Value} {T : TypeId} (hg : w.heap[b]? = some (.cells cur T (0, 0))) (n : Nat) (F : Array Value) (os : Array Obj) :
    (grow (putRow id (Sort.ahead w n) b 0 F) os).heap[b]? = some (.cells (putCells id 0 F cur) T (0, 0)) := by
  have hb : b < w.heap.size := (Array.getElem?_eq_some_iff.1 hg).1
  show ((w.heap.modify b (onCells (putCells id 0 F))) ++ os)[b]? = _
  rw [Array.getElem?_append_left (by simpa using hb), Array.getElem?_modify, if_pos rfl, hg]
  rfl
theorem world_other {w : World} {b : Nat} (n : Nat) (F : Array Value) (os : Array Obj) {k : Nat} (hk : k < w.heap.size) (hne : k ≠ b) :
    (grow (putRow id (Sort.ahead w n) b 0 F) os).heap[k]? = w.heap[k]? := by
  show ((w.heap.modify b (onCells (putCells id 0 F))) ++ os)[k]? = _
  rw [Array.getElem?_append_left (by simpa using hk), Array.getElem?_modify, if_neg (Ne.symm hne)]
theorem world_size {w : World} {b : Nat} (n : Nat) (F : Array Value) (os : Array Obj) : w.heap.size ≤ (grow (putRow id (Sort.ahead w n) b 0 F) os).heap.size := by
  show w.heap.size ≤ ((w.heap.modify b (onCells (putCells id 0 F))) ++ os).size
  simp
theorem world_gb (w : World) (b n : Nat) (F : Array Value) (os : Array Obj) : Gb w (grow (putRow id (Sort.ahead w n) b 0 F) os) (some b) :=
  ⟨rfl, rfl, rfl, Nat.le_add_right _ _, world_size n F os, fun k hk hne => world_other n F os hk (fun e => hne (by rw [e]))⟩
/-- An array that has been put in order. -/
theorem sort_turn {s : St} (hok : Ok s) {id : Nat} {T : TypeId} {t : Ty} {l l' : List t.El} {f : Bool} {g : Nat} (ho : s.h[id]? = some (.arr T t l f g)) (hft : flatT t = true) {b len cap : Nat} (hσ : s.σ id = .slice (some ⟨b, 0, none⟩) len cap)
    (hl : l'.length = l.length) {F : Array Value} (hF : F.toList = rowsV t l') (n : Nat) (os : Array Obj) {w' : World} (hw' : w' = grow (putRow _root_.id (Sort.ahead s.w n) b 0 F) os) :
    Step s (s.turn id (.arr T t l' f g) (s.σ id) w') ∧ Ok (s.turn id (.arr T t l' f g) (s.σ id) w') := by
  obtain ⟨xs, hown, hone, hrow, hfull⟩ := hok.obj id _ ho
  have hxl := hown.1
  rw [hσ] at hown
  rcases hown.2 with ⟨he, _⟩ | ⟨b', cap', cur, he, hb0, hg, hnc, hcm, hcs, htake⟩
  · cases he
  · cases he
    have hw : Gb s.w w' (blkOf (s.σ id)) := by rw [hσ, hw']; exact world_gb _ _ _ _ _
    have hcmp : Cmp (.arr T t l f g) (s.σ id) (.arr T t l' f g) (s.σ id) := .arr _ _ _ _ _ _ _ _ _ _ (Nat.le_refl _) (fun _ => ⟨rfl, hl⟩)
    have hst := St.turn_step ho hcmp hw (fun b hb => .inl hb)
    refine ⟨hst, St.turn_ok hok ho hcmp hw (fun b hb => .inl hb) ?_⟩
    have hFl : F.size = l.length * t.size := by
      have := congrArg List.length hF
      rw [rowsV_len hft, hl] at this
      simpa using this
    have hcap : l.length * t.size ≤ cap * t.size := Nat.mul_le_mul_right _ hnc
    refine ⟨rowsV t l', ?_, fun u hu => ?_, fun i x hi => (valsT_RT t x _ hft).2 fun j v hv => ?_, fun hf => ?_⟩
    · simp only [St.turn, upd_same]
      rw [hσ]
      refine ⟨by rw [rowsV_len hft], .inr ⟨b, cap, putCells _root_.id 0 F cur, by rw [hl], Nat.zero_le _, by rw [hw']; exact world_heap hg _ _ _, by rw [hl]; exact hnc, hcm, ?_, ?_⟩⟩
      · simp only [putCells, Array.size_mapIdx]
        exact hcs
      · rw [putCells_list (by rw [hFl, hcs]; exact hcap), List.take_append_of_le_length (by simp [hFl, hl]), hF, List.take_of_length_le (by rw [rowsV_len hft, hl]; exact Nat.le_refl _)]
    · obtain ⟨x, _, hx⟩ := List.mem_flatMap.1 hu
      exact valsT_one t x u hx
    · rw [rowsV_get hft l' i x j hi (by rw [← valsT_len t x hft]; exact (List.getElem?_eq_some_iff.1 hv).1)]
      exact hv
    · obtain ⟨base, hb⟩ := hfull hf
      refine ⟨base, ?_⟩
      simp only [St.turn, upd_same]
      rw [hl]
      exact hb
end Av
namespace Av
open Go Go.Sort Go.Proofs

theorem step_grow {s s' : St} (hh : s.h = []) (hst : Step s s') : ∃ q os, s'.w = grow (s.w.drewN q) os := by
  refine ⟨s'.w.drawn - s.w.drawn, s'.w.heap.extract s.w.heap.size s'.w.heap.size, ?_⟩
  have hd : s'.w.drawn = s.w.drawn + (s'.w.drawn - s.w.drawn) := by have := hst.drawn; omega
  have hheap : s'.w.heap = s.w.heap ++ s'.w.heap.extract s.w.heap.size s'.w.heap.size := by
    apply Array.ext_getElem?
    intro k
    by_cases hk : k < s.w.heap.size
    · rw [Array.getElem?_append_left hk]
      exact (hst.keep k hk (fun ⟨id, o, h, _⟩ => by rw [hh] at h; simp at h)).2
    · rw [Array.getElem?_append_right (by omega)]
      by_cases hk2 : k < s'.w.heap.size
      · rw [Array.getElem?_extract, if_pos (by omega), show s.w.heap.size + (k - s.w.heap.size) = k by omega]
      · rw [Array.getElem?_eq_none (by omega), Array.getElem?_eq_none (by simp; omega)]
  have h1 := hst.os
  have h2 := hst.tape
  have h3 := hst.output
  generalize s'.w.heap.extract s.w.heap.size s'.w.heap.size = ext at hheap ⊢
  generalize s'.w.drawn - s.w.drawn = q at hd ⊢
  unfold grow World.drewN
  obtain ⟨σ', h', w', F'⟩ := s'
  obtain ⟨heap', tape', drawn', os', out'⟩ := w'
  simp only at hd hheap h1 h2 h3
  simp only [hd, hheap, h1, h2, h3]
theorem only_fr {s : St} {b n : Nat} (F : Array Value) (os : Array Obj) : Fr (s.only b) ⟨s.σ, [], grow (putRow id (Sort.ahead s.w n) b 0 F) os, fun x => x = b⟩ where
  size := world_size _ _ _
  own := fun x hx => by
    rintro (h | ⟨id, o, h, _⟩)
    · exact hx (.inl h)
    · simp at h
  heap := fun x hx hlt => world_other _ _ _ hlt (fun e => hx (.inl e))
theorem only_ok {s : St} {b n : Nat} (hb : b < s.w.heap.size) (F : Array Value) (os : Array Obj) : Ok ⟨s.σ, [], grow (putRow id (Sort.ahead s.w n) b 0 F) os, fun x => x = b⟩ where
  obj := fun id o h => by simp at h
  inj := fun i j o p b h => by simp at h
  fb := fun x hx => by
    have hx : x = b := hx
    rw [hx]
    exact Nat.lt_of_lt_of_le hb (world_size _ _ _)
  dis := fun b ⟨id, o, h, _⟩ => by simp at h
section
variable {P : Program} {ρ : Shelf.Ren}
/-- What the comparison returns, in every world that a sort passes through. -/
theorem cmp_calls {call : CallA} (hcall : CallOk P call) {c : FuncId} {t : Ty} (hft : flatT t = true) {caps : List AV} {s : St} {b : Nat} (hb : b < s.w.heap.size) {ys : List Value} (hys : RL (s.only b) caps ys) {x y : t.El} {r : Int}
    (hc : call c (elA t x :: elA t y :: caps) [] fun v _ => v = .int .i64 r) (n : Nat) (F : Array Value) (os : Array Obj) :
    Calls P c (#[elV t x, elV t y] ++ ys.toArray) (grow (putRow id (Sort.ahead s.w n) b 0 F) os) fun e w' => e = .returned (.int .i64 r) ∧ ∃ q os', w' = grow ((grow (putRow id (Sort.ahead s.w n) b 0 F) os).drewN q) os' := by
  obtain ⟨_, H⟩ := hcall _ _ _ _ hc
  have hfr := only_fr (s := s) (b := b) (n := n) F os
  have hRL : RL ⟨s.σ, [], grow (putRow id (Sort.ahead s.w n) b 0 F) os, fun x => x = b⟩ (elA t x :: elA t y :: caps) (elV t x :: elV t y :: ys) := by
    simp only [RL]
    exact ⟨_, _, rfl, elA_R t x hft, _, _, rfl, elA_R t y hft, RL_fr rfl hfr _ _ hys⟩
  have := H _ rfl (only_ok hb F os) _ hRL
  rw [show (elV t x :: elV t y :: ys).toArray = #[elV t x, elV t y] ++ ys.toArray by simp] at this
  refine Calls.mono this ?_
  rintro e w' ⟨s', v, cr, rfl, rfl, hst, _, hR, rfl⟩
  simp only [R] at hR
  subst hR
  obtain ⟨q, os', hw⟩ := step_grow rfl hst
  exact ⟨rfl, q, os', hw⟩
def att {α : Type} {Q : α → Prop} : (l : List α) → (∀ x ∈ l, Q x) → List {x // Q x}
  | [], _ => []
  | x :: l, h => ⟨x, h x (by simp)⟩ :: att l (fun y hy => h y (by simp [hy]))
theorem att_map {α : Type} {Q : α → Prop} : ∀ (l : List α) (h : ∀ x ∈ l, Q x), (att l h).map (·.1) = l
  | [], _ => rfl
  | x :: l, h => by simp [att, att_map l]
theorem att_len {α : Type} {Q : α → Prop} (l : List α) (h : ∀ x ∈ l, Q x) : (att l h).length = l.length := by
  have := congrArg List.length (att_map l h)
  simpa using this
theorem att_get {α : Type} {Q : α → Prop} {l : List α} (h : ∀ x ∈ l, Q x) {i : Nat} {x : {x // Q x}} (hx : (att l h)[i]? = some x) : l[i]? = some x.1 := by
  have := congrArg (fun m => m[i]?) (att_map l h)
  simp only [List.getElem?_map, hx, Option.map_some] at this
  exact this.symm
theorem swo_of {α : Type} {Q : α → Prop} {cf : α → α → Int} (hirr : ∀ x, Q x → ¬ cf x x < 0) (htr : ∀ x y z, Q x → Q y → Q z → cf x y < 0 → cf y z < 0 → cf x z < 0)
      (hnt : ∀ x y z, Q x → Q y → Q z → ¬ cf x y < 0 → ¬ cf y z < 0 → ¬ cf x z < 0) : SWO (ltOf fun x y : {x // Q x} => cf x.1 y.1) where
  irrefl x := by unfold ltOf; exact decide_eq_false (hirr x.1 x.2)
  trans x y z h1 h2 := by
    unfold ltOf at *
    exact decide_eq_true (htr x.1 y.1 z.1 x.2 y.2 z.2 (of_decide_eq_true h1) (of_decide_eq_true h2))
  ntrans x y z h1 h2 := by
    unfold ltOf at *
    exact decide_eq_false (hnt x.1 y.1 z.1 x.2 y.2 z.2 (of_decide_eq_false h1) (of_decide_eq_false h2))
theorem get_bang {α : Type} [Inhabited α] {l : List α} {i : Nat} {x : α} (h : l[i]? = some x) : (l.toArray)[i]! = x := by
  obtain ⟨hlt, rfl⟩ := List.getElem?_eq_some_iff.1 h
  rw [getElem!_pos _ i (by simpa using hlt)]
  simp
theorem sorted_list {α : Type} {Q : α → Prop} [Inhabited {x // Q x}] {cf : α → α → Int} {l : List α} {hl : ∀ x ∈ l, Q x} {d' : Array {x // Q x}} (hp : PermIn 0 (att l hl).toArray.size (att l hl).toArray d') (hs : SortedIn (ltOf fun x y : {x // Q x} => cf x.1 y.1) 0 (att l hl).toArray.size d') :
    (d'.toList.map (·.1)).Perm l ∧ (d'.toList.map (·.1)).Pairwise (fun x y => ¬ cf y x < 0) ∧ d'.size = l.length := by
  obtain ⟨hsz, _, hperm⟩ := hp
  have e1 : d'.extract 0 (att l hl).toArray.size = d' := by rw [← hsz]; exact Array.extract_size
  rw [e1, Array.extract_size] at hperm
  have hlen : d'.size = l.length := by rw [hsz]; simp [att_len]
  refine ⟨?_, ?_, hlen⟩
  · have := hperm.map (fun x : {x // Q x} => x.1)
    rwa [show ((att l hl).toArray.toList.map fun x : {x // Q x} => x.1) = l from att_map l hl] at this
  · rw [List.pairwise_map, List.pairwise_iff_getElem]
    intro i j hi hj hij
    have hi' : i < d'.size := by simpa using hi
    have hj' : j < d'.size := by simpa using hj
    have := hs i j (Nat.zero_le _) hij (by rw [← hsz]; exact hj')
    rw [getElem!_pos d' j hj', getElem!_pos d' i hi'] at this
    have := of_decide_eq_false this
    simpa using this
end
end Av
namespace Av
open Go Go.Sort Go.Proofs Go.Shelf

def cell1 : Ty → Bool
  | .bool => true
  | .int _ => true
  | .str => true
  | _ => false
theorem cell1_flat : ∀ {t : Ty}, cell1 t = true → flatT t = true
  | .bool, _ => rfl
  | .int _, _ => rfl
  | .str, _ => rfl
theorem cell1_size : ∀ {t : Ty}, cell1 t = true → t.size = 1
  | .bool, _ => rfl
  | .int _, _ => rfl
  | .str, _ => rfl
theorem cell1_vals : ∀ {t : Ty} (_ : cell1 t = true) (x : t.El), valsT t x = [elV t x]
  | .bool, _, _ => rfl
  | .int _, _, _ => rfl
  | .str, _, _ => rfl
theorem cell1_one {t : Ty} (h : cell1 t = true) (x : t.El) : (elV t x).oneCell' = true :=
  valsT_one t x _ (by rw [cell1_vals h]; simp)
theorem rowsV_one {t : Ty} (h : cell1 t = true) : ∀ l : List t.El, rowsV t l = l.map (elV t)
  | [] => rfl
  | x :: l => by
    have := rowsV_one h l
    simp only [rowsV] at this
    simp only [rowsV, List.flatMap_cons, cell1_vals h, List.map_cons, this]
    rfl
theorem putRow_enc {α : Type} [Inhabited α] (enc : α → Value) (w : World) (b off : Nat) (d : Array α) : putRow enc w b off d = putRow id w b off (d.map enc) := by
  have : putCells enc off d = putCells id off (d.map enc) := by
    funext c
    unfold putCells
    congr 1
    funext k x
    rw [Array.size_map]
    by_cases hk : off ≤ k ∧ k < off + d.size
    · rw [if_pos hk, if_pos hk, getElem!_pos d _ (by omega), getElem!_pos (d.map enc) _ (by simp; omega)]
      simp
    · rw [if_neg hk, if_neg hk]
  unfold putRow
  rw [this]
def lkz : List (FuncId × Ty) → FuncId → Option Ty
  | [], _ => none
  | (a, t) :: l, g => match Nat.beq a g with
    | true => some t
    | false => lkz l g
section
variable {i0 : Nat} {h : Hp}
theorem viewsD_ex {f : AV → (AV → Prop) → Prop} (hf : ∀ v k, f v k → ∃ v', k v') : ∀ (l : List AV) (k : List AV → Prop), viewsD f l k → ∃ l', k l'
  | [], k, h => ⟨[], h⟩
  | v :: l, k, h => by
    have h : f v fun v' => viewsD f l fun l' => k (v' :: l') := h
    obtain ⟨v', h3⟩ := hf v _ h
    obtain ⟨l', h5⟩ := viewsD_ex hf l _ h3
    exact ⟨v' :: l', h5⟩
theorem viewD_ex : ∀ (n : Nat) (v : AV) (k : AV → Prop), viewD n i0 h v k → ∃ v', k v'
  | 0, v, k, h => h.elim
  | n + 1, v, k, hv => by
    have ih := viewD_ex n
    replace hv : viewD1 i0 h (viewD n i0 h) v k := hv
    unfold viewD1 at hv
    split at hv <;> first
      | exact hv.elim
      | exact ⟨_, hv⟩
      | (split at hv
         · first
           | (obtain ⟨cs', h1⟩ := viewsD_ex ih _ _ hv
              exact ⟨_, h1⟩)
           | exact ⟨_, (need_elim hv).2⟩
         · exact hv.elim)
      | (obtain ⟨cs', h1⟩ := viewsD_ex ih _ _ hv
         exact ⟨_, h1⟩)
end
theorem put_set {h : Hp} {id : Nat} {o : AObj} (hlt : id < h.length) : put h id o = h.set id o := by
  unfold put
  rw [if_pos hlt]
variable {P : Program} {ρ : Ren}
theorem sort_f_enters (L : SlLaysF0.n6 P ρ) : Enters P (ρ.f 6) := by
  obtain ⟨nm, h1, h2⟩ := L.f6
  exact ⟨_, _, h2, h1, rfl⟩
set_option maxHeartbeats 1000000 in
/-- slices.SortFunc at elements of one cell, of an array of the code's own. -/
theorem sort1_ok (L : SlLaysF.n6 P ρ) {t0 : Ty} (ht : cell1 t0 = true) {call : CallA} (hcall : CallOk P call) {xs : List AV} {h : Hp} {K : AV → Hp → Prop} (hk : sortA t0 call xs h K) :
    Enters P (ρ.f 6) ∧ ∀ s, s.h = h → Ok s → ∀ cs, RL s xs cs →
      Calls P (ρ.f 6) cs.toArray s.w fun e w' => ∃ s' v cr, e = .returned cr ∧ s'.w = w' ∧ Step s s' ∧ Ok s' ∧ R s' v cr ∧ K v s'.h := by
  refine ⟨sort_f_enters { L with }, fun s hs hok cs hr => ?_⟩
  subst hs
  have htup : ∀ s' : St, R s' (.tup []) (.tuple #[]) := fun s' => by simp only [R]; exact ⟨[], rfl, by simp only [RL]⟩
  unfold sortA at hk
  split at hk
  · rename_i id g n c caps
    split at hk
    · rename_i T t l f g' ho
      obtain ⟨⟨rfl, rfl, htt, hsz⟩, hk2⟩ := need_elim hk
      clear hk
      have htt := Ty.eq_of_beq _ _ htt
      subst htt
      have hft := cell1_flat ht
      simp only [RL] at hr
      obtain ⟨v, _, rfl, hv, vf, _, rfl, hvf, rfl⟩ := hr
      simp only [R] at hv hvf
      obtain ⟨_, base, cap, rfl, hσ⟩ := hv
      obtain ⟨_, len, hσ⟩ := (hσ _ _ _ _ _ ho).2 rfl
      obtain ⟨xs, ys, rfl, hxs, hys⟩ := hvf
      simp only [RL] at hxs
      subst hxs
      have hlt := (List.getElem?_eq_some_iff.1 ho).1
      by_cases hl : l = []
      · subst hl
        obtain ⟨caps', hs⟩ := viewsD_ex (viewD_ex 6) _ _ hk2
        obtain ⟨Q, cf, _, _, _, _, _, hkk⟩ := hs
        have hkk := hkk [] (List.Perm.refl _) List.Pairwise.nil
        rw [putK_eq, put_set hlt] at hkk
        have hset : s.h.set id (.arr T t [] f g') = s.h := by
          apply List.ext_getElem?
          intro j
          by_cases hj : id = j
          · subst hj
            rw [List.getElem?_set_self hlt, ho]
          · rw [List.getElem?_set_ne hj]
        rw [hset] at hkk
        refine Calls.mono (AnyF.slices_SortFunc_none { L with } base cap (.func (.func c) #[] ys.toArray) s.w) ?_
        rintro e w' ⟨rfl, rfl⟩
        exact ⟨s, .tup [], .tuple #[], rfl, rfl, Step.refl s, hok, htup s, hkk⟩
      · obtain ⟨hlen, hcap, hb⟩ := own_RC hok ho hσ
        obtain ⟨b, hbase, _⟩ := hb hl
        subst hlen
        subst hbase
        obtain ⟨caps', hs, hcaps⟩ := viewsD_ok (s := s) (s0 := s.only b) (fun v c k => viewD_ok hok ho rfl (by rw [hσ]; rfl) 6 v c k) _ _ _ hys hk2
        obtain ⟨Q, cf, hQ, hc, hirr, htr, hnt, hkk⟩ := hs
        have hblt : b < s.w.heap.size := own_lt hok ⟨id, _, ho, rfl, by rw [hσ]; rfl⟩
        obtain ⟨x0, hx0⟩ : ∃ x, x ∈ l := by
          cases l with
          | nil => exact absurd rfl hl
          | cons x l => exact ⟨x, by simp⟩
        haveI : Inhabited {x // Q x} := ⟨⟨x0, hQ x0 hx0⟩⟩
        obtain ⟨qs, hown, hone, hrow, _⟩ := hok.obj id _ ho
        have hown' := hown
        rw [hσ] at hown'
        have hqs := rowsV_of (s := s) hft (by rw [cell1_size ht]; omega) hown.1 hrow
        rw [rowsV_one ht] at hqs
        have hen : Enters P c := (hcall _ _ _ _ (hc x0 x0 (hQ _ hx0) (hQ _ hx0))).1
        have hsize : (att l hQ).toArray.size = l.length := by simp [att_len]
        have hown2 := hok.obj id _ ho
        have hcell : ∀ j (hj : j < l.length), s.w.cell? ⟨b, 0 + j, none⟩ = some (elV t l[j]) := by
          intro j hj
          have hq : qs[j]? = some (elV t l[j]) := by
            rw [hqs, List.getElem?_map, List.getElem?_eq_getElem hj]
            rfl
          have := hown'.cells (g := b) rfl j _ hq
          rw [Addr.add_mid, Nat.zero_add] at this
          rw [Nat.zero_add]
          exact this
        have hfroz : ∀ j, s.w.frozen? ⟨b, 0 + j, none⟩ = false := by
          intro j
          rcases hown'.2 with ⟨he, _⟩ | ⟨b', cap', cur, he, hb0, hg, hnc, hcm, hcs, htake⟩
          · cases he
          · cases he
            simp [World.frozen?, hg]
        have hbang : ∀ j (hj : j < l.length), ((att l hQ).toArray[j]!).1 = l[j] := by
          intro j hj
          have h1 : (att l hQ)[j]? = some ((att l hQ)[j]'(by rw [att_len]; exact hj)) := List.getElem?_eq_getElem _
          have h2 := att_get hQ h1
          rw [get_bang h1]
          rw [List.getElem?_eq_getElem hj] at h2
          exact (Option.some.inj h2).symm
        have key := Any.slices_SortFunc L (fun x : {x // Q x} => elV t x.1) (fun x => cell1_one ht x.1) (fun x y => cf x.1 y.1) (swo_of hirr htr hnt) c ys.toArray b 0 cap (att l hQ).toArray s.w
          (fun args w => enter_run hen args w) (fun m os dk hdk x y => by
            unfold sortWorld
            rw [putRow_enc]
            exact cmp_calls hcall hft hblt hcaps (hc x.1 y.1 x.2 y.2) m _ os)
          (fun j hj => by
            rw [hsize] at hj
            refine ⟨?_, hfroz j⟩
            rw [hcell j hj]
            show some (elV t l[j]) = some (elV t ((att l hQ).toArray[j]!).1)
            rw [hbang j hj])
          hblt (by rw [hsize]; exact hsz)
        rw [hsize] at key
        refine Calls.mono key ?_
        rintro e w' ⟨rfl, d', n, os, hp, hso, hw⟩
        rw [← hsize] at hp hso
        obtain ⟨hperm, hpair, hdl⟩ := sorted_list hp hso
        have hkk := hkk _ hperm hpair
        rw [putK_eq, put_set hlt] at hkk
        unfold sortWorld at hw
        rw [putRow_enc] at hw
        have hF : (d'.map fun x : {x // Q x} => elV t x.1).toList = rowsV t (d'.toList.map (·.1)) := by
          rw [rowsV_one ht, Array.toList_map, List.map_map]
          rfl
        generalize (d'.map fun x : {x // Q x} => elV t x.1) = F at hF hw
        generalize (d'.toList.map (·.1)) = l2 at hF hperm hkk
        obtain ⟨hst, hok'⟩ := sort_turn hok ho hft hσ hperm.length_eq hF n os hw
        exact ⟨_, .tup [], .tuple #[], rfl, rfl, hst, hok', htup _, hkk⟩
    · exact hk.elim
  · rename_i g caps
    simp only [RL] at hr
    obtain ⟨v, _, rfl, hv, vf, _, rfl, hvf, rfl⟩ := hr
    simp only [R] at hv hvf
    obtain ⟨xs, ys, rfl, hxs, hys⟩ := hvf
    simp only [RL] at hxs
    subst hxs
    subst hv
    refine Calls.mono (AnyF.slices_SortFunc_none { L with } none 0 (.func (.func g) #[] ys.toArray) s.w) ?_
    rintro e w' ⟨rfl, rfl⟩
    exact ⟨s, .tup [], .tuple #[], rfl, rfl, Step.refl s, hok, htup s, hk⟩
  · rename_i g caps
    simp only [RL] at hr
    obtain ⟨v, _, rfl, hv, vf, _, rfl, hvf, rfl⟩ := hr
    simp only [R] at hv hvf
    obtain ⟨xs, ys, rfl, hxs, hys⟩ := hvf
    simp only [RL] at hxs
    subst hxs
    subst hv
    refine Calls.mono (AnyF.slices_SortFunc_none { L with } none 0 (.func (.func g) #[] ys.toArray) s.w) ?_
    rintro e w' ⟨rfl, rfl⟩
    exact ⟨s, .tup [], .tuple #[], rfl, rfl, Step.refl s, hok, htup s, hk⟩
  · exact hk.elim
/-- Functions that are walked through, to a depth, and sorts. -/
noncomputable def callZ (Z : List (FuncId × Ty)) (C : Cx) : Nat → CallA
  | 0, _, _, _, _ => False
  | n + 1, g, xs, h, K => match lkz Z g with
    | some t => sortA t (fun g xs h K => callZ Z C n g xs h K) xs h K
    | none => match lkf C.fns g with
      | some fn => bodyA C (fun g xs h K => callZ Z C n g xs h K) fn xs h K
      | none => False
def SortOk (P : Program) (f : FuncId) (t : Ty) : Prop :=
  ∀ (call : CallA), CallOk P call → ∀ (xs : List AV) (h : Hp) (K : AV → Hp → Prop), sortA t call xs h K →
    Enters P f ∧ ∀ s, s.h = h → Ok s → ∀ cs, RL s xs cs →
      Calls P f cs.toArray s.w fun e w' => ∃ s' v cr, e = .returned cr ∧ s'.w = w' ∧ Step s s' ∧ Ok s' ∧ R s' v cr ∧ K v s'.h
def SortsOk (P : Program) (Z : List (FuncId × Ty)) : Prop := ∀ g t, lkz Z g = some t → SortOk P g t
theorem SortsOk.nil : SortsOk P [] := fun g t h => by cases h
theorem SortsOk.cons {f : FuncId} {t : Ty} {Z : List (FuncId × Ty)} (h : SortOk P f t) (hZ : SortsOk P Z) : SortsOk P ((f, t) :: Z) := by
  intro g t' hg
  simp only [lkz] at hg
  split at hg
  · rename_i hb
    have := Nat.eq_of_beq_eq_true hb
    cases hg
    exact this ▸ h
  · exact hZ g t' hg
theorem SortOk.one {ρ : Ren} (L : SlLaysF.n6 P ρ) {t : Ty} (ht : cell1 t = true) : SortOk P (ρ.f 6) t := fun _ hc _ _ _ hk => sort1_ok L ht hc hk
theorem callZ_ok {Z : List (FuncId × Ty)} {C : Cx} (hm : P.follows .mixedOrders = true) (hT : TbOk P C.tb) (hD : SpecsOk P C.specs) (hF : FnsOk P C.fns) (hZ : SortsOk P Z) : ∀ n, CallOk P (callZ Z C n)
  | 0 => fun g xs h K hk => hk.elim
  | n + 1 => fun g xs h K hk => by
    simp only [callZ] at hk
    split at hk
    · rename_i t hl
      exact hZ g t hl _ (callZ_ok hm hT hD hF hZ n) _ _ _ hk
    · split at hk
      · rename_i fn hl
        have hfn := hF g fn hl
        refine ⟨hfn.enters, fun s hs hok cs hr => ?_⟩
        subst hs
        exact bodyA_ok hm hT hD (callZ_ok hm hT hD hF hZ n) hfn hk hok hr
      · exact hk.elim
end Av
