/-
  Tables by their counts: plain Lean; the errors of lists, by the reference.
  The errors of lists and tables, by the reference.
  Add, Drop by the reference.
-/
import Derived.Test.YtadckioheabliaaR5
namespace Go.Proofs.Ytadckioheabliaa
open Av

theorem cnt_mem {t : List rcT.El} (ha : ascC t) {x : rcT.El} (hx : x ∈ t) : countC t (idC x) = nC x := by
  obtain ⟨i, hi⟩ := List.mem_iff_getElem?.1 hx
  have hil := (List.getElem?_eq_some_iff.1 hi).1
  have h1 : fdC (idC x) t = i := by
    rcases Nat.lt_trichotomy (fdC (idC x) t) i with h | h | h
    · obtain ⟨y, hy⟩ : ∃ y, t[fdC (idC x) t]? = some y := ⟨_, List.getElem?_eq_getElem (by omega)⟩
      have h2 := fdC_ge ha (Nat.le_refl _) hy
      have h3 := List.pairwise_iff_getElem.1 ha (fdC (idC x) t) i (by omega) hil h
      rw [(List.getElem?_eq_some_iff.1 hy).2, (List.getElem?_eq_some_iff.1 hi).2] at h3
      omega
    · exact h
    · have := fdC_lt h hi
      omega
  unfold countC
  rw [h1, hi]
  exact if_pos rfl
theorem cnt_none {t : List rcT.El} {n : Int} (h : ∀ x ∈ t, idC x ≠ n) : countC t n = 0 := by
  unfold countC
  cases hx : t[fdC n t]? with
  | none => rfl
  | some x => exact if_neg (h x (List.mem_of_getElem? hx))
theorem cnt_cases (t : List rcT.El) (n : Int) : (∃ x ∈ t, idC x = n) ∨ ∀ x ∈ t, idC x ≠ n := by
  rcases Classical.em (∃ x ∈ t, idC x = n) with h | h
  · exact .inl h
  · exact .inr (fun x hx e => h ⟨x, hx, e⟩)
def posC (t : List rcT.El) : Prop := ∀ x ∈ t, 1 ≤ nC x
theorem good_pos {t : List rcT.El} (h : ∀ x ∈ t, goodX x) : posC t := fun x hx => (h x hx).2.1
theorem el_eq {x y : rcT.El} (h1 : idC x = idC y) (h2 : nC x = nC y) : x = y := by
  obtain ⟨a, b, u⟩ := x
  obtain ⟨c, d, v⟩ := y
  have h1 : a = c := h1
  have h2 : b = d := h2
  rw [h1, h2]
theorem asc_extC : ∀ {a b : List rcT.El}, ascC a → ascC b → (∀ x, x ∈ a ↔ x ∈ b) → a = b
  | [], [], _, _, _ => rfl
  | [], y :: b, _, _, h => absurd ((h y).2 (by simp)) (by simp)
  | x :: a, [], _, _, h => absurd ((h x).1 (by simp)) (by simp)
  | x :: a, y :: b, ha, hb, h => by
    have ha' := List.pairwise_cons.1 ha
    have hb' := List.pairwise_cons.1 hb
    have hxy : x = y := by
      rcases List.mem_cons.1 ((h x).1 (by simp)) with e | hx
      · exact e
      · rcases List.mem_cons.1 ((h y).2 (by simp)) with e | hy
        · exact e.symm
        · have h1 := hb'.1 x hx
          have h2 := ha'.1 y hy
          omega
    subst hxy
    rw [asc_extC ha'.2 hb'.2 (fun p => ?_)]
    constructor
    · intro hp
      rcases List.mem_cons.1 ((h p).1 (by simp [hp])) with rfl | h1
      · have := ha'.1 p hp
        omega
      · exact h1
    · intro hp
      rcases List.mem_cons.1 ((h p).2 (by simp [hp])) with rfl | h1
      · have := hb'.1 p hp
        omega
      · exact h1
theorem tab_ext {a b : List rcT.El} (ha : ascC a) (hb : ascC b) (pa : posC a) (pb : posC b) (h : ∀ n, countC a n = countC b n) : a = b := by
  have key : ∀ {a b : List rcT.El}, ascC a → ascC b → posC a → (∀ n, countC a n = countC b n) → ∀ x ∈ a, x ∈ b := by
    intro a b ha hb pa h x hx
    have h1 := cnt_mem ha hx
    rw [h] at h1
    rcases cnt_cases b (idC x) with ⟨y, hy, he⟩ | hno
    · have h2 := cnt_mem hb hy
      rw [he, h1] at h2
      rw [el_eq he.symm h2]
      exact hy
    · rw [cnt_none hno] at h1
      have := pa x hx
      omega
  exact asc_extC ha hb (fun x => ⟨key ha hb pa h x, key hb ha pb (fun n => (h n).symm) x⟩)
theorem restC_spec {n : Int} : ∀ {r : List rcT.El}, ascC r → (∀ x ∈ r, n ≤ idC x) → ascC (restC n r) ∧ (∀ x, x ∈ restC n r ↔ x ∈ r ∧ idC x ≠ n) ∧ ∀ x ∈ restC n r, n < idC x
  | [], _, _ => ⟨List.Pairwise.nil, by simp [restC], by simp [restC]⟩
  | q :: r, ha, hd => by
    have ha' := List.pairwise_cons.1 ha
    have hq := hd q (by simp)
    have hup : ∀ x ∈ r, n < idC x := fun x hx => Int.lt_of_le_of_lt hq (ha'.1 x hx)
    have hr : restC n (q :: r) = if idC q = n then r else q :: r := rfl
    rw [hr]
    by_cases he : idC q = n
    · rw [if_pos he]
      refine ⟨ha'.2, fun x => ?_, hup⟩
      rw [List.mem_cons]
      constructor
      · intro hx
        exact ⟨.inr hx, fun e => by have := hup x hx; omega⟩
      · rintro ⟨rfl | hx, hne⟩
        · exact absurd he hne
        · exact hx
    · rw [if_neg he]
      refine ⟨ha, fun x => ?_, fun x hx => ?_⟩
      · rw [List.mem_cons]
        constructor
        · rintro (rfl | hx)
          · exact ⟨.inl rfl, he⟩
          · exact ⟨.inr hx, fun e => by have := hup x hx; omega⟩
        · exact fun h => h.1
      · rcases List.mem_cons.1 hx with rfl | hx
        · omega
        · exact hup x hx
theorem with_spec {t : List rcT.El} (ha : ascC t) (n m : Int) : ascC (withC t n m) ∧ ∀ x, x ∈ withC t n m ↔ (0 < m ∧ x = (n, m, ())) ∨ (x ∈ t ∧ idC x ≠ n) := by
  have h1 : ∀ x ∈ t.take (fdC n t), idC x < n := by
    intro x hx
    obtain ⟨i, hi⟩ := List.mem_iff_getElem?.1 hx
    rw [List.getElem?_take] at hi
    split at hi
    · exact fdC_lt (by assumption) hi
    · cases hi
  have h2 : ∀ x ∈ t.drop (fdC n t), n ≤ idC x := by
    intro x hx
    obtain ⟨i, hi⟩ := List.mem_iff_getElem?.1 hx
    rw [List.getElem?_drop] at hi
    exact fdC_ge ha (by omega) hi
  have hcut := List.take_append_drop (fdC n t) t
  unfold withC
  generalize fdC n t = j at h1 h2 hcut ⊢
  have ha2 := ha
  unfold ascC at ha2
  rw [← hcut, List.pairwise_append] at ha2
  obtain ⟨r1, r2, r3⟩ := restC_spec ha2.2.1 h2
  refine ⟨?_, fun p => ?_⟩
  · unfold ascC
    rw [List.pairwise_append, List.pairwise_append]
    refine ⟨ha2.1, ⟨?_, r1, ?_⟩, ?_⟩
    · split
      · exact List.pairwise_singleton _ _
      · exact List.Pairwise.nil
    · intro a hA b hB
      split at hA
      · rw [List.mem_singleton] at hA
        rw [hA]; exact r3 b hB
      · cases hA
    · intro a hA b hB
      rcases List.mem_append.1 hB with hB | hB
      · split at hB
        · rw [List.mem_singleton] at hB
          rw [hB]; exact h1 a hA
        · cases hB
      · exact Int.lt_trans (h1 a hA) (r3 b hB)
  · rw [List.mem_append, List.mem_append, r2]
    conv => rhs; rw [← hcut, List.mem_append]
    constructor
    · rintro (h | h | h)
      · exact .inr ⟨.inl h, by have := h1 p h; omega⟩
      · split at h
        · rename_i hd
          exact .inl ⟨hd, List.mem_singleton.1 h⟩
        · cases h
      · exact .inr ⟨.inr h.1, h.2⟩
    · rintro (⟨hd, rfl⟩ | ⟨h | h, hne⟩)
      · right; left; rw [if_pos hd]; simp
      · exact .inl h
      · exact .inr (.inr ⟨h, hne⟩)
theorem with_cnt {t : List rcT.El} (ha : ascC t) (n m k : Int) : countC (withC t n m) k = if k = n then (if 0 < m then m else 0) else countC t k := by
  obtain ⟨h1, h2⟩ := with_spec ha n m
  by_cases hk : k = n
  · subst hk
    rw [if_pos rfl]
    by_cases hm : 0 < m
    · rw [if_pos hm]
      exact cnt_mem h1 (x := (k, m, ())) ((h2 _).2 (.inl ⟨hm, rfl⟩))
    · rw [if_neg hm]
      refine cnt_none (fun x hx e => ?_)
      rcases (h2 x).1 hx with h | h
      · exact hm h.1
      · exact h.2 e
  · rw [if_neg hk]
    rcases cnt_cases t k with ⟨x, hx, he⟩ | hno
    · subst he
      rw [cnt_mem ha hx]
      exact cnt_mem h1 ((h2 x).2 (.inr ⟨hx, hk⟩))
    · rw [cnt_none hno]
      refine cnt_none (fun x hx e => ?_)
      rcases (h2 x).1 hx with h | h
      · rw [h.2] at e; exact hk e.symm
      · exact hno x h.1 e
theorem with_pos {t : List rcT.El} (ha : ascC t) (hp : posC t) (n m : Int) : posC (withC t n m) := by
  intro x hx
  rcases ((with_spec ha n m).2 x).1 hx with h | h
  · rw [h.2]; exact h.1
  · exact hp x h.1
/-! ### Counts of numbers turned, each once -/
def bmp (δ : Int) (ids : List Int) (t : List rcT.El) : Nat → List rcT.El
  | 0 => t
  | k + 1 => match ids[k]? with
    | some n => if inI (ids.take k) n = true then bmp δ ids t k else withC (bmp δ ids t k) n (countC (bmp δ ids t k) n + δ)
    | none => bmp δ ids t k
theorem bmp_asc {δ : Int} {ids : List Int} {t : List rcT.El} (ha : ascC t) (hp : posC t) : ∀ k, ascC (bmp δ ids t k) ∧ posC (bmp δ ids t k)
  | 0 => ⟨ha, hp⟩
  | k + 1 => by
    have ih := bmp_asc (δ := δ) (ids := ids) ha hp k
    unfold bmp
    split
    · split
      · exact ih
      · exact ⟨(with_spec ih.1 _ _).1, with_pos ih.1 ih.2 _ _⟩
    · exact ih
theorem cnt_nonneg {t : List rcT.El} (ha : ascC t) (hp : posC t) (n : Int) : 0 ≤ countC t n := by
  rcases cnt_cases t n with ⟨x, hx, rfl⟩ | h
  · rw [cnt_mem ha hx]; have := hp x hx; omega
  · rw [cnt_none h]; exact Int.le_refl _
theorem bmp_cnt {δ : Int} {ids : List Int} {t : List rcT.El} (ha : ascC t) (hp : posC t) (hd : ∀ n ∈ ids, 0 ≤ countC t n + δ) : ∀ k n, countC (bmp δ ids t k) n = countC t n + (if n ∈ ids.take k then δ else 0)
  | 0, n => by simp [bmp]
  | k + 1, n => by
    have ih := bmp_cnt ha hp hd k
    have has := bmp_asc (δ := δ) (ids := ids) ha hp k
    unfold bmp
    cases hx : ids[k]? with
    | none => rw [List.take_add_one, hx]; simpa using ih n
    | some x =>
      have hmem : n ∈ ids.take (k + 1) ↔ n ∈ ids.take k ∨ n = x := by rw [List.take_add_one, hx]; simp
      simp only
      by_cases hin : inI (ids.take k) x = true
      · rw [if_pos hin, ih n]
        have hxk := inI_iff.1 hin
        by_cases hn : n ∈ ids.take k
        · rw [if_pos hn, if_pos (hmem.2 (.inl hn))]
        · rw [if_neg hn, if_neg (fun e => by rcases hmem.1 e with e | e; exact hn e; exact hn (e ▸ hxk))]
      · rw [if_neg hin, with_cnt has.1]
        have hxk : x ∉ ids.take k := fun e => hin (inI_iff.2 e)
        by_cases hn : n = x
        · subst hn
          rw [if_pos rfl, if_pos (hmem.2 (.inr rfl)), ih n, if_neg hxk, Int.add_zero]
          have h1 := hd n (List.mem_of_getElem? hx)
          by_cases h2 : 0 < countC t n + δ
          · rw [if_pos h2]
          · rw [if_neg h2]; omega
        · rw [if_neg hn, ih n]
          by_cases hn2 : n ∈ ids.take k
          · rw [if_pos hn2, if_pos (hmem.2 (.inl hn2))]
          · rw [if_neg hn2, if_neg (fun e => by rcases hmem.1 e with e | e; exact hn2 e; exact hn e)]
theorem bmp_len {δ : Int} {ids : List Int} {t : List rcT.El} : ∀ k, (bmp δ ids t k).length ≤ t.length + k
  | 0 => Nat.le_refl _
  | k + 1 => by
    have ih := bmp_len (δ := δ) (ids := ids) (t := t) k
    unfold bmp
    split
    · split
      · omega
      · have := withC_len (bmp δ ids t k) (by assumption) (countC (bmp δ ids t k) (by assumption) + δ)
        omega
    · omega
end Go.Proofs.Ytadckioheabliaa
namespace Go.Proofs.Ytadckioheabliaa
open Av

def lsE (ids : List Int) : Int := if 500 < ids.length then 3 else if ids.all knownI = false then 7 else 0
theorem lsE_zero {ids : List Int} (h : lsE ids = 0) : ids.length ≤ 500 ∧ ∀ x ∈ ids, knownI x = true := by
  unfold lsE at h
  split at h
  · exact absurd h (by decide)
  · split at h
    · exact absurd h (by decide)
    · rename_i h1 h2
      refine ⟨by omega, ?_⟩
      cases h3 : ids.all knownI with
      | true => exact List.all_eq_true.1 h3
      | false => exact absurd h3 h2
def askE (t : List rcT.El) (ids : List Int) : Int := if (ckL t).2 = 0 then lsE ids else (ckL t).2
def mostB (t : List rcT.El) : Bool := t.all (fun x => decide (nC x ≤ 1000000))
def limE (t : List rcT.El) : Int := if 500 < t.length then 3 else if mostB t = false then 7 else 0
theorem mostB_iff {t : List rcT.El} : mostB t = true ↔ ∀ x ∈ t, nC x ≤ 1000000 := by
  unfold mostB
  rw [List.all_eq_true]
  constructor
  · intro h x hx; exact of_decide_eq_true (h x hx)
  · intro h x hx; exact decide_eq_true (h x hx)
end Go.Proofs.Ytadckioheabliaa
namespace Go.Proofs.Ytadckioheabliaa
open Av

def addL (t : List rcT.El) (ids : List Int) : List rcT.El × Int :=
  if askE t ids ≠ 0 then ([], askE t ids) else if limE (bmp 1 ids t ids.length) ≠ 0 then ([], limE (bmp 1 ids t ids.length)) else (bmp 1 ids t ids.length, 0)
def spAdd : DSpec
  | [.lst (.st [.int .i64, .int .i64]) t, .lst (.int .i64) l] => some (True, .tup [.lst rcT (addL t l).1, .int .i64 (addL t l).2])
  | _ => none
theorem bmp_step {δ : Int} {ids : List Int} {t : List rcT.El} {k : Nat} {n : Int} (h : ids[k]? = some n) : bmp δ ids t (k + 1) = if inI (ids.take k) n = true then bmp δ ids t k else withC (bmp δ ids t k) n (countC (bmp δ ids t k) n + δ) := by
  show (match ids[k]? with | some n => if inI (ids.take k) n = true then bmp δ ids t k else withC (bmp δ ids t k) n (countC (bmp δ ids t k) n + δ) | none => bmp δ ids t k) = _
  rw [h]
theorem cnt_bnd {t : List rcT.El} {B : Int} (hB : 0 ≤ B) (h : ∀ x ∈ t, nC x ≤ B) (n : Int) : countC t n ≤ B := by
  unfold countC
  split
  · rename_i x hx
    split
    · exact h x (List.mem_of_getElem? hx)
    · exact hB
  · exact hB
def noneB (t : List rcT.El) (ids : List Int) : Bool := ids.any (fun n => decide (countC t n = 0))
theorem noneB_iff {t : List rcT.El} {ids : List Int} : noneB t ids = true ↔ ∃ n ∈ ids, countC t n = 0 := by
  unfold noneB
  rw [List.any_eq_true]
  constructor
  · rintro ⟨n, hn, h⟩; exact ⟨n, hn, of_decide_eq_true h⟩
  · rintro ⟨n, hn, h⟩; exact ⟨n, hn, decide_eq_true h⟩
def frdL (t u : List rcT.El) : List Int := (t.filter (fun x => decide (countC u (idC x) = 0))).map idC
theorem frdL_len (t u : List rcT.El) : (frdL t u).length ≤ t.length := by
  unfold frdL; rw [List.length_map]; exact List.length_filter_le _ _
def dropL (t : List rcT.El) (ids : List Int) : List rcT.El × List Int × Int :=
  if askE t ids ≠ 0 then ([], [], askE t ids) else if noneB t ids = true then ([], [], 4) else (bmp (-1) ids t ids.length, frdL t (bmp (-1) ids t ids.length), 0)
def spDrop : DSpec
  | [.lst (.st [.int .i64, .int .i64]) t, .lst (.int .i64) l] => some (True, .tup [.lst rcT (dropL t l).1, .lst (.int .i64) (dropL t l).2.1, .int .i64 (dropL t l).2.2])
  | _ => none
theorem bmp_dec_le {ids : List Int} {t : List rcT.El} (ha : ascC t) (hp : posC t) (h0 : ∀ n ∈ ids, countC t n ≠ 0) : ∀ k n, 0 ≤ countC (bmp (-1) ids t k) n ∧ countC (bmp (-1) ids t k) n ≤ countC t n := by
  intro k n
  have h1 := bmp_cnt (δ := -1) ha hp (fun n hn => by have := cnt_nonneg ha hp n; have := h0 n hn; omega) k n
  have h2 := cnt_nonneg (bmp_asc (δ := -1) (ids := ids) ha hp k).1 (bmp_asc (δ := -1) (ids := ids) ha hp k).2 n
  refine ⟨h2, ?_⟩
  rw [h1]; split <;> omega
theorem tup_l3 {t u : Ty} {A B : List t.El} {C D : List u.El} {a b : Int} (h : A = B) (h1 : C = D) (h2 : a = b) : AV.tup [.lst t A, .lst u C, .int .i64 a] = AV.tup [.lst t B, .lst u D, .int .i64 b] := by rw [h, h1, h2]
end Go.Proofs.Ytadckioheabliaa
