/-
  What the results of the lookups have to do with each other: plain Lean.
-/
import Derived.Test.YtekkeajcmibbaaaLqa
namespace Go.Proofs.Ytekkeajcmibbaaa
open Av Bk

def zP : pairT.El := mkP ⟨#[]⟩ ⟨#[]⟩
def pO (o : Option pairT.El) : pairT.El := match o with | some p => p | none => zP
def eO (o : Option pairT.El) : Int := match o with | some _ => 0 | none => 4
def lastQ (q : pairT.El → Bool) (l : List pairT.El) : Option pairT.El := l.foldl (fun o p => if q p = true then some p else o) none
theorem lastQ_snoc (q : pairT.El → Bool) (l : List pairT.El) (x : pairT.El) : lastQ q (l ++ [x]) = if q x = true then some x else lastQ q l := by
  unfold lastQ
  rw [List.foldl_append]
  rfl
theorem lastQ_take {q : pairT.El → Bool} {l : List pairT.El} {i : Nat} {x : pairT.El} (hx : l[i]? = some x) : lastQ q (l.take (i + 1)) = if q x = true then some x else lastQ q (l.take i) := by
  rw [take_snoc1 hx, lastQ_snoc]
theorem lastQ_some {q : pairT.El → Bool} : ∀ (l : List pairT.El) (x : pairT.El), lastQ q l = some x → x ∈ l ∧ q x = true := by
  refine list_snoc ?_ ?_
  · intro x h; cases h
  · intro l y ih x h
    rw [lastQ_snoc] at h
    split at h
    · cases h; exact ⟨by simp, by assumption⟩
    · obtain ⟨h1, h2⟩ := ih x h
      exact ⟨by simp [h1], h2⟩
theorem lastQ_none {q : pairT.El → Bool} : ∀ (l : List pairT.El), lastQ q l = none → ∀ x ∈ l, q x = false := by
  refine list_snoc ?_ ?_
  · intro _ x hx; cases hx
  · intro l y ih h x hx
    rw [lastQ_snoc] at h
    split at h
    · cases h
    · rename_i hq
      rcases List.mem_append.1 hx with hx | hx
      · exact ih h x hx
      · simp only [List.mem_singleton] at hx
        subst hx
        simpa using hq
theorem nP_le (q : pairT.El → Bool) : ∀ l, nP q l ≤ l.length
  | [] => Nat.le_refl _
  | p :: l => by
    unfold nP
    split
    · have := nP_le q l; simp; omega
    · exact Nat.zero_le _
theorem nP_find (q : pairT.El → Bool) : ∀ l : List pairT.El, l[nP q l]? = l.find? (fun p => !q p)
  | [] => rfl
  | p :: l => by
    unfold nP
    by_cases h : q p = true
    · rw [if_pos h, List.getElem?_cons_succ, nP_find q l, List.find?_cons_of_neg (by simp [h])]
    · rw [if_neg h, List.find?_cons_of_pos (by simp [h])]
      rfl
/-- What is so of a pair is so of those before it. -/
def downQ (q : pairT.El → Bool) : Prop := ∀ x y : pairT.El, sLt x.1 y.1 = true → q y = true → q x = true
theorem plc_down (w : Bool) (k : ByteArray) : downQ (plcW w k) := by
  intro x y h hy
  cases w with
  | false => exact sLt_trans h hy
  | true =>
    have hy : (!sLt k y.1) = true := hy
    show (!sLt k x.1) = true
    cases h2 : sLt k x.1 with
    | false => rfl
    | true => rw [sLt_trans h2 h] at hy; cases hy
theorem nP_last {q : pairT.El → Bool} (hq : downQ q) : ∀ (l : List pairT.El), ascP l → lastQ q l = if nP q l = 0 then none else l[nP q l - 1]? := by
  refine list_snoc ?_ ?_
  · intro _; rfl
  · intro l x ih ha
    have hl := List.pairwise_append.1 ha
    rw [lastQ_snoc]
    have hn : ∀ (q : pairT.El → Bool) (l : List pairT.El) (x : pairT.El), (∀ p ∈ l, q p = true) → q x = true → nP q (l ++ [x]) = l.length + 1 := by
      intro q l x h1 h2
      refine nP_at ?_ (by simp) (.inl (by simp))
      intro p hp
      rw [List.take_of_length_le (by simp)] at hp
      rcases List.mem_append.1 hp with hp | hp
      · exact h1 p hp
      · simp only [List.mem_singleton] at hp
        rw [hp]; exact h2
    by_cases hx : q x = true
    · have hall : ∀ p ∈ l, q p = true := fun p hp => hq p x (hl.2.2 p hp x (by simp)) hx
      rw [if_pos hx, hn q l x hall hx, if_neg (by omega)]
      simp
    · rw [if_neg hx]
      have he : nP q (l ++ [x]) = nP q l := by
        clear ih ha hl
        induction l with
        | nil => simp [nP, hx]
        | cons p l ih2 =>
          simp only [List.cons_append, nP]
          rw [ih2]
      rw [he, ih hl.1]
      split
      · rfl
      · have := nP_le q l
        rw [List.getElem?_append_left (by omega)]
theorem near_last {w : Bool} {k : ByteArray} {m : List pairT.El} (ha : ascP m) : nearO w false k m = lastQ (plcW w k) m := by
  rw [nP_last (plc_down w k) m ha]
  rfl
theorem near_find {w : Bool} {k : ByteArray} {m : List pairT.El} : nearO w true k m = m.find? (fun p => !plcW w k p) := nP_find _ m
theorem nearR_o {b : List entT.El} {rs : List runT.El} {k : ByteArray} {w bh : Bool} (h : askE b rs k = 0) : nearR b rs k w bh = (pO (nearO w bh k (mapL (allE b rs))), eO (nearO w bh k (mapL (allE b rs)))) := by
  rw [near_go h]
  cases nearO w bh k (mapL (allE b rs)) <;> rfl
theorem has_all (k : ByteArray) : hasB ⟨#[]⟩ ⟨#[]⟩ false k = true := by
  have : sLt k ⟨#[]⟩ = false := by
    show Op.bytesLess k.data.toList [] = false
    cases k.data.toList <;> rfl
  simp [hasB, this]
theorem part_all {b : List entT.El} {rs : List runT.El} (h : (vcL b rs).2 = 0) : partR b rs ⟨#[]⟩ ⟨#[]⟩ false = (mapL (allE b rs), 0) := by
  rw [part_g h (by decide)]
  have : (mapL (allE b rs)).filter (fun p => hasB ⟨#[]⟩ ⟨#[]⟩ false p.1) = mapL (allE b rs) := List.filter_eq_self.2 (fun p _ => has_all p.1)
  rw [this]
theorem split_at {k : ByteArray} (q : pairT.El → Bool) : ∀ {m : List pairT.El}, ascP m → m.filter q = m.filter (fun p => q p && sLt p.1 k) ++ m.filter (fun p => q p && !sLt p.1 k)
  | [], _ => rfl
  | x :: m, ha => by
    have ha' := List.pairwise_cons.1 ha
    have ih := split_at (k := k) q ha'.2
    by_cases hx : sLt x.1 k = true
    · simp only [List.filter_cons, hx, Bool.and_true, Bool.not_true, Bool.and_false]
      rw [ih]
      by_cases hq : q x = true <;> simp [hq]
    · have hx : sLt x.1 k = false := by simpa using hx
      have hall : ∀ p ∈ x :: m, sLt p.1 k = false := by
        intro p hp
        rcases List.mem_cons.1 hp with rfl | hp
        · exact hx
        · cases h : sLt p.1 k with
          | false => rfl
          | true => rw [sLt_trans (ha'.1 p hp) h] at hx; cases hx
      have h1 : (x :: m).filter (fun p => q p && sLt p.1 k) = [] := List.filter_eq_nil_iff.2 (fun p hp => by simp [hall p hp])
      rw [h1, List.nil_append]
      exact List.filter_congr (fun p hp => by simp [hall p hp])
theorem joins {lo hi k : ByteArray} {bd : Bool} {m : List pairT.El} (ha : ascP m) (h : hasB lo hi bd k = true) : m.filter (fun p => hasB lo k true p.1) ++ m.filter (fun p => hasB k hi bd p.1) = m.filter (fun p => hasB lo hi bd p.1) := by
  rw [split_at (k := k) (fun p => hasB lo hi bd p.1) ha]
  have h : (!sLt k lo && (!bd || sLt k hi)) = true := h
  rw [Bool.and_eq_true] at h
  obtain ⟨h1, h2⟩ := h
  have h1 : sLt k lo = false := by simpa using h1
  congr 1
  · refine List.filter_congr (fun p _ => ?_)
    show (!sLt p.1 lo && (!true || sLt p.1 k)) = (!sLt p.1 lo && (!bd || sLt p.1 hi) && sLt p.1 k)
    cases hk : sLt p.1 k with
    | false => simp
    | true =>
      cases bd with
      | false => simp
      | true =>
        have h2 : sLt k hi = true := by simpa using h2
        simp [sLt_trans hk h2]
  · refine List.filter_congr (fun p _ => ?_)
    show (!sLt p.1 k && (!bd || sLt p.1 hi)) = (!sLt p.1 lo && (!bd || sLt p.1 hi) && !sLt p.1 k)
    cases hk : sLt p.1 k with
    | true => simp
    | false =>
      have : sLt p.1 lo = false := bl_ge_trans hk h1
      simp [this]
theorem rg_parts {lo hi : ByteArray} {bd : Bool} (h : rgE lo hi bd = 0) : keyE lo = 0 ∧ keyE hi = 0 ∧ ¬ (bd = false ∧ sEq hi ⟨#[]⟩ = false) := by
  unfold rgE at h
  by_cases h1 : keyE lo ≠ 0
  · rw [if_pos h1] at h; exact absurd h h1
  · rw [if_neg h1] at h
    by_cases h2 : keyE hi ≠ 0
    · rw [if_pos h2] at h; exact absurd h h2
    · rw [if_neg h2] at h
      by_cases h3 : bd = false ∧ sEq hi ⟨#[]⟩ = false
      · rw [if_pos h3] at h; cases h
      · exact ⟨by simpa using h1, by simpa using h2, h3⟩
theorem rg_of {lo hi : ByteArray} {bd : Bool} (h1 : keyE lo = 0) (h2 : keyE hi = 0) (h3 : ¬ (bd = false ∧ sEq hi ⟨#[]⟩ = false)) : rgE lo hi bd = 0 := by
  unfold rgE
  rw [if_neg (by simp [h1]), if_neg (by simp [h2]), if_neg h3]
end Go.Proofs.Ytekkeajcmibbaaa
