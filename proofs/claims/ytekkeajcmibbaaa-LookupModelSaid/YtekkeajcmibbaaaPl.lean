/-
  A view with runs merged, its buffer made a run, its last run without the dead: plain Lean.
-/
import Derived.Test.YtekkeajcmibbaaaPk
namespace Go.Proofs.Ytekkeajcmibbaaa
open Av Bk

theorem firstK_cons (x : entT.El) (l : List entT.El) (k : ByteArray) : firstK (x :: l) k = if x.1 = k then some x else firstK l k := by
  rw [show x :: l = [x] ++ l from rfl, firstK_append, firstK_one]
  by_cases h : x.1 = k
  · rw [if_pos h, if_pos h]; rfl
  · rw [if_neg h, if_neg h]; rfl
theorem drop_some {l : List entT.El} {i : Nat} {x : entT.El} (h : l[i]? = some x) : l.drop i = x :: l.drop (i + 1) := by
  have hi := (List.getElem?_eq_some_iff.1 h).1
  have he := (List.getElem?_eq_some_iff.1 h).2
  rw [List.drop_eq_getElem_cons hi, he]
theorem drop_none {l : List entT.El} {i : Nat} (h : l[i]? = none) : l.drop i = [] := List.drop_eq_nil_of_le (List.getElem?_eq_none_iff.1 h)
theorem mrg_first {a b : List entT.El} (ha : ascS a) (hb : ascS b) (k : ByteArray) : ∀ (n i j : Nat), (a.length - i) + (b.length - j) ≤ n → firstK (mrgL [a, b] n [(i : Int), (j : Int)]).1 k = firstK (a.drop i ++ b.drop j) k
  | 0, i, j, h => by
    rw [List.drop_eq_nil_of_le (by omega : a.length ≤ i), List.drop_eq_nil_of_le (by omega : b.length ≤ j)]
    rfl
  | n + 1, i, j, h => by
    have h0 : hdE [a, b] [(i : Int), (j : Int)] 0 = a[i]? := rfl
    have h1 : hdE [a, b] [(i : Int), (j : Int)] 1 = b[j]? := rfl
    have hL : ∀ x : entT.El, a[i]? = some x → bst [a, b] [(i : Int), (j : Int)] 2 = some 0 → firstK (mrgL [a, b] (n + 1) [(i : Int), (j : Int)]).1 k = firstK (a.drop i ++ b.drop j) k := by
      intro x hx hf
      have hlt := (List.getElem?_eq_some_iff.1 hx).1
      rw [mrg_step (f := 0) hf (h0.trans hx) rfl, drop_some hx, firstK_cons, List.cons_append, firstK_cons]
      rw [show ([(i : Int), (j : Int)].set 0 ((i : Int) + 1)) = [((i + 1 : Nat) : Int), (j : Int)] from rfl, mrg_first ha hb k n (i + 1) j (by omega)]
    have hR : ∀ y : entT.El, b[j]? = some y → (∀ z ∈ a.drop i, z.1 ≠ y.1) → bst [a, b] [(i : Int), (j : Int)] 2 = some 1 → firstK (mrgL [a, b] (n + 1) [(i : Int), (j : Int)]).1 k = firstK (a.drop i ++ b.drop j) k := by
      intro y hy hno hf
      have hlt := (List.getElem?_eq_some_iff.1 hy).1
      rw [mrg_step (f := 1) hf (h1.trans hy) rfl, drop_some hy, firstK_cons]
      rw [show ([(i : Int), (j : Int)].set 1 ((j : Int) + 1)) = [(i : Int), ((j + 1 : Nat) : Int)] from rfl, mrg_first ha hb k n i (j + 1) (by omega), firstK_append, firstK_append, firstK_cons]
      by_cases hk : y.1 = k
      · rw [if_pos hk, if_pos hk, firstK_none.2 (fun z hz => by rw [← hk]; exact hno z hz)]; rfl
      · rw [if_neg hk, if_neg hk]
    have hbst : bst [a, b] [(i : Int), (j : Int)] 2 = match b[j]?, a[i]? with
      | none, none => none
      | none, some _ => some 0
      | some _, none => some 1
      | some y, some x => if sLt y.1 x.1 = true then some 1 else some 0 := by
      rw [bst, bst, bst, h1, h0]
      cases hx : a[i]? with
      | none => cases hy : b[j]? <;> rfl
      | some x =>
        cases hy : b[j]? with
        | none => rfl
        | some y => simp only [h0, hx]
    cases hx : a[i]? with
    | none =>
      cases hy : b[j]? with
      | none =>
        rw [mrg_end (by rw [show [a, b].length = 2 from rfl, hbst, hx, hy]), drop_none hx, drop_none hy]
        rfl
      | some y =>
        refine hR y hy (by rw [drop_none hx]; simp) ?_
        rw [hbst, hx, hy]
    | some x =>
      cases hy : b[j]? with
      | none =>
        refine hL x hx ?_
        rw [hbst, hx, hy]
      | some y =>
        by_cases hlt : sLt y.1 x.1 = true
        · refine hR y hy (fun z hz e => ?_) (by rw [hbst, hx, hy]; exact if_pos hlt)
          rw [drop_some hx] at hz
          rcases List.mem_cons.1 hz with rfl | hz
          · rw [e, sLt_irrefl] at hlt; cases hlt
          · obtain ⟨m, hm⟩ := List.mem_iff_getElem?.1 hz
            rw [List.getElem?_drop] at hm
            have h2 := sLt_trans hlt (asc_rel ha (by omega : i < i + 1 + m) hx hm)
            rw [e, sLt_irrefl] at h2; cases h2
        · exact hL x hx (by rw [hbst, hx, hy]; exact if_neg hlt)
theorem mrgA_first {a b : List entT.El} (ha : ascS a) (hb : ascS b) (k : ByteArray) : firstK (mrgA [a, b]).1 k = firstK (a ++ b) k := by
  have := mrg_first ha hb k ([a, b].flatten.length + 1) 0 0 (by simp)
  exact this
/-! ### What Filter keeps -/
def fltO (bo : Bool) (o : Option entT.El) : Option entT.El := o.filter (fun x => !(bo && x.2.2.1))
theorem flt_first {bo : Bool} (k : ByteArray) : ∀ (l : List entT.El) (so : Bool) (last : ByteArray), l.Pairwise (fun x y => sLt y.1 x.1 = false) → (so = true → ∀ x ∈ l, sLt x.1 last = false) → firstK (fltGo bo so last l) k = if so = true ∧ k = last then none else fltO bo (firstK l k)
  | [], so, last, _, _ => by
    show none = _
    split <;> rfl
  | x :: l, so, last, hp, hs => by
    have hp' := List.pairwise_cons.1 hp
    have ih := flt_first (bo := bo) k l true x.1 hp'.2 (fun _ y hy => hp'.1 y hy)
    simp only [true_and] at ih
    rw [fltGo, firstK_append, ih, firstK_cons]
    by_cases hd : so = true ∧ x.1 = last
    · have hst : stepK so last bo x.1 x.2.2.1 = false := by
        unfold stepK; rw [hd.1, sEq_iff.2 hd.2]; rfl
      rw [hst, if_neg (by decide)]
      show (none : Option entT.El).or _ = _
      rw [Option.none_or]
      by_cases hk : k = x.1
      · rw [if_pos hk, if_pos ⟨hd.1, hk.trans hd.2⟩]
      · rw [if_neg hk, if_neg (fun e => hk (e.2.trans hd.2.symm)), if_neg (fun e => hk e.symm)]
    · have hst : stepK so last bo x.1 x.2.2.1 = !(bo && x.2.2.1) := by
        unfold stepK
        cases hso : so with
        | false => simp
        | true =>
          have : sEq x.1 last = false := sEq_no.2 (fun e => hd ⟨hso, e⟩)
          rw [this]; simp
      rw [hst]
      by_cases hk : x.1 = k
      · rw [if_pos hk.symm, if_neg (show ¬ (so = true ∧ k = last) from fun e => hd ⟨e.1, hk.trans e.2⟩), if_pos hk]
        unfold fltO
        rw [Option.or_none]
        cases hb : !(bo && x.2.2.1) with
        | true => rw [if_pos rfl, firstK_one, if_pos hk, Option.filter_some, if_pos hb]
        | false => rw [if_neg (by decide), Option.filter_some, if_neg (by rw [hb]; decide)]; rfl
      · rw [if_neg (show ¬ k = x.1 from fun e => hk e.symm), if_neg hk]
        have hone : firstK (if (!(bo && x.2.2.1)) = true then [x] else []) k = none := by
          split
          · rw [firstK_one, if_neg hk]
          · rfl
        rw [hone, Option.none_or]
        by_cases hkl : so = true ∧ k = last
        · rw [if_pos hkl]
          have h1 := hs hkl.1 x (by simp)
          have h2 : sLt last x.1 = true := sLt_of h1 (fun e => hd ⟨hkl.1, e⟩)
          rw [firstK_none.2 (fun z hz e => ?_)]
          · rfl
          · have h3 := hp'.1 z hz
            rw [e, hkl.2, h2] at h3; cases h3
        · rw [if_neg hkl]
theorem live_first (k : ByteArray) : ∀ {l : List entT.El}, ascS l → firstK (liveL l) k = fltO true (firstK l k)
  | [], _ => rfl
  | x :: l, ha => by
    have ih := live_first k (ascS_tail ha)
    rw [firstK_cons]
    unfold liveL at ih ⊢
    rw [List.filter_cons]
    by_cases hk : x.1 = k
    · rw [if_pos hk]
      cases hd : x.2.2.1 with
      | false =>
        rw [if_pos (by rfl), firstK_cons, if_pos hk]
        unfold fltO
        rw [Option.filter_some, if_pos (by rw [hd]; rfl)]
      | true =>
        rw [if_neg (by decide), ih]
        unfold fltO
        rw [Option.filter_some, if_neg (by rw [hd]; decide), firstK_none.2 (fun z hz e => ?_)]
        · rfl
        · obtain ⟨m, hm⟩ := List.mem_iff_getElem?.1 hz
          have := ascS_head ha hm
          rw [hk, e, sLt_irrefl] at this; cases this
    · rw [if_neg hk]
      cases x.2.2.1
      · rw [if_pos (by rfl), firstK_cons, if_neg hk, ih]
      · rw [if_neg (by decide), ih]
theorem valE_flt (bo : Bool) (o : Option entT.El) : valE (fltO bo o) = valE o := by
  cases o with
  | none => rfl
  | some x =>
    unfold fltO
    rw [Option.filter_some]
    by_cases h : (!(bo && x.2.2.1)) = true
    · rw [if_pos h]
    · rw [if_neg h]
      cases hb : bo <;> rw [hb] at h
      · exact absurd rfl h
      · have : x.2.2.1 = true := by simpa using h
        simp [valE, this]
theorem fltO_false (o : Option entT.El) : fltO false o = o := by
  cases o with
  | none => rfl
  | some x => rfl
/-! ### The map is the same -/
theorem map_ext {l m : List entT.El} (h : ∀ k, getM l k = getM m k) : mapL l = mapL m :=
  asc_ext (mapL_asc l) (mapL_asc m) (fun p => by rw [mapL_mem, mapL_mem, h])
/-- A part of a list is put in place of another with the same first entries, but for the dead if nothing is behind it. -/
theorem map_part {P A B Q : List entT.El} {bo : Bool} (h : ∀ k, firstK B k = fltO bo (firstK A k)) (hq : bo = true → Q = []) : mapL (P ++ (B ++ Q)) = mapL (P ++ (A ++ Q)) := by
  refine map_ext fun k => ?_
  unfold getM
  rw [firstK_append, firstK_append, firstK_append, firstK_append, h]
  cases firstK P k with
  | some x => rfl
  | none =>
    rw [Option.none_or, Option.none_or]
    cases hb : bo with
    | false => rw [fltO_false]
    | true =>
      rw [hq hb]
      show valE ((fltO true (firstK A k)).or none) = valE ((firstK A k).or none)
      rw [Option.or_none, Option.or_none, valE_flt]
theorem allE_app (b : List entT.El) (r s : List runT.El) : allE b (r ++ s) = allE b r ++ (s.map (fun x => x.2.1)).flatten := by
  show (b :: (r ++ s).map (fun x => x.2.1)).flatten = (b :: r.map (fun x => x.2.1)).flatten ++ _
  rw [List.map_append, List.flatten_cons, List.flatten_cons, List.flatten_append, List.append_assoc]
/-- The run that is put in, if there is anything in it. -/
def oneR (id : Int) (l : List entT.El) : List runT.El := if l = [] then [] else [(id, l, ())]
theorem oneR_flat (id : Int) (l : List entT.El) : ((oneR id l).map (fun x => x.2.1)).flatten = l := by
  unfold oneR
  split
  · rename_i h; rw [h]; rfl
  · simp
theorem all_buf (b : List entT.El) (rs : List runT.El) (id : Int) : allE [] ((id, b, ()) :: rs) = allE b rs := rfl
theorem all_merge {b : List entT.El} {rs : List runT.El} {i : Nat} {x y : runT.El} (hx : rs[i]? = some x) (hy : rs[i + 1]? = some y) (h1 : ascS x.2.1) (h2 : ascS y.2.1) (id : Int) : mapL (allE b (rs.take i ++ (oneR id (fltGo (decide (i + 2 = rs.length)) false ⟨#[]⟩ (mrgA [x.2.1, y.2.1]).1) ++ rs.drop (i + 2)))) = mapL (allE b rs) := by
  have hi := (List.getElem?_eq_some_iff.1 hx).1
  have hi2 := (List.getElem?_eq_some_iff.1 hy).1
  have hrs : allE b rs = allE b (rs.take i) ++ ((x.2.1 ++ y.2.1) ++ ((rs.drop (i + 2)).map (fun x => x.2.1)).flatten) := by
    conv => lhs; rw [← List.take_append_drop i rs, List.drop_eq_getElem_cons hi, (List.getElem?_eq_some_iff.1 hx).2, List.drop_eq_getElem_cons hi2, (List.getElem?_eq_some_iff.1 hy).2]
    rw [allE_app]
    simp [List.append_assoc]
  rw [allE_app, List.map_append, List.flatten_append, oneR_flat, hrs]
  refine map_part (bo := decide (i + 2 = rs.length)) (fun k => ?_) (fun h => ?_)
  · have hu : (mrgA [x.2.1, y.2.1]).1.Pairwise (fun x y => sLt y.1 x.1 = false) := mrg_up (by simp [h1, h2]) _ _
    rw [flt_first k _ _ _ hu (by simp), if_neg (by simp), ← mrgA_first h1 h2]
  · rw [List.drop_eq_nil_of_le (by have := of_decide_eq_true h; omega)]; rfl
theorem all_live {b : List entT.El} {rs : List runT.El} {n : Nat} {x : runT.El} (hn : rs.length = n + 1) (hx : rs[n]? = some x) (h1 : ascS x.2.1) (id : Int) : mapL (allE b (rs.take n ++ oneR id (liveL x.2.1))) = mapL (allE b rs) := by
  have hi := (List.getElem?_eq_some_iff.1 hx).1
  have hrs : allE b rs = allE b (rs.take n) ++ (x.2.1 ++ []) := by
    conv => lhs; rw [← List.take_append_drop n rs, List.drop_eq_getElem_cons hi, (List.getElem?_eq_some_iff.1 hx).2, List.drop_eq_nil_of_le (by omega)]
    rw [allE_app]
    simp
  rw [allE_app, oneR_flat, hrs, ← List.append_nil (liveL x.2.1)]
  exact map_part (bo := true) (fun k => live_first k h1) (fun _ => rfl)
end Go.Proofs.Ytekkeajcmibbaaa
