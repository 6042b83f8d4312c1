/-
  Where a cursor stands behind a move: plain Lean.
  One run with just the pairs of the map: plain Lean.
  The law of what cursors depend on.
-/
import Derived.Test.YtfknchngldknnaaMg
import Derived.Test.YtfknchngldknnaaLs
namespace Go.Proofs.Ytfknchngldknnaa
open Av Bk

theorem rgL_at (b : List entT.El) (rs : List runT.El) (s : Cu) (k : ByteArray) (af : Bool) : rgL b rs (atS s k af) = rgL b rs s := rfl
theorem asc_lt {l : List pairT.El} (ha : ascP l) {i j : Nat} {x y : pairT.El} (hx : l[i]? = some x) (hy : l[j]? = some y) (h : i < j) : sLt x.1 y.1 = true := by
  have h1 := List.getElem?_eq_some_iff.1 hx
  have h2 := List.getElem?_eq_some_iff.1 hy
  have := List.pairwise_iff_getElem.1 ha _ _ h1.1 h2.1 h
  rw [h1.2, h2.2] at this
  exact this
theorem take_mem {l : List pairT.El} {i : Nat} {p : pairT.El} (h : p ∈ l.take i) : ∃ j, j < i ∧ l[j]? = some p := by
  obtain ⟨j, hj⟩ := List.mem_iff_getElem?.1 h
  rw [List.getElem?_take] at hj
  split at hj
  · exact ⟨j, by assumption, hj⟩
  · cases hj
theorem pos_at {l : List pairT.El} (ha : ascP l) (s : Cu) {i : Nat} {x : pairT.El} (hx : l[i]? = some x) (af : Bool) : nP (befB (atS s x.1 af)) l = if af = true then i + 1 else i := by
  have hi := (List.getElem?_eq_some_iff.1 hx).1
  have hb : ∀ p : pairT.El, befB (atS s x.1 af) p = (sLt p.1 x.1 || (af && sEq p.1 x.1)) := fun p => rfl
  cases af with
  | true =>
    rw [if_pos rfl]
    refine nP_at (fun p hp => ?_) (by omega) ?_
    · obtain ⟨j, hj, hq⟩ := take_mem hp
      rw [hb]
      by_cases hji : j = i
      · subst hji
        rw [hx] at hq
        cases hq
        rw [sEq_refl]
        simp
      · rw [asc_lt ha hq hx (by omega)]; rfl
    · by_cases he : i + 1 = l.length
      · exact .inl he
      · obtain ⟨y, hy⟩ : ∃ y, l[i + 1]? = some y := ⟨_, List.getElem?_eq_getElem (by omega)⟩
        refine .inr ⟨y, hy, ?_⟩
        have h1 := asc_lt ha hx hy (by omega)
        rw [hb, sLt_asym h1, sEq_no.2 (fun e => sLt_ne h1 e.symm)]
        rfl
  | false =>
    rw [if_neg (by decide)]
    refine nP_at (fun p hp => ?_) (by omega) (.inr ⟨x, hx, ?_⟩)
    · obtain ⟨j, hj, hq⟩ := take_mem hp
      rw [hb, asc_lt ha hq hx hj]; rfl
    · rw [hb, sLt_irrefl]; rfl
theorem cuE_at {b : List entT.El} {rs : List runT.El} {s : Cu} (h : cuE b rs s = 0) {x : pairT.El} (hx : x ∈ rgL b rs s) (af : Bool) : cuE b rs (atS s x.1 af) = 0 := by
  obtain ⟨h1, h2, _, _⟩ := cuE_zero h
  have hm := List.mem_filter.1 hx
  have hk : keyE x.1 = 0 := mapL_key (vcL_zero h1) hm.1
  have hr : riE b rs s.lo s.hi s.bd = 0 := cuE_ri h
  have hb : badS (atS s x.1 af) = false := by
    show ((!true && !sEq x.1 ⟨#[]⟩) || (true && !hasB s.lo s.hi s.bd x.1)) = false
    rw [show hasB s.lo s.hi s.bd x.1 = true from hm.2]
    rfl
  unfold cuE
  rw [if_neg (show ¬ riE b rs (atS s x.1 af).lo (atS s x.1 af).hi (atS s x.1 af).bd ≠ 0 from fun e => e hr), if_neg (show ¬ keyE (atS s x.1 af).key ≠ 0 from fun e => e hk), if_neg (by rw [hb]; decide)]
/-- Where a cursor stands. -/
def at' (b : List entT.El) (rs : List runT.El) (s : Cu) : Nat := nP (befB s) (rgL b rs s)
theorem at_le (b : List entT.El) (rs : List runT.El) (s : Cu) : at' b rs s ≤ (rgL b rs s).length := nP_le _ _
theorem left_at {b : List entT.El} {rs : List runT.El} {s : Cu} (h : cuE b rs s = 0) : leftR b rs s = ⟨at' b rs s, (rgL b rs s).length - at' b rs s, 0⟩ := left_ok h
theorem next_at {b : List entT.El} {rs : List runT.El} {s : Cu} (h : cuE b rs s = 0) : mvR b rs s true = match (rgL b rs s)[at' b rs s]? with | some x => ⟨x, atS s x.1 true, 0⟩ | none => ⟨zP, zCu, 12⟩ := by
  rw [mv_ok h, show nbO true (rgL b rs s) s = (rgL b rs s)[at' b rs s]? from (nP_find _ _).symm]
  cases (rgL b rs s)[at' b rs s]? <;> rfl
theorem prev_at {b : List entT.El} {rs : List runT.El} {s : Cu} (h : cuE b rs s = 0) : mvR b rs s false = match at' b rs s with | 0 => ⟨zP, zCu, 12⟩ | i + 1 => match (rgL b rs s)[i]? with | some x => ⟨x, atS s x.1 false, 0⟩ | none => ⟨zP, zCu, 12⟩ := by
  rw [mv_ok h, pv_take (rgL_asc b rs s) s]
  show mvOf s false (if at' b rs s = 0 then none else (rgL b rs s)[at' b rs s - 1]?) = _
  cases h2 : at' b rs s with
  | zero => rfl
  | succ i =>
    rw [if_neg (by omega), Nat.add_sub_cancel]
    simp only
    cases (rgL b rs s)[i]? <;> rfl
theorem at_at {b : List entT.El} {rs : List runT.El} {s : Cu} {i : Nat} {x : pairT.El} (hx : (rgL b rs s)[i]? = some x) (af : Bool) : at' b rs (atS s x.1 af) = if af = true then i + 1 else i := pos_at (rgL_asc b rs s) s hx af
/-- One more step of a cursor, written out. -/
abbrev ex (s : Cu) : Cu := ⟨s.lo, s.hi, s.bd, s.so, s.key, s.af⟩
structure Tn (b : List entT.El) (rs : List runT.El) (s : Cu) (fw : Bool) (a c : Int) : Prop where
  e : (mvR b rs s fw).e = 0
  le : (leftR b rs (ex (mvR b rs s fw).s)).e = 0
  la : ((leftR b rs (ex (mvR b rs s fw).s)).a : Int) = a
  lb : ((leftR b rs (ex (mvR b rs s fw).s)).b : Int) = c
  be : (mvR b rs (ex (mvR b rs s fw).s) (!fw)).e = 0
  bp : (mvR b rs (ex (mvR b rs s fw).s) (!fw)).p = (mvR b rs s fw).p
  ce : cuE b rs (ex (mvR b rs s fw).s) = 0
theorem tn_of {b : List entT.El} {rs : List runT.El} {s : Cu} (h : cuE b rs s = 0) {fw : Bool} {i : Nat} {x : pairT.El} (hx : (rgL b rs s)[i]? = some x) (hm : mvR b rs s fw = ⟨x, atS s x.1 fw, 0⟩) :
    Tn b rs s fw (if fw = true then i + 1 else i : Nat) ((rgL b rs s).length - (if fw = true then i + 1 else i) : Nat) := by
  have hi := List.getElem?_eq_some_iff.1 hx
  have hmem : x ∈ rgL b rs s := List.mem_of_getElem? hx
  have hc := cuE_at h hmem fw
  have ha := at_at (s := s) hx fw
  have hl := left_at hc
  have hs : ex (mvR b rs s fw).s = atS s x.1 fw := by rw [hm]
  refine ⟨by rw [hm], ?_, ?_, ?_, ?_, ?_, ?_⟩
  · rw [hs, hl]
  · rw [hs, hl]; show ((at' b rs (atS s x.1 fw) : Nat) : Int) = _; rw [ha]
  · rw [hs, hl]; show (((rgL b rs s).length - at' b rs (atS s x.1 fw) : Nat) : Int) = _; rw [ha]
  · rw [hs]
    cases fw with
    | true =>
      rw [show (!true) = false from rfl, prev_at hc, ha, if_pos rfl]
      simp only
      rw [rgL_at, hx]
    | false =>
      rw [show (!false) = true from rfl, next_at hc, ha, if_neg (by decide), rgL_at, hx]
  · rw [hs, hm]
    cases fw with
    | true =>
      rw [show (!true) = false from rfl, prev_at hc, ha, if_pos rfl]
      simp only
      rw [rgL_at, hx]
    | false =>
      rw [show (!false) = true from rfl, next_at hc, ha, if_neg (by decide), rgL_at, hx]
  · rw [hs]; exact hc
theorem turn_fw {b : List entT.El} {rs : List runT.El} {s : Cu} (h : cuE b rs s = 0) :
    ((mvR b rs s true).e ≠ 0 ∧ (leftR b rs s).b = 0) ∨ (0 < (leftR b rs s).b ∧ Tn b rs s true ((leftR b rs s).a + 1) ((leftR b rs s).b - 1)) := by
  have hle := at_le b rs s
  have hl := left_at h
  have hn := next_at h
  by_cases hi : at' b rs s < (rgL b rs s).length
  · right
    have hx := List.getElem?_eq_getElem hi
    rw [hx] at hn
    have ht := tn_of h hx hn
    refine ⟨by rw [hl]; show 0 < (rgL b rs s).length - at' b rs s; omega, ?_⟩
    rw [hl]
    rw [if_pos rfl] at ht
    refine (show ∀ (a c a' c' : Int), Tn b rs s true a c → a = a' → c = c' → Tn b rs s true a' c' from fun a c a' c' h e1 e2 => e1 ▸ e2 ▸ h) _ _ _ _ ht ?_ ?_
    · show ((at' b rs s + 1 : Nat) : Int) = (at' b rs s : Int) + 1; omega
    · show (((rgL b rs s).length - (at' b rs s + 1) : Nat) : Int) = (((rgL b rs s).length - at' b rs s : Nat) : Int) - 1; omega
  · left
    rw [List.getElem?_eq_none (by omega)] at hn
    refine ⟨by rw [hn]; exact (by decide : (12 : Int) ≠ 0), by rw [hl]; show (rgL b rs s).length - at' b rs s = 0; omega⟩
theorem turn_bw {b : List entT.El} {rs : List runT.El} {s : Cu} (h : cuE b rs s = 0) :
    ((mvR b rs s false).e ≠ 0 ∧ (leftR b rs s).a = 0) ∨ (0 < (leftR b rs s).a ∧ Tn b rs s false ((leftR b rs s).a - 1) ((leftR b rs s).b + 1)) := by
  have hle := at_le b rs s
  have hl := left_at h
  have hn := prev_at h
  cases hi : at' b rs s with
  | zero =>
    left
    rw [hi] at hn
    refine ⟨by rw [hn]; exact (by decide : (12 : Int) ≠ 0), by rw [hl]; exact hi⟩
  | succ i =>
    right
    rw [hi] at hn
    have hx := List.getElem?_eq_getElem (l := rgL b rs s) (i := i) (by omega)
    simp only at hn
    rw [hx] at hn
    have ht := tn_of h hx hn
    refine ⟨by rw [hl]; show 0 < at' b rs s; omega, ?_⟩
    rw [hl]
    rw [if_neg (by decide)] at ht
    refine (show ∀ (a c a' c' : Int), Tn b rs s false a c → a = a' → c = c' → Tn b rs s false a' c' from fun a c a' c' h e1 e2 => e1 ▸ e2 ▸ h) _ _ _ _ ht ?_ ?_
    · show (i : Int) = (at' b rs s : Int) - 1; omega
    · show (((rgL b rs s).length - i : Nat) : Int) = (((rgL b rs s).length - at' b rs s : Nat) : Int) + 1; omega
end Go.Proofs.Ytfknchngldknnaa
namespace Go.Proofs.Ytfknchngldknnaa
open Av Bk

/-- The entries of the pairs. -/
def oneE (m : List pairT.El) : List entT.El := m.mapIdx (fun i p => (p.1, p.2.1, false, (i : Int) + 1, ()))
theorem oneE_at (m : List pairT.El) (i : Nat) : (oneE m)[i]? = (m[i]?).map (fun p => (p.1, p.2.1, false, (i : Int) + 1, ())) := by
  unfold oneE
  rw [List.getElem?_mapIdx]
theorem oneE_len (m : List pairT.El) : (oneE m).length = m.length := by unfold oneE; rw [List.length_mapIdx]
theorem oneE_take {m : List pairT.El} {i : Nat} {p : pairT.El} (h : m[i]? = some p) : oneE (m.take (i + 1)) = oneE (m.take i) ++ [(p.1, p.2.1, false, (i : Int) + 1, ())] := by
  rw [take_snoc1 h]
  unfold oneE
  have hi := (List.getElem?_eq_some_iff.1 h).1
  rw [List.mapIdx_append, List.length_take, Nat.min_eq_left (by omega)]
  simp
theorem one_mem {m : List pairT.El} {x : entT.El} (h : x ∈ oneE m) : ∃ (i : Nat) (p : pairT.El), m[i]? = some p ∧ x = (p.1, p.2.1, false, (i : Int) + 1, ()) := by
  obtain ⟨i, hi⟩ := List.mem_iff_getElem?.1 h
  rw [oneE_at] at hi
  cases hm : m[i]? with
  | none => rw [hm] at hi; cases hi
  | some p => rw [hm] at hi; exact ⟨i, p, hm, by cases hi; rfl⟩
theorem one_asc {m : List pairT.El} (ha : ascP m) : ascS (oneE m) := by
  intro k x y hx hy
  rw [oneE_at] at hx hy
  cases h1 : m[k]? with
  | none => rw [h1] at hx; cases hx
  | some p =>
    cases h2 : m[k + 1]? with
    | none => rw [h2] at hy; cases hy
    | some q =>
      rw [h1] at hx
      rw [h2] at hy
      cases hx; cases hy
      exact asc_lt ha h1 h2 (by omega)
theorem asc_inj {m : List pairT.El} (ha : ascP m) {i j : Nat} {p q : pairT.El} (hi : m[i]? = some p) (hj : m[j]? = some q) (h : p.1 = q.1) : p = q := by
  rcases Nat.lt_trichotomy i j with h' | h' | h'
  · have := asc_lt ha hi hj h'; rw [h, sLt_irrefl] at this; cases this
  · subst h'; rw [hi] at hj; cases hj; rfl
  · have := asc_lt ha hj hi h'; rw [h, sLt_irrefl] at this; cases this
theorem one_map {m : List pairT.El} (ha : ascP m) : mapL (oneE m) = m := by
  refine (mapL_eq ha (fun p => ⟨fun hp => ?_, fun hg => ?_⟩)).symm
  · obtain ⟨i, hi⟩ := List.mem_iff_getElem?.1 hp
    unfold getM
    cases hf : firstK (oneE m) p.1 with
    | none =>
      have := firstK_none.1 hf (p.1, p.2.1, false, (i : Int) + 1, ()) (List.mem_of_getElem? (i := i) (by rw [oneE_at, hi]; rfl))
      exact absurd rfl this
    | some x =>
      obtain ⟨h1, h2⟩ := firstK_some hf
      obtain ⟨j, q, hq, rfl⟩ := one_mem h1
      have := asc_inj ha hq hi h2
      subst this
      rfl
  · obtain ⟨x, hx, h1, _, h2⟩ := getM_mem hg
    obtain ⟨j, q, hq, rfl⟩ := one_mem hx
    have hqp : q = p := by
      obtain ⟨q1, q2, _⟩ := q
      obtain ⟨p1, p2, _⟩ := p
      have h1 : q1 = p1 := h1
      have h2 : q2 = p2 := h2
      rw [h1, h2]
    rw [← hqp]
    exact List.mem_of_getElem? hq
theorem clGo_okS : ∀ (l : List entT.El) (i : Int) (pv : Option ByteArray), (∀ x ∈ l, errX x = 0) → ascS l → (∀ x, l[0]? = some x → falls pv x = false) → clGo pv i l = (0, 0)
  | [], _, _, _, _, _ => rfl
  | x :: l, i, pv, h1, h2, h3 => by
    rw [clGo, if_neg (by rw [h1 x (by simp)]; simp), if_neg (by rw [h3 x rfl]; simp)]
    refine clGo_okS l _ _ (fun y hy => h1 y (by simp [hy])) (ascS_tail h2) (fun y hy => ?_)
    have : sLt x.1 y.1 = true := h2 0 x y rfl (by simpa using hy)
    show (!sLt x.1 y.1) = false
    rw [this]; rfl
theorem one_ok {m : List pairT.El} (ha : ascP m) (hl : m.length ≤ 5000) (hk : ∀ p ∈ m, (p.1.size : Int) ≤ 32 ∧ (p.2.1.size : Int) ≤ 64) : (vcL [] [(1, oneE m, ())]).2 = 0 := by
  have h1 : clL (oneE m) = (0, 0) := by
    unfold clL
    rw [if_neg (by rw [oneE_len]; omega)]
    refine clGo_okS _ _ _ (fun x hx => ?_) (one_asc ha) (fun x _ => rfl)
    obtain ⟨i, p, hp, rfl⟩ := one_mem hx
    obtain ⟨h3, h4⟩ := hk p (List.mem_of_getElem? hp)
    have hi := (List.getElem?_eq_some_iff.1 hp).1
    show errE p.1 p.2.1 false ((i : Int) + 1) = 0
    unfold errE
    rw [decide_eq_false (by omega : ¬ 32 < (p.1.size : Int)), decide_eq_false (by omega : ¬ 64 < (p.2.1.size : Int)), decide_eq_false (by omega : ¬ (i : Int) + 1 < 1), decide_eq_false (by omega : ¬ 1000000000 < (i : Int) + 1)]
    rfl
  have h2 : rcL (1, oneE m, ()) = (0, 0) := by
    unfold rcL
    rw [if_neg (show ¬ ((1 : Int) < 1 ∨ 1000000 < (1 : Int)) by decide)]
    exact h1
  unfold vcL
  rw [if_neg (by decide), if_neg (by decide), if_neg (show ¬ 24 < [((1 : Int), oneE m, ())].length by show ¬ 24 < 1; decide), vcGo, if_neg (by rw [h2]; decide)]
  rfl
theorem far_len : ∀ {rs : List runT.El} {n : Int}, 0 ≤ n → n ≤ 100 → farGo n rs = false → n + ((rs.map (fun r => r.2.1)).flatten.length : Int) ≤ 100
  | [], n, _, h, _ => by simpa using h
  | r :: rs, n, h0, h, hf => by
    rw [farGo] at hf
    rw [List.map_cons, List.flatten_cons, List.length_append]
    by_cases h2 : 200 < (r.2.1.length : Int)
    · rw [if_pos h2] at hf
      by_cases h1 : 100 < n + 200
      · rw [if_pos h1] at hf; cases hf
      · rw [if_neg h1] at hf
        split at hf
        · cases hf
        · have := far_len (by omega) (by omega) hf
          omega
    · rw [if_neg h2] at hf
      by_cases h1 : 100 < n + (r.2.1.length : Int)
      · rw [if_pos h1] at hf; cases hf
      · rw [if_neg h1] at hf
        split at hf
        · cases hf
        · have := far_len (by omega) (by omega) hf
          omega
theorem far_all {b : List entT.El} {rs : List runT.El} (h : farB b rs = false) : (allE b rs).length ≤ 100 := by
  unfold farB at h
  split at h
  · cases h
  · split at h
    · cases h
    · rename_i h1 _
      have := far_len (by omega) (by omega) h
      show (b :: rs.map (fun r => r.2.1)).flatten.length ≤ 100
      rw [List.flatten_cons, List.length_append]
      omega
theorem map_sz {b : List entT.El} {rs : List runT.El} (h : GoodV b rs) {p : pairT.El} (hp : p ∈ mapL (allE b rs)) : (p.1.size : Int) ≤ 32 ∧ (p.2.1.size : Int) ≤ 64 := by
  obtain ⟨x, hx, hk, _, hv⟩ := getM_mem ((mapL_mem _ p).1 hp)
  have he := all_err h hx
  rw [← hk, ← hv]
  simp only [errX, errE] at he
  by_cases h1 : 32 < (x.1.size : Int)
  · simp [h1] at he
  · by_cases h2 : 64 < (x.2.1.size : Int)
    · simp [h2] at he
    · omega
/-- The view with the pairs alone. -/
def viewM (m : List pairT.El) : List runT.El := if 0 < m.length then [(1, oneE m, ())] else []
theorem view_m {b : List entT.El} {rs : List runT.El} (hv : (vcL b rs).2 = 0) (hf : farB b rs = false) : (vcL [] (viewM (mapL (allE b rs)))).2 = 0 ∧ mapL (allE [] (viewM (mapL (allE b rs)))) = mapL (allE b rs) := by
  have ha := mapL_asc (allE b rs)
  unfold viewM
  by_cases h : 0 < (mapL (allE b rs)).length
  · rw [if_pos h]
    have h1 := far_all hf
    have h2 := mapL_len (allE b rs)
    refine ⟨one_ok ha (by omega) (fun p hp => map_sz (vcL_zero hv) hp), ?_⟩
    show mapL ([] ++ (oneE (mapL (allE b rs)) ++ [])) = _
    rw [List.nil_append, List.append_nil, one_map ha]
  · rw [if_neg h]
    have : mapL (allE b rs) = [] := List.length_eq_zero_iff.1 (by omega)
    rw [this]
    exact ⟨by decide, rfl⟩
theorem cuE_swap {b b' : List entT.El} {rs rs' : List runT.El} {s : Cu} (h : (vcL b rs).2 = 0) (h' : (vcL b' rs').2 = 0) : cuE b rs s = cuE b' rs' s := by
  unfold cuE riE
  rw [h, h']
theorem mv_swap {b b' : List entT.El} {rs rs' : List runT.El} {s : Cu} (h : (vcL b rs).2 = 0) (h' : (vcL b' rs').2 = 0) (hm : mapL (allE b rs) = mapL (allE b' rs')) (fw : Bool) : mvR b rs s fw = mvR b' rs' s fw := by
  unfold mvR rgL
  rw [cuE_swap h h', hm]
theorem mv_cu {b : List entT.El} {rs : List runT.El} {s : Cu} (h : cuE b rs s = 0) {fw : Bool} (he : (mvR b rs s fw).e = 0) : cuE b rs (mvR b rs s fw).s = 0 := by
  cases fw with
  | true =>
    rcases turn_fw h with ⟨h1, _⟩ | ⟨_, h1⟩
    · exact absurd he h1
    · exact h1.ce
  | false =>
    rcases turn_bw h with ⟨h1, _⟩ | ⟨_, h1⟩
    · exact absurd he h1
    · exact h1.ce
end Go.Proofs.Ytfknchngldknnaa
namespace Go.Proofs.Ytfknchngldknnaa
open Av Bk

theorem isOwn_gen {h : Hp} {id g n : Nat} (hg : genOf h id = g) : isOwn id (genOf h id) (.own id g n) = true := by
  rw [hg]
  show (Nat.beq id id && Nat.beq g g) = true
  rw [Nat.beq_refl, Nat.beq_refl]
  rfl
theorem heap_w {a b c d : AObj} {z : AV} {T : TypeId} {t : Ty} {l m : List t.El} (hl : l = m) : [a, b, .cells T [z, .lst t l], c, d] = [a, b, AObj.cells T [z, .lst t m], c, d] := by rw [hl]
set_option maxRecDepth 100000 in
theorem fnOk_lSa : FnOk Try.prog 7 Try.f7 := ⟨by rfl, by kernel_rfl, by
  show okCode _ _ = true ∧ drawsOk _ = true
  exact ⟨by kernel_rfl, by kernel_rfl⟩⟩
noncomputable abbrev lSa_C : Cx := lw_C
abbrev lSa_D := lw_D
theorem lSa_F : FnsOk Try.prog lSa_C.fns := FnsOk.nil
abbrev lSa_N : Nat := 0
abbrev lSa_T : List Ty := [viewT, cuT, .sl (.int .u8)]
abbrev lSa_FN := fnOk_lSa
set_option maxRecDepth 100000 in
set_option maxHeartbeats 8000000 in
theorem lSa' (b : List entT.El) (rs : List runT.El) (lo hi : ByteArray) (bd so : Bool) (key : ByteArray) (af : Bool) (st : List (Ty.int .u8).El) (hst0 : ∀ x ∈ st, (0 : Int) ≤ x) : bodyA lSa_C (callN lSa_C lSa_N) Try.f7 [.agg [.lst entT b, .lst runT rs], .agg [.str lo, .str hi, .bool bd, .bool so, .str key, .bool af], .lst (.int .u8) st] [] (fun v _ => v = .bool true) := by
  by_cases hc : cuE b rs ⟨lo, hi, bd, so, key, af⟩ = 0
  · by_cases hf : farB b rs = false
    · by_cases hst : (st.length : Int) ≤ 40
      · have hv := (cuE_zero hc).1
        have hpa := part_all hv
        have hp1 : (partR b rs ⟨#[]⟩ ⟨#[]⟩ false).1 = mapL (allE b rs) := by rw [hpa]
        have hp2 : (partR b rs ⟨#[]⟩ ⟨#[]⟩ false).2 = 0 := by rw [hpa]
        have hvm := view_m hv hf
        have hml := mapL_len (allE b rs)
        have hfa := far_all hf
        rw [← hp1] at hvm hml
        conv => whnf
        repeat' first
          | (refine idx_kn (by assumption) ?_; conv => whnf)
          | (refine idx_ki (by assumption) (by omega) ?_; conv => whnf)
          | (refine br_true (by first | with_reducible exact rfl | assumption | decide) ?_; conv => whnf)
          | (refine br_false (by first | with_reducible exact rfl | assumption | decide) ?_; conv => whnf)
          | ((with_reducible refine br_kt (by assumption) ?_); conv => whnf)
          | ((with_reducible refine br_kf (by assumption) ?_); conv => whnf)
          | ((with_reducible refine br_nt (by assumption) ?_); conv => whnf)
          | ((with_reducible refine br_nf (by assumption) ?_); conv => whnf)
          | ((with_reducible refine br_et (by assumption) ?_); conv => whnf)
          | ((with_reducible refine br_ef (by assumption) ?_); conv => whnf)
          | ((with_reducible refine br_dec (fun h => ?_) (fun h => ?_)) <;> first | (exfalso; omega) | conv => whnf)
          | ((with_reducible refine br_ndec (fun h => ?_) (fun h => ?_)) <;> first | (exfalso; omega) | conv => whnf)
          | ((with_reducible refine br_ne (fun h => ?_) (fun h => ?_)) <;> first | (exfalso; omega) | conv => whnf)
          | ((with_reducible refine br_eq (fun h => ?_) (fun h => ?_)) <;> first | (exfalso; omega) | conv => whnf)
          | (refine br_intro (fun h => ?_) (fun h => ?_) <;> conv => whnf)
          | (refine need_in (by first | exact trivial | assumption | exact ⟨rfl, Nat.le_refl _⟩ | exact ⟨rfl, rfl⟩ | (simp only [inR]; omega) | omega | (simp only [roomP, true_and, and_true, List.length_take, List.length_drop, List.length_append, List.length_cons, List.length_nil, List.length_set, List.length_replicate]; omega) | (refine ⟨by first | exact trivial | rfl, by first | exact Nat.le_refl _ | omega | (simp; omega), ?_⟩; change roomP _ _ 1; simp only [roomP]; omega) | (change roomP _ _ 1; simp only [roomP]; omega) | (simp; omega) | (simp [inR]; omega) | (simp [inR]; done) | decide | (simp; done)) ?_; conv => whnf)
          | (refine idx_nat (by omega) (fun x hx => ?_); conv => whnf)
          | (refine frz_auto ?_; conv => whnf)
          | (refine draw_plain ?_; conv => whnf)
          | (refine idx_intro (by omega) (by omega) (fun x hx => ?_); conv => whnf)
          | (refine idx_intro (by first | omega | (simp; omega) | (simp; done)) (by first | omega | (simp; omega) | (simp; done)) (fun x hx => ?_); conv => whnf)
          | fail
        · generalize hmm : (partR b rs ⟨#[]⟩ ⟨#[]⟩ false).1 = m at hvm hml h hp1 ⊢
          have hm0 : m = mapL (allE b rs) := hp1
          refine loop_inv [] [10, 11] (fun vs h => ∃ i g : Nat, vs = [.own 3 g i, .int .i64 (i : Int)] ∧ h = [.cells 25 [.lst entT b, .lst runT rs], .cells 29 [.str lo, .str hi, .bool bd, .bool so, .str key, .bool af], .cells 25 [.zsl entT, .zsl runT], .arr 53 entT (oneE (m.take i)) false g] ∧ i ≤ m.length) (fun vs _ => match vs with | [_, .int _ k] => m.length - k.toNat | _ => 0) ?_
          conv => whnf
          refine ⟨⟨0, 0, rfl, rfl, by omega⟩, ?_⟩
          rintro vs h' - ⟨i, g, rfl, rfl, hil0⟩
          have hol : (oneE (m.take i)).length = i := by rw [oneE_len, List.length_take]; omega
          by_cases hil : i < m.length
          · obtain ⟨x, hx⟩ : ∃ x, m[i]? = some x := ⟨_, List.getElem?_eq_getElem hil⟩
            have hot := oneE_take hx
            conv => whnf
            repeat' first
              | (refine idx_kn (by assumption) ?_; conv => whnf)
              | (refine idx_ki (by assumption) (by omega) ?_; conv => whnf)
              | (refine br_true (by first | with_reducible exact rfl | assumption | decide) ?_; conv => whnf)
              | (refine br_false (by first | with_reducible exact rfl | assumption | decide) ?_; conv => whnf)
              | ((with_reducible refine br_kt (by assumption) ?_); conv => whnf)
              | ((with_reducible refine br_kf (by assumption) ?_); conv => whnf)
              | ((with_reducible refine br_nt (by assumption) ?_); conv => whnf)
              | ((with_reducible refine br_nf (by assumption) ?_); conv => whnf)
              | ((with_reducible refine br_et (by assumption) ?_); conv => whnf)
              | ((with_reducible refine br_ef (by assumption) ?_); conv => whnf)
              | ((with_reducible refine br_dec (fun h => ?_) (fun h => ?_)) <;> first | (exfalso; omega) | conv => whnf)
              | ((with_reducible refine br_ndec (fun h => ?_) (fun h => ?_)) <;> first | (exfalso; omega) | conv => whnf)
              | ((with_reducible refine br_ne (fun h => ?_) (fun h => ?_)) <;> first | (exfalso; omega) | conv => whnf)
              | ((with_reducible refine br_eq (fun h => ?_) (fun h => ?_)) <;> first | (exfalso; omega) | conv => whnf)
              | (refine br_intro (fun h => ?_) (fun h => ?_) <;> conv => whnf)
              | (refine need_in (by first | exact trivial | assumption | exact ⟨rfl, Nat.le_refl _⟩ | exact ⟨rfl, rfl⟩ | (simp only [inR]; omega) | omega | (simp only [roomP, true_and, and_true, List.length_take, List.length_drop, List.length_append, List.length_cons, List.length_nil, List.length_set, List.length_replicate]; omega) | (refine ⟨by first | exact trivial | rfl, by first | exact Nat.le_refl _ | omega | (simp; omega), ?_⟩; change roomP _ _ 1; simp only [roomP]; omega) | (change roomP _ _ 1; simp only [roomP]; omega) | (simp; omega) | (simp [inR]; omega) | (simp [inR]; done) | decide | (simp; done)) ?_; conv => whnf)
              | (refine idx_nat (by omega) (fun x hx => ?_); conv => whnf)
              | (refine frz_auto ?_; conv => whnf)
              | (refine draw_plain ?_; conv => whnf)
              | (refine idx_intro (by omega) (by omega) (fun x hx => ?_); conv => whnf)
              | (refine idx_intro (by first | omega | (simp; omega) | (simp; done)) (by first | omega | (simp; omega) | (simp; done)) (fun x hx => ?_); conv => whnf)
              | fail
            refine back_intro (by conv => whnf) rfl ⟨i + 1, g + 1, own_p ?_, heap_m ?_, by omega⟩ ?_
            · rfl
            · show (oneE (m.take i)).take i ++ [(x.1, x.2.1, false, (i : Int) + 1, ())] = oneE (m.take (i + 1))
              rw [hot, List.take_of_length_le (by omega)]
            · show m.length - ((i : Int) + 1).toNat < m.length - (i : Int).toNat
              omega
          · conv => whnf
            repeat' first
              | (refine idx_kn (by assumption) ?_; conv => whnf)
              | (refine idx_ki (by assumption) (by omega) ?_; conv => whnf)
              | (refine br_true (by first | with_reducible exact rfl | assumption | decide) ?_; conv => whnf)
              | (refine br_false (by first | with_reducible exact rfl | assumption | decide) ?_; conv => whnf)
              | ((with_reducible refine br_kt (by assumption) ?_); conv => whnf)
              | ((with_reducible refine br_kf (by assumption) ?_); conv => whnf)
              | ((with_reducible refine br_nt (by assumption) ?_); conv => whnf)
              | ((with_reducible refine br_nf (by assumption) ?_); conv => whnf)
              | ((with_reducible refine br_et (by assumption) ?_); conv => whnf)
              | ((with_reducible refine br_ef (by assumption) ?_); conv => whnf)
              | ((with_reducible refine br_dec (fun h => ?_) (fun h => ?_)) <;> first | (exfalso; omega) | conv => whnf)
              | ((with_reducible refine br_ndec (fun h => ?_) (fun h => ?_)) <;> first | (exfalso; omega) | conv => whnf)
              | ((with_reducible refine br_ne (fun h => ?_) (fun h => ?_)) <;> first | (exfalso; omega) | conv => whnf)
              | ((with_reducible refine br_eq (fun h => ?_) (fun h => ?_)) <;> first | (exfalso; omega) | conv => whnf)
              | (refine br_intro (fun h => ?_) (fun h => ?_) <;> conv => whnf)
              | (refine need_in (by first | exact trivial | assumption | exact ⟨rfl, Nat.le_refl _⟩ | exact ⟨rfl, rfl⟩ | (simp only [inR]; omega) | omega | (simp only [roomP, true_and, and_true, List.length_take, List.length_drop, List.length_append, List.length_cons, List.length_nil, List.length_set, List.length_replicate]; omega) | (refine ⟨by first | exact trivial | rfl, by first | exact Nat.le_refl _ | omega | (simp; omega), ?_⟩; change roomP _ _ 1; simp only [roomP]; omega) | (change roomP _ _ 1; simp only [roomP]; omega) | (simp; omega) | (simp [inR]; omega) | (simp [inR]; done) | decide | (simp; done)) ?_; conv => whnf)
              | (refine idx_nat (by omega) (fun x hx => ?_); conv => whnf)
              | (refine draw_plain ?_; conv => whnf)
              | (refine idx_intro (by omega) (by omega) (fun x hx => ?_); conv => whnf)
              | (refine idx_intro (by first | omega | (simp; omega) | (simp; done)) (by first | omega | (simp; omega) | (simp; done)) (fun x hx => ?_); conv => whnf)
              | fail
            refine .mk [.frz 3 [10, 67, 68] []] ?_
            conv => whnf
            repeat' first
              | (refine idx_kn (by assumption) ?_; conv => whnf)
              | (refine idx_ki (by assumption) (by omega) ?_; conv => whnf)
              | (refine br_true (by first | with_reducible exact rfl | assumption | decide) ?_; conv => whnf)
              | (refine br_false (by first | with_reducible exact rfl | assumption | decide) ?_; conv => whnf)
              | ((with_reducible refine br_kt (by assumption) ?_); conv => whnf)
              | ((with_reducible refine br_kf (by assumption) ?_); conv => whnf)
              | ((with_reducible refine br_nt (by assumption) ?_); conv => whnf)
              | ((with_reducible refine br_nf (by assumption) ?_); conv => whnf)
              | ((with_reducible refine br_et (by assumption) ?_); conv => whnf)
              | ((with_reducible refine br_ef (by assumption) ?_); conv => whnf)
              | ((with_reducible refine br_dec (fun h => ?_) (fun h => ?_)) <;> first | (exfalso; omega) | conv => whnf)
              | ((with_reducible refine br_ndec (fun h => ?_) (fun h => ?_)) <;> first | (exfalso; omega) | conv => whnf)
              | ((with_reducible refine br_ne (fun h => ?_) (fun h => ?_)) <;> first | (exfalso; omega) | conv => whnf)
              | ((with_reducible refine br_eq (fun h => ?_) (fun h => ?_)) <;> first | (exfalso; omega) | conv => whnf)
              | (refine br_intro (fun h => ?_) (fun h => ?_) <;> conv => whnf)
              | (refine need_in (by first | exact trivial | assumption | exact ⟨rfl, Nat.le_refl _⟩ | exact ⟨rfl, rfl⟩ | (simp only [inR]; omega) | omega | (simp only [roomP, true_and, and_true, List.length_take, List.length_drop, List.length_append, List.length_cons, List.length_nil, List.length_set, List.length_replicate]; omega) | (refine ⟨by first | exact trivial | rfl, by first | exact Nat.le_refl _ | omega | (simp; omega), ?_⟩; change roomP _ _ 1; simp only [roomP]; omega) | (change roomP _ _ 1; simp only [roomP]; omega) | (simp; omega) | (simp [inR]; omega) | (simp [inR]; done) | decide | (simp; done)) ?_; conv => whnf)
              | (refine idx_nat (by omega) (fun x hx => ?_); conv => whnf)
              | (refine frz_auto ?_; conv => whnf)
              | (refine draw_plain ?_; conv => whnf)
              | (refine idx_intro (by omega) (by omega) (fun x hx => ?_); conv => whnf)
              | (refine idx_intro (by first | omega | (simp; omega) | (simp; done)) (by first | omega | (simp; omega) | (simp; done)) (fun x hx => ?_); conv => whnf)
              | fail
            rw [isOwn_gen]
            · conv => whnf
              repeat' first
                | (refine idx_kn (by assumption) ?_; conv => whnf)
                | (refine idx_ki (by assumption) (by omega) ?_; conv => whnf)
                | (refine br_true (by first | with_reducible exact rfl | assumption | decide) ?_; conv => whnf)
                | (refine br_false (by first | with_reducible exact rfl | assumption | decide) ?_; conv => whnf)
                | ((with_reducible refine br_kt (by assumption) ?_); conv => whnf)
                | ((with_reducible refine br_kf (by assumption) ?_); conv => whnf)
                | ((with_reducible refine br_nt (by assumption) ?_); conv => whnf)
                | ((with_reducible refine br_nf (by assumption) ?_); conv => whnf)
                | ((with_reducible refine br_et (by assumption) ?_); conv => whnf)
                | ((with_reducible refine br_ef (by assumption) ?_); conv => whnf)
                | ((with_reducible refine br_dec (fun h => ?_) (fun h => ?_)) <;> first | (exfalso; omega) | conv => whnf)
                | ((with_reducible refine br_ndec (fun h => ?_) (fun h => ?_)) <;> first | (exfalso; omega) | conv => whnf)
                | ((with_reducible refine br_ne (fun h => ?_) (fun h => ?_)) <;> first | (exfalso; omega) | conv => whnf)
                | ((with_reducible refine br_eq (fun h => ?_) (fun h => ?_)) <;> first | (exfalso; omega) | conv => whnf)
                | (refine br_intro (fun h => ?_) (fun h => ?_) <;> conv => whnf)
                | (refine need_in (by first | exact trivial | assumption | exact ⟨rfl, Nat.le_refl _⟩ | exact ⟨rfl, rfl⟩ | (simp only [inR]; omega) | omega | (simp only [roomP, true_and, and_true, List.length_take, List.length_drop, List.length_append, List.length_cons, List.length_nil, List.length_set, List.length_replicate]; omega) | (refine ⟨by first | exact trivial | rfl, by first | exact Nat.le_refl _ | omega | (simp; omega), ?_⟩; change roomP _ _ 1; simp only [roomP]; omega) | (change roomP _ _ 1; simp only [roomP]; omega) | (simp; omega) | (simp [inR]; omega) | (simp [inR]; done) | decide | (simp; done)) ?_; conv => whnf)
                | (refine idx_nat (by omega) (fun x hx => ?_); conv => whnf)
                | (refine frz_auto ?_; conv => whnf)
                | (refine draw_plain ?_; conv => whnf)
                | (refine idx_intro (by omega) (by omega) (fun x hx => ?_); conv => whnf)
                | (refine idx_intro (by first | omega | (simp; omega) | (simp; done)) (by first | omega | (simp; omega) | (simp; done)) (fun x hx => ?_); conv => whnf)
                | fail
              have hme : i = m.length := by omega
              subst hme
              have hwl : viewM m = [(1, oneE m, ())] := by unfold viewM; rw [if_pos (by omega)]
              rw [hwl] at hvm
              obtain ⟨hwv, hwm⟩ := hvm
              have hwm := hwm.trans hm0
              refine loop_inv [.frz 4 [69] [(2, 1)]] [12] (fun vs h => ∃ i l1 l2 l3 l4 l5 l6, vs = [.int .i64 ((i : Nat) : Int)] ∧ h = [.cells 25 [.lst entT b, .lst runT rs], .cells 29 [.str l1, .str l2, .bool l3, .bool l4, .str l5, .bool l6], .cells 25 [.zsl entT, .lst runT [(1, oneE m, ())]], .dead, .dead] ∧ i ≤ st.length ∧ cuE b rs ⟨l1, l2, l3, l4, l5, l6⟩ = 0) (fun vs _ => match vs with | [.int _ k] => st.length - k.toNat | _ => 0) ?_
              conv => whnf
              repeat' first
                | (refine idx_kn (by assumption) ?_; conv => whnf)
                | (refine idx_ki (by assumption) (by omega) ?_; conv => whnf)
                | (refine br_true (by first | with_reducible exact rfl | assumption | decide) ?_; conv => whnf)
                | (refine br_false (by first | with_reducible exact rfl | assumption | decide) ?_; conv => whnf)
                | ((with_reducible refine br_kt (by assumption) ?_); conv => whnf)
                | ((with_reducible refine br_kf (by assumption) ?_); conv => whnf)
                | ((with_reducible refine br_nt (by assumption) ?_); conv => whnf)
                | ((with_reducible refine br_nf (by assumption) ?_); conv => whnf)
                | ((with_reducible refine br_et (by assumption) ?_); conv => whnf)
                | ((with_reducible refine br_ef (by assumption) ?_); conv => whnf)
                | ((with_reducible refine br_dec (fun h => ?_) (fun h => ?_)) <;> first | (exfalso; omega) | conv => whnf)
                | ((with_reducible refine br_ndec (fun h => ?_) (fun h => ?_)) <;> first | (exfalso; omega) | conv => whnf)
                | ((with_reducible refine br_ne (fun h => ?_) (fun h => ?_)) <;> first | (exfalso; omega) | conv => whnf)
                | ((with_reducible refine br_eq (fun h => ?_) (fun h => ?_)) <;> first | (exfalso; omega) | conv => whnf)
                | (refine br_intro (fun h => ?_) (fun h => ?_) <;> conv => whnf)
                | (refine need_in (by first | exact trivial | assumption | exact ⟨rfl, Nat.le_refl _⟩ | exact ⟨rfl, rfl⟩ | (simp only [inR]; omega) | omega | (simp only [roomP, true_and, and_true, List.length_take, List.length_drop, List.length_append, List.length_cons, List.length_nil, List.length_set, List.length_replicate]; omega) | (refine ⟨by first | exact trivial | rfl, by first | exact Nat.le_refl _ | omega | (simp; omega), ?_⟩; change roomP _ _ 1; simp only [roomP]; omega) | (change roomP _ _ 1; simp only [roomP]; omega) | (simp; omega) | (simp [inR]; omega) | (simp [inR]; done) | decide | (simp; done)) ?_; conv => whnf)
                | (refine idx_nat (by omega) (fun x hx => ?_); conv => whnf)
                | (refine frz_auto ?_; conv => whnf)
                | (refine draw_plain ?_; conv => whnf)
                | (refine idx_intro (by omega) (by omega) (fun x hx => ?_); conv => whnf)
                | (refine idx_intro (by first | omega | (simp; omega) | (simp; done)) (by first | omega | (simp; omega) | (simp; done)) (fun x hx => ?_); conv => whnf)
                | fail
              refine ⟨⟨0, _, _, _, _, _, _, rfl, heap_w ?_, by omega, hc⟩, ?_⟩
              · show [((1 : Int), (oneE (m.take m.length)).take m.length, ())] = _
                rw [List.take_length, List.take_of_length_le (by rw [oneE_len]; omega)]
              rintro vs h' - ⟨i, l1, l2, l3, l4, l5, l6, rfl, rfl, hi0, hcu⟩
              by_cases hil : i < st.length
              · obtain ⟨x, hx⟩ : ∃ x, st[i]? = some x := ⟨_, List.getElem?_eq_getElem hil⟩
                have hx0 := hst0 x (List.mem_of_getElem? hx)
                have hs1 := mv_swap (s := ⟨l1, l2, l3, l4, l5, l6⟩) hv hwv hwm.symm true
                have hs2 := mv_swap (s := ⟨l1, l2, l3, l4, l5, l6⟩) hv hwv hwm.symm false
                have e1 : (mvR b rs ⟨l1, l2, l3, l4, l5, l6⟩ true).e = (mvR [] [(1, oneE m, ())] ⟨l1, l2, l3, l4, l5, l6⟩ true).e := congrArg Mv.e hs1
                have p1 : (!eqT pairT (mvR b rs ⟨l1, l2, l3, l4, l5, l6⟩ true).p (mvR [] [(1, oneE m, ())] ⟨l1, l2, l3, l4, l5, l6⟩ true).p) = false := by rw [hs1, eqP_refl]; rfl
                have c1 : (!eqT cuT (((mvR b rs ⟨l1, l2, l3, l4, l5, l6⟩ true).s.lo, (mvR b rs ⟨l1, l2, l3, l4, l5, l6⟩ true).s.hi, (mvR b rs ⟨l1, l2, l3, l4, l5, l6⟩ true).s.bd, ()), (mvR b rs ⟨l1, l2, l3, l4, l5, l6⟩ true).s.so, (mvR b rs ⟨l1, l2, l3, l4, l5, l6⟩ true).s.key, (mvR b rs ⟨l1, l2, l3, l4, l5, l6⟩ true).s.af, ()) (((mvR [] [(1, oneE m, ())] ⟨l1, l2, l3, l4, l5, l6⟩ true).s.lo, (mvR [] [(1, oneE m, ())] ⟨l1, l2, l3, l4, l5, l6⟩ true).s.hi, (mvR [] [(1, oneE m, ())] ⟨l1, l2, l3, l4, l5, l6⟩ true).s.bd, ()), (mvR [] [(1, oneE m, ())] ⟨l1, l2, l3, l4, l5, l6⟩ true).s.so, (mvR [] [(1, oneE m, ())] ⟨l1, l2, l3, l4, l5, l6⟩ true).s.key, (mvR [] [(1, oneE m, ())] ⟨l1, l2, l3, l4, l5, l6⟩ true).s.af, ())) = false := by rw [hs1, eqCu_refl]; rfl
                have e2 : (mvR b rs ⟨l1, l2, l3, l4, l5, l6⟩ false).e = (mvR [] [(1, oneE m, ())] ⟨l1, l2, l3, l4, l5, l6⟩ false).e := congrArg Mv.e hs2
                have p2 : (!eqT pairT (mvR b rs ⟨l1, l2, l3, l4, l5, l6⟩ false).p (mvR [] [(1, oneE m, ())] ⟨l1, l2, l3, l4, l5, l6⟩ false).p) = false := by rw [hs2, eqP_refl]; rfl
                have c2 : (!eqT cuT (((mvR b rs ⟨l1, l2, l3, l4, l5, l6⟩ false).s.lo, (mvR b rs ⟨l1, l2, l3, l4, l5, l6⟩ false).s.hi, (mvR b rs ⟨l1, l2, l3, l4, l5, l6⟩ false).s.bd, ()), (mvR b rs ⟨l1, l2, l3, l4, l5, l6⟩ false).s.so, (mvR b rs ⟨l1, l2, l3, l4, l5, l6⟩ false).s.key, (mvR b rs ⟨l1, l2, l3, l4, l5, l6⟩ false).s.af, ()) (((mvR [] [(1, oneE m, ())] ⟨l1, l2, l3, l4, l5, l6⟩ false).s.lo, (mvR [] [(1, oneE m, ())] ⟨l1, l2, l3, l4, l5, l6⟩ false).s.hi, (mvR [] [(1, oneE m, ())] ⟨l1, l2, l3, l4, l5, l6⟩ false).s.bd, ()), (mvR [] [(1, oneE m, ())] ⟨l1, l2, l3, l4, l5, l6⟩ false).s.so, (mvR [] [(1, oneE m, ())] ⟨l1, l2, l3, l4, l5, l6⟩ false).s.key, (mvR [] [(1, oneE m, ())] ⟨l1, l2, l3, l4, l5, l6⟩ false).s.af, ())) = false := by rw [hs2, eqCu_refl]; rfl
                conv => whnf
                repeat' first
                  | (refine idx_kn (by assumption) ?_; conv => whnf)
                  | (refine idx_ki (by assumption) (by omega) ?_; conv => whnf)
                  | (refine br_true (by first | with_reducible exact rfl | assumption | decide) ?_; conv => whnf)
                  | (refine br_false (by first | with_reducible exact rfl | assumption | decide) ?_; conv => whnf)
                  | ((with_reducible refine br_kt (by assumption) ?_); conv => whnf)
                  | ((with_reducible refine br_kf (by assumption) ?_); conv => whnf)
                  | ((with_reducible refine br_nt (by assumption) ?_); conv => whnf)
                  | ((with_reducible refine br_nf (by assumption) ?_); conv => whnf)
                  | ((with_reducible refine br_et (by assumption) ?_); conv => whnf)
                  | ((with_reducible refine br_ef (by assumption) ?_); conv => whnf)
                  | ((with_reducible refine br_dec (fun h => ?_) (fun h => ?_)) <;> first | (exfalso; omega) | conv => whnf)
                  | ((with_reducible refine br_ndec (fun h => ?_) (fun h => ?_)) <;> first | (exfalso; omega) | conv => whnf)
                  | ((with_reducible refine br_ne (fun h => ?_) (fun h => ?_)) <;> first | (exfalso; omega) | conv => whnf)
                  | ((with_reducible refine br_eq (fun h => ?_) (fun h => ?_)) <;> first | (exfalso; omega) | conv => whnf)
                  | (refine br_intro (fun h => ?_) (fun h => ?_) <;> conv => whnf)
                  | (refine need_in (by first | exact trivial | assumption | exact ⟨rfl, Nat.le_refl _⟩ | exact ⟨rfl, rfl⟩ | (simp only [inR]; omega) | omega | (simp only [roomP, true_and, and_true, List.length_take, List.length_drop, List.length_append, List.length_cons, List.length_nil, List.length_set, List.length_replicate]; omega) | (refine ⟨by first | exact trivial | rfl, by first | exact Nat.le_refl _ | omega | (simp; omega), ?_⟩; change roomP _ _ 1; simp only [roomP]; omega) | (change roomP _ _ 1; simp only [roomP]; omega) | (simp; omega) | (simp [inR]; omega) | (simp [inR]; done) | decide | (simp; done)) ?_; conv => whnf)
                  | (refine idx_nat (by omega) (fun x hx => ?_); conv => whnf)
                  | (refine frz_auto ?_; conv => whnf)
                  | (refine draw_plain ?_; conv => whnf)
                  | (refine idx_intro (by omega) (by omega) (fun x hx => ?_); conv => whnf)
                  | (refine idx_intro (by first | omega | (simp; omega) | (simp; done)) (by first | omega | (simp; omega) | (simp; done)) (fun x hx => ?_); conv => whnf)
                  | fail
                · refine back_intro (by conv => whnf) rfl ⟨i + 1, _, _, _, _, _, _, rfl, rfl, by omega, mv_cu (fw := true) hcu h⟩ ?_
                  show st.length - ((i : Int) + 1).toNat < st.length - (i : Int).toNat
                  omega
                · refine back_intro (by conv => whnf) rfl ⟨i + 1, _, _, _, _, _, _, rfl, rfl, by omega, hcu⟩ ?_
                  show st.length - ((i : Int) + 1).toNat < st.length - (i : Int).toNat
                  omega
                · refine back_intro (by conv => whnf) rfl ⟨i + 1, _, _, _, _, _, _, rfl, rfl, by omega, mv_cu (fw := false) hcu h⟩ ?_
                  show st.length - ((i : Int) + 1).toNat < st.length - (i : Int).toNat
                  omega
                · refine back_intro (by conv => whnf) rfl ⟨i + 1, _, _, _, _, _, _, rfl, rfl, by omega, hcu⟩ ?_
                  show st.length - ((i : Int) + 1).toNat < st.length - (i : Int).toNat
                  omega
              · conv => whnf
                repeat' first
                  | (refine idx_kn (by assumption) ?_; conv => whnf)
                  | (refine idx_ki (by assumption) (by omega) ?_; conv => whnf)
                  | (refine br_true (by first | with_reducible exact rfl | assumption | decide) ?_; conv => whnf)
                  | (refine br_false (by first | with_reducible exact rfl | assumption | decide) ?_; conv => whnf)
                  | ((with_reducible refine br_kt (by assumption) ?_); conv => whnf)
                  | ((with_reducible refine br_kf (by assumption) ?_); conv => whnf)
                  | ((with_reducible refine br_nt (by assumption) ?_); conv => whnf)
                  | ((with_reducible refine br_nf (by assumption) ?_); conv => whnf)
                  | ((with_reducible refine br_et (by assumption) ?_); conv => whnf)
                  | ((with_reducible refine br_ef (by assumption) ?_); conv => whnf)
                  | ((with_reducible refine br_dec (fun h => ?_) (fun h => ?_)) <;> first | (exfalso; omega) | conv => whnf)
                  | ((with_reducible refine br_ndec (fun h => ?_) (fun h => ?_)) <;> first | (exfalso; omega) | conv => whnf)
                  | ((with_reducible refine br_ne (fun h => ?_) (fun h => ?_)) <;> first | (exfalso; omega) | conv => whnf)
                  | ((with_reducible refine br_eq (fun h => ?_) (fun h => ?_)) <;> first | (exfalso; omega) | conv => whnf)
                  | (refine br_intro (fun h => ?_) (fun h => ?_) <;> conv => whnf)
                  | (refine need_in (by first | exact trivial | assumption | exact ⟨rfl, Nat.le_refl _⟩ | exact ⟨rfl, rfl⟩ | (simp only [inR]; omega) | omega | (simp only [roomP, true_and, and_true, List.length_take, List.length_drop, List.length_append, List.length_cons, List.length_nil, List.length_set, List.length_replicate]; omega) | (refine ⟨by first | exact trivial | rfl, by first | exact Nat.le_refl _ | omega | (simp; omega), ?_⟩; change roomP _ _ 1; simp only [roomP]; omega) | (change roomP _ _ 1; simp only [roomP]; omega) | (simp; omega) | (simp [inR]; omega) | (simp [inR]; done) | decide | (simp; done)) ?_; conv => whnf)
                  | (refine idx_nat (by omega) (fun x hx => ?_); conv => whnf)
                  | (refine frz_auto ?_; conv => whnf)
                  | (refine draw_plain ?_; conv => whnf)
                  | (refine idx_intro (by omega) (by omega) (fun x hx => ?_); conv => whnf)
                  | (refine idx_intro (by first | omega | (simp; omega) | (simp; done)) (by first | omega | (simp; omega) | (simp; done)) (fun x hx => ?_); conv => whnf)
                  | fail
            · rfl
        · have hm0' : (partR b rs ⟨#[]⟩ ⟨#[]⟩ false).1 = [] := List.length_eq_zero_iff.1 (by omega)
          rw [hm0'] at hvm
          obtain ⟨hwv, hwm⟩ := hvm
          have hwl : viewM [] = [] := rfl
          rw [hwl] at hwv hwm
          rw [hm0'] at hp1
          rw [hp1] at hwm
          refine loop_inv [] [12] (fun vs h => ∃ i l1 l2 l3 l4 l5 l6, vs = [.int .i64 ((i : Nat) : Int)] ∧ h = [.cells 25 [.lst entT b, .lst runT rs], .cells 29 [.str l1, .str l2, .bool l3, .bool l4, .str l5, .bool l6], .cells 25 [.zsl entT, .zsl runT]] ∧ i ≤ st.length ∧ cuE b rs ⟨l1, l2, l3, l4, l5, l6⟩ = 0) (fun vs _ => match vs with | [.int _ k] => st.length - k.toNat | _ => 0) ?_
          conv => whnf
          refine ⟨⟨0, _, _, _, _, _, _, rfl, rfl, by omega, hc⟩, ?_⟩
          rintro vs h' - ⟨i, l1, l2, l3, l4, l5, l6, rfl, rfl, hi0, hcu⟩
          by_cases hil : i < st.length
          · obtain ⟨x, hx⟩ : ∃ x, st[i]? = some x := ⟨_, List.getElem?_eq_getElem hil⟩
            have hx0 := hst0 x (List.mem_of_getElem? hx)
            have hs1 := mv_swap (s := ⟨l1, l2, l3, l4, l5, l6⟩) hv hwv hwm.symm true
            have hs2 := mv_swap (s := ⟨l1, l2, l3, l4, l5, l6⟩) hv hwv hwm.symm false
            have e1 : (mvR b rs ⟨l1, l2, l3, l4, l5, l6⟩ true).e = (mvR [] [] ⟨l1, l2, l3, l4, l5, l6⟩ true).e := congrArg Mv.e hs1
            have p1 : (!eqT pairT (mvR b rs ⟨l1, l2, l3, l4, l5, l6⟩ true).p (mvR [] [] ⟨l1, l2, l3, l4, l5, l6⟩ true).p) = false := by rw [hs1, eqP_refl]; rfl
            have c1 : (!eqT cuT (((mvR b rs ⟨l1, l2, l3, l4, l5, l6⟩ true).s.lo, (mvR b rs ⟨l1, l2, l3, l4, l5, l6⟩ true).s.hi, (mvR b rs ⟨l1, l2, l3, l4, l5, l6⟩ true).s.bd, ()), (mvR b rs ⟨l1, l2, l3, l4, l5, l6⟩ true).s.so, (mvR b rs ⟨l1, l2, l3, l4, l5, l6⟩ true).s.key, (mvR b rs ⟨l1, l2, l3, l4, l5, l6⟩ true).s.af, ()) (((mvR [] [] ⟨l1, l2, l3, l4, l5, l6⟩ true).s.lo, (mvR [] [] ⟨l1, l2, l3, l4, l5, l6⟩ true).s.hi, (mvR [] [] ⟨l1, l2, l3, l4, l5, l6⟩ true).s.bd, ()), (mvR [] [] ⟨l1, l2, l3, l4, l5, l6⟩ true).s.so, (mvR [] [] ⟨l1, l2, l3, l4, l5, l6⟩ true).s.key, (mvR [] [] ⟨l1, l2, l3, l4, l5, l6⟩ true).s.af, ())) = false := by rw [hs1, eqCu_refl]; rfl
            have e2 : (mvR b rs ⟨l1, l2, l3, l4, l5, l6⟩ false).e = (mvR [] [] ⟨l1, l2, l3, l4, l5, l6⟩ false).e := congrArg Mv.e hs2
            have p2 : (!eqT pairT (mvR b rs ⟨l1, l2, l3, l4, l5, l6⟩ false).p (mvR [] [] ⟨l1, l2, l3, l4, l5, l6⟩ false).p) = false := by rw [hs2, eqP_refl]; rfl
            have c2 : (!eqT cuT (((mvR b rs ⟨l1, l2, l3, l4, l5, l6⟩ false).s.lo, (mvR b rs ⟨l1, l2, l3, l4, l5, l6⟩ false).s.hi, (mvR b rs ⟨l1, l2, l3, l4, l5, l6⟩ false).s.bd, ()), (mvR b rs ⟨l1, l2, l3, l4, l5, l6⟩ false).s.so, (mvR b rs ⟨l1, l2, l3, l4, l5, l6⟩ false).s.key, (mvR b rs ⟨l1, l2, l3, l4, l5, l6⟩ false).s.af, ()) (((mvR [] [] ⟨l1, l2, l3, l4, l5, l6⟩ false).s.lo, (mvR [] [] ⟨l1, l2, l3, l4, l5, l6⟩ false).s.hi, (mvR [] [] ⟨l1, l2, l3, l4, l5, l6⟩ false).s.bd, ()), (mvR [] [] ⟨l1, l2, l3, l4, l5, l6⟩ false).s.so, (mvR [] [] ⟨l1, l2, l3, l4, l5, l6⟩ false).s.key, (mvR [] [] ⟨l1, l2, l3, l4, l5, l6⟩ false).s.af, ())) = false := by rw [hs2, eqCu_refl]; rfl
            conv => whnf
            repeat' first
              | (refine idx_kn (by assumption) ?_; conv => whnf)
              | (refine idx_ki (by assumption) (by omega) ?_; conv => whnf)
              | (refine br_true (by first | with_reducible exact rfl | assumption | decide) ?_; conv => whnf)
              | (refine br_false (by first | with_reducible exact rfl | assumption | decide) ?_; conv => whnf)
              | ((with_reducible refine br_kt (by assumption) ?_); conv => whnf)
              | ((with_reducible refine br_kf (by assumption) ?_); conv => whnf)
              | ((with_reducible refine br_nt (by assumption) ?_); conv => whnf)
              | ((with_reducible refine br_nf (by assumption) ?_); conv => whnf)
              | ((with_reducible refine br_et (by assumption) ?_); conv => whnf)
              | ((with_reducible refine br_ef (by assumption) ?_); conv => whnf)
              | ((with_reducible refine br_dec (fun h => ?_) (fun h => ?_)) <;> first | (exfalso; omega) | conv => whnf)
              | ((with_reducible refine br_ndec (fun h => ?_) (fun h => ?_)) <;> first | (exfalso; omega) | conv => whnf)
              | ((with_reducible refine br_ne (fun h => ?_) (fun h => ?_)) <;> first | (exfalso; omega) | conv => whnf)
              | ((with_reducible refine br_eq (fun h => ?_) (fun h => ?_)) <;> first | (exfalso; omega) | conv => whnf)
              | (refine br_intro (fun h => ?_) (fun h => ?_) <;> conv => whnf)
              | (refine need_in (by first | exact trivial | assumption | exact ⟨rfl, Nat.le_refl _⟩ | exact ⟨rfl, rfl⟩ | (simp only [inR]; omega) | omega | (simp only [roomP, true_and, and_true, List.length_take, List.length_drop, List.length_append, List.length_cons, List.length_nil, List.length_set, List.length_replicate]; omega) | (refine ⟨by first | exact trivial | rfl, by first | exact Nat.le_refl _ | omega | (simp; omega), ?_⟩; change roomP _ _ 1; simp only [roomP]; omega) | (change roomP _ _ 1; simp only [roomP]; omega) | (simp; omega) | (simp [inR]; omega) | (simp [inR]; done) | decide | (simp; done)) ?_; conv => whnf)
              | (refine idx_nat (by omega) (fun x hx => ?_); conv => whnf)
              | (refine frz_auto ?_; conv => whnf)
              | (refine draw_plain ?_; conv => whnf)
              | (refine idx_intro (by omega) (by omega) (fun x hx => ?_); conv => whnf)
              | (refine idx_intro (by first | omega | (simp; omega) | (simp; done)) (by first | omega | (simp; omega) | (simp; done)) (fun x hx => ?_); conv => whnf)
              | fail
            · refine back_intro (by conv => whnf) rfl ⟨i + 1, _, _, _, _, _, _, rfl, rfl, by omega, mv_cu (fw := true) hcu h⟩ ?_
              show st.length - ((i : Int) + 1).toNat < st.length - (i : Int).toNat
              omega
            · refine back_intro (by conv => whnf) rfl ⟨i + 1, _, _, _, _, _, _, rfl, rfl, by omega, hcu⟩ ?_
              show st.length - ((i : Int) + 1).toNat < st.length - (i : Int).toNat
              omega
            · refine back_intro (by conv => whnf) rfl ⟨i + 1, _, _, _, _, _, _, rfl, rfl, by omega, mv_cu (fw := false) hcu h⟩ ?_
              show st.length - ((i : Int) + 1).toNat < st.length - (i : Int).toNat
              omega
            · refine back_intro (by conv => whnf) rfl ⟨i + 1, _, _, _, _, _, _, rfl, rfl, by omega, hcu⟩ ?_
              show st.length - ((i : Int) + 1).toNat < st.length - (i : Int).toNat
              omega
          · conv => whnf
            repeat' first
              | (refine idx_kn (by assumption) ?_; conv => whnf)
              | (refine idx_ki (by assumption) (by omega) ?_; conv => whnf)
              | (refine br_true (by first | with_reducible exact rfl | assumption | decide) ?_; conv => whnf)
              | (refine br_false (by first | with_reducible exact rfl | assumption | decide) ?_; conv => whnf)
              | ((with_reducible refine br_kt (by assumption) ?_); conv => whnf)
              | ((with_reducible refine br_kf (by assumption) ?_); conv => whnf)
              | ((with_reducible refine br_nt (by assumption) ?_); conv => whnf)
              | ((with_reducible refine br_nf (by assumption) ?_); conv => whnf)
              | ((with_reducible refine br_et (by assumption) ?_); conv => whnf)
              | ((with_reducible refine br_ef (by assumption) ?_); conv => whnf)
              | ((with_reducible refine br_dec (fun h => ?_) (fun h => ?_)) <;> first | (exfalso; omega) | conv => whnf)
              | ((with_reducible refine br_ndec (fun h => ?_) (fun h => ?_)) <;> first | (exfalso; omega) | conv => whnf)
              | ((with_reducible refine br_ne (fun h => ?_) (fun h => ?_)) <;> first | (exfalso; omega) | conv => whnf)
              | ((with_reducible refine br_eq (fun h => ?_) (fun h => ?_)) <;> first | (exfalso; omega) | conv => whnf)
              | (refine br_intro (fun h => ?_) (fun h => ?_) <;> conv => whnf)
              | (refine need_in (by first | exact trivial | assumption | exact ⟨rfl, Nat.le_refl _⟩ | exact ⟨rfl, rfl⟩ | (simp only [inR]; omega) | omega | (simp only [roomP, true_and, and_true, List.length_take, List.length_drop, List.length_append, List.length_cons, List.length_nil, List.length_set, List.length_replicate]; omega) | (refine ⟨by first | exact trivial | rfl, by first | exact Nat.le_refl _ | omega | (simp; omega), ?_⟩; change roomP _ _ 1; simp only [roomP]; omega) | (change roomP _ _ 1; simp only [roomP]; omega) | (simp; omega) | (simp [inR]; omega) | (simp [inR]; done) | decide | (simp; done)) ?_; conv => whnf)
              | (refine idx_nat (by omega) (fun x hx => ?_); conv => whnf)
              | (refine frz_auto ?_; conv => whnf)
              | (refine draw_plain ?_; conv => whnf)
              | (refine idx_intro (by omega) (by omega) (fun x hx => ?_); conv => whnf)
              | (refine idx_intro (by first | omega | (simp; omega) | (simp; done)) (by first | omega | (simp; omega) | (simp; done)) (fun x hx => ?_); conv => whnf)
              | fail
      · conv => whnf
        repeat' first
          | (refine idx_kn (by assumption) ?_; conv => whnf)
          | (refine idx_ki (by assumption) (by omega) ?_; conv => whnf)
          | (refine br_true (by first | with_reducible exact rfl | assumption | decide) ?_; conv => whnf)
          | (refine br_false (by first | with_reducible exact rfl | assumption | decide) ?_; conv => whnf)
          | ((with_reducible refine br_kt (by assumption) ?_); conv => whnf)
          | ((with_reducible refine br_kf (by assumption) ?_); conv => whnf)
          | ((with_reducible refine br_nt (by assumption) ?_); conv => whnf)
          | ((with_reducible refine br_nf (by assumption) ?_); conv => whnf)
          | ((with_reducible refine br_et (by assumption) ?_); conv => whnf)
          | ((with_reducible refine br_ef (by assumption) ?_); conv => whnf)
          | ((with_reducible refine br_dec (fun h => ?_) (fun h => ?_)) <;> first | (exfalso; omega) | conv => whnf)
          | ((with_reducible refine br_ndec (fun h => ?_) (fun h => ?_)) <;> first | (exfalso; omega) | conv => whnf)
          | ((with_reducible refine br_ne (fun h => ?_) (fun h => ?_)) <;> first | (exfalso; omega) | conv => whnf)
          | ((with_reducible refine br_eq (fun h => ?_) (fun h => ?_)) <;> first | (exfalso; omega) | conv => whnf)
          | (refine br_intro (fun h => ?_) (fun h => ?_) <;> conv => whnf)
          | (refine need_in (by first | exact trivial | assumption | exact ⟨rfl, Nat.le_refl _⟩ | exact ⟨rfl, rfl⟩ | (simp only [inR]; omega) | omega | (simp only [roomP, true_and, and_true, List.length_take, List.length_drop, List.length_append, List.length_cons, List.length_nil, List.length_set, List.length_replicate]; omega) | (refine ⟨by first | exact trivial | rfl, by first | exact Nat.le_refl _ | omega | (simp; omega), ?_⟩; change roomP _ _ 1; simp only [roomP]; omega) | (change roomP _ _ 1; simp only [roomP]; omega) | (simp; omega) | (simp [inR]; omega) | (simp [inR]; done) | decide | (simp; done)) ?_; conv => whnf)
          | (refine idx_nat (by omega) (fun x hx => ?_); conv => whnf)
          | (refine frz_auto ?_; conv => whnf)
          | (refine draw_plain ?_; conv => whnf)
          | (refine idx_intro (by omega) (by omega) (fun x hx => ?_); conv => whnf)
          | (refine idx_intro (by first | omega | (simp; omega) | (simp; done)) (by first | omega | (simp; omega) | (simp; done)) (fun x hx => ?_); conv => whnf)
          | fail
    · have hff : (farB b rs || decide (200 < (lo.size : Int)) || decide (200 < (hi.size : Int)) || decide (200 < (key.size : Int))) = true := by rw [show farB b rs = true by simpa using hf]; rfl
      conv => whnf
      repeat' first
        | (refine idx_kn (by assumption) ?_; conv => whnf)
        | (refine idx_ki (by assumption) (by omega) ?_; conv => whnf)
        | (refine br_true (by first | with_reducible exact rfl | assumption | decide) ?_; conv => whnf)
        | (refine br_false (by first | with_reducible exact rfl | assumption | decide) ?_; conv => whnf)
        | ((with_reducible refine br_kt (by assumption) ?_); conv => whnf)
        | ((with_reducible refine br_kf (by assumption) ?_); conv => whnf)
        | ((with_reducible refine br_nt (by assumption) ?_); conv => whnf)
        | ((with_reducible refine br_nf (by assumption) ?_); conv => whnf)
        | ((with_reducible refine br_et (by assumption) ?_); conv => whnf)
        | ((with_reducible refine br_ef (by assumption) ?_); conv => whnf)
        | ((with_reducible refine br_dec (fun h => ?_) (fun h => ?_)) <;> first | (exfalso; omega) | conv => whnf)
        | ((with_reducible refine br_ndec (fun h => ?_) (fun h => ?_)) <;> first | (exfalso; omega) | conv => whnf)
        | ((with_reducible refine br_ne (fun h => ?_) (fun h => ?_)) <;> first | (exfalso; omega) | conv => whnf)
        | ((with_reducible refine br_eq (fun h => ?_) (fun h => ?_)) <;> first | (exfalso; omega) | conv => whnf)
        | (refine br_intro (fun h => ?_) (fun h => ?_) <;> conv => whnf)
        | (refine need_in (by first | exact trivial | assumption | exact ⟨rfl, Nat.le_refl _⟩ | exact ⟨rfl, rfl⟩ | (simp only [inR]; omega) | omega | (simp only [roomP, true_and, and_true, List.length_take, List.length_drop, List.length_append, List.length_cons, List.length_nil, List.length_set, List.length_replicate]; omega) | (refine ⟨by first | exact trivial | rfl, by first | exact Nat.le_refl _ | omega | (simp; omega), ?_⟩; change roomP _ _ 1; simp only [roomP]; omega) | (change roomP _ _ 1; simp only [roomP]; omega) | (simp; omega) | (simp [inR]; omega) | (simp [inR]; done) | decide | (simp; done)) ?_; conv => whnf)
        | (refine idx_nat (by omega) (fun x hx => ?_); conv => whnf)
        | (refine frz_auto ?_; conv => whnf)
        | (refine draw_plain ?_; conv => whnf)
        | (refine idx_intro (by omega) (by omega) (fun x hx => ?_); conv => whnf)
        | (refine idx_intro (by first | omega | (simp; omega) | (simp; done)) (by first | omega | (simp; omega) | (simp; done)) (fun x hx => ?_); conv => whnf)
        | fail
  · conv => whnf
    repeat' first
      | (refine idx_kn (by assumption) ?_; conv => whnf)
      | (refine idx_ki (by assumption) (by omega) ?_; conv => whnf)
      | (refine br_true (by first | with_reducible exact rfl | assumption | decide) ?_; conv => whnf)
      | (refine br_false (by first | with_reducible exact rfl | assumption | decide) ?_; conv => whnf)
      | ((with_reducible refine br_kt (by assumption) ?_); conv => whnf)
      | ((with_reducible refine br_kf (by assumption) ?_); conv => whnf)
      | ((with_reducible refine br_nt (by assumption) ?_); conv => whnf)
      | ((with_reducible refine br_nf (by assumption) ?_); conv => whnf)
      | ((with_reducible refine br_et (by assumption) ?_); conv => whnf)
      | ((with_reducible refine br_ef (by assumption) ?_); conv => whnf)
      | ((with_reducible refine br_dec (fun h => ?_) (fun h => ?_)) <;> first | (exfalso; omega) | conv => whnf)
      | ((with_reducible refine br_ndec (fun h => ?_) (fun h => ?_)) <;> first | (exfalso; omega) | conv => whnf)
      | ((with_reducible refine br_ne (fun h => ?_) (fun h => ?_)) <;> first | (exfalso; omega) | conv => whnf)
      | ((with_reducible refine br_eq (fun h => ?_) (fun h => ?_)) <;> first | (exfalso; omega) | conv => whnf)
      | (refine br_intro (fun h => ?_) (fun h => ?_) <;> conv => whnf)
      | (refine need_in (by first | exact trivial | assumption | exact ⟨rfl, Nat.le_refl _⟩ | exact ⟨rfl, rfl⟩ | (simp only [inR]; omega) | omega | (simp only [roomP, true_and, and_true, List.length_take, List.length_drop, List.length_append, List.length_cons, List.length_nil, List.length_set, List.length_replicate]; omega) | (refine ⟨by first | exact trivial | rfl, by first | exact Nat.le_refl _ | omega | (simp; omega), ?_⟩; change roomP _ _ 1; simp only [roomP]; omega) | (change roomP _ _ 1; simp only [roomP]; omega) | (simp; omega) | (simp [inR]; omega) | (simp [inR]; done) | decide | (simp; done)) ?_; conv => whnf)
      | (refine idx_nat (by omega) (fun x hx => ?_); conv => whnf)
      | (refine frz_auto ?_; conv => whnf)
      | (refine draw_plain ?_; conv => whnf)
      | (refine idx_intro (by omega) (by omega) (fun x hx => ?_); conv => whnf)
      | (refine idx_intro (by first | omega | (simp; omega) | (simp; done)) (by first | omega | (simp; omega) | (simp; done)) (fun x hx => ?_); conv => whnf)
      | fail
theorem lSa : ∀ es : Ty.Els lSa_T, tyOks lSa_T es → bodyA lSa_C (callN lSa_C lSa_N) Try.f7 (avTs lSa_T es) [] (fun v _ => v = .bool true) := by
  rintro ⟨⟨b, rs, _⟩, ⟨⟨lo, hi, bd, _⟩, so, key, af, _⟩, st, _⟩ hB
  have hB : ∀ x ∈ (st : List Int), inR .u8 x := by
    simp only [tyOks, tyOk] at hB
    exact hB.2.2.1.2
  exact lSa' b rs lo hi bd so key af st (fun x hx => (hB x hx).1)
end Go.Proofs.Ytfknchngldknnaa
