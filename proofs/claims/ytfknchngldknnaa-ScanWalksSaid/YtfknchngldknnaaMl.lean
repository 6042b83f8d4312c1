/-
  Where a cursor stands behind a move: plain Lean.
  Where a sought cursor stands; a cursor that stands at a place: plain Lean.
  The law of walks.
-/
import Derived.Test.YtfknchngldknnaaMg
namespace Go.Proofs.Ytfknchngldknnaa
open Av Bk

theorem rgL_at (b : List entT.El) (rs : List runT.El) (s : Cu) (k : ByteArray) (af : Bool) : rgL b rs (atS s k af) = rgL b rs s := rfl
theorem asc_lt {l : List pairT.El} (ha : ascP l) {i j : Nat} {x y : pairT.El} (hx : l[i]? = some x) (hy : l[j]? = some y) (h : i < j) : sLt x.1 y.1 = true := by
  have h1 := List.getElem?_eq_some_iff.1 hx
  have h2 := List.getElem?_eq_some_iff.1 hy
  have := List.pairwise_iff_getElem.1 ha _ _ h1.1 h2.1 h
  rw [h1.2, h2.2] at this
  exact this
theorem take_mem {l : List pairT.El} {i : Nat} {p : pairT.El} (h : p ∈ l.take i) : ∃ j, j < i ∧ l[j]? = some p := by
  obtain ⟨j, hj⟩ := List.mem_iff_getElem?.1 h
  rw [List.getElem?_take] at hj
  split at hj
  · exact ⟨j, by assumption, hj⟩
  · cases hj
theorem pos_at {l : List pairT.El} (ha : ascP l) (s : Cu) {i : Nat} {x : pairT.El} (hx : l[i]? = some x) (af : Bool) : nP (befB (atS s x.1 af)) l = if af = true then i + 1 else i := by
  have hi := (List.getElem?_eq_some_iff.1 hx).1
  have hb : ∀ p : pairT.El, befB (atS s x.1 af) p = (sLt p.1 x.1 || (af && sEq p.1 x.1)) := fun p => rfl
  cases af with
  | true =>
    rw [if_pos rfl]
    refine nP_at (fun p hp => ?_) (by omega) ?_
    · obtain ⟨j, hj, hq⟩ := take_mem hp
      rw [hb]
      by_cases hji : j = i
      · subst hji
        rw [hx] at hq
        cases hq
        rw [sEq_refl]
        simp
      · rw [asc_lt ha hq hx (by omega)]; rfl
    · by_cases he : i + 1 = l.length
      · exact .inl he
      · obtain ⟨y, hy⟩ : ∃ y, l[i + 1]? = some y := ⟨_, List.getElem?_eq_getElem (by omega)⟩
        refine .inr ⟨y, hy, ?_⟩
        have h1 := asc_lt ha hx hy (by omega)
        rw [hb, sLt_asym h1, sEq_no.2 (fun e => sLt_ne h1 e.symm)]
        rfl
  | false =>
    rw [if_neg (by decide)]
    refine nP_at (fun p hp => ?_) (by omega) (.inr ⟨x, hx, ?_⟩)
    · obtain ⟨j, hj, hq⟩ := take_mem hp
      rw [hb, asc_lt ha hq hx hj]; rfl
    · rw [hb, sLt_irrefl]; rfl
theorem cuE_at {b : List entT.El} {rs : List runT.El} {s : Cu} (h : cuE b rs s = 0) {x : pairT.El} (hx : x ∈ rgL b rs s) (af : Bool) : cuE b rs (atS s x.1 af) = 0 := by
  obtain ⟨h1, h2, _, _⟩ := cuE_zero h
  have hm := List.mem_filter.1 hx
  have hk : keyE x.1 = 0 := mapL_key (vcL_zero h1) hm.1
  have hr : riE b rs s.lo s.hi s.bd = 0 := cuE_ri h
  have hb : badS (atS s x.1 af) = false := by
    show ((!true && !sEq x.1 ⟨#[]⟩) || (true && !hasB s.lo s.hi s.bd x.1)) = false
    rw [show hasB s.lo s.hi s.bd x.1 = true from hm.2]
    rfl
  unfold cuE
  rw [if_neg (show ¬ riE b rs (atS s x.1 af).lo (atS s x.1 af).hi (atS s x.1 af).bd ≠ 0 from fun e => e hr), if_neg (show ¬ keyE (atS s x.1 af).key ≠ 0 from fun e => e hk), if_neg (by rw [hb]; decide)]
/-- Where a cursor stands. -/
def at' (b : List entT.El) (rs : List runT.El) (s : Cu) : Nat := nP (befB s) (rgL b rs s)
theorem at_le (b : List entT.El) (rs : List runT.El) (s : Cu) : at' b rs s ≤ (rgL b rs s).length := nP_le _ _
theorem left_at {b : List entT.El} {rs : List runT.El} {s : Cu} (h : cuE b rs s = 0) : leftR b rs s = ⟨at' b rs s, (rgL b rs s).length - at' b rs s, 0⟩ := left_ok h
theorem next_at {b : List entT.El} {rs : List runT.El} {s : Cu} (h : cuE b rs s = 0) : mvR b rs s true = match (rgL b rs s)[at' b rs s]? with | some x => ⟨x, atS s x.1 true, 0⟩ | none => ⟨zP, zCu, 12⟩ := by
  rw [mv_ok h, show nbO true (rgL b rs s) s = (rgL b rs s)[at' b rs s]? from (nP_find _ _).symm]
  cases (rgL b rs s)[at' b rs s]? <;> rfl
theorem prev_at {b : List entT.El} {rs : List runT.El} {s : Cu} (h : cuE b rs s = 0) : mvR b rs s false = match at' b rs s with | 0 => ⟨zP, zCu, 12⟩ | i + 1 => match (rgL b rs s)[i]? with | some x => ⟨x, atS s x.1 false, 0⟩ | none => ⟨zP, zCu, 12⟩ := by
  rw [mv_ok h, pv_take (rgL_asc b rs s) s]
  show mvOf s false (if at' b rs s = 0 then none else (rgL b rs s)[at' b rs s - 1]?) = _
  cases h2 : at' b rs s with
  | zero => rfl
  | succ i =>
    rw [if_neg (by omega), Nat.add_sub_cancel]
    simp only
    cases (rgL b rs s)[i]? <;> rfl
theorem at_at {b : List entT.El} {rs : List runT.El} {s : Cu} {i : Nat} {x : pairT.El} (hx : (rgL b rs s)[i]? = some x) (af : Bool) : at' b rs (atS s x.1 af) = if af = true then i + 1 else i := pos_at (rgL_asc b rs s) s hx af
/-- One more step of a cursor, written out. -/
abbrev ex (s : Cu) : Cu := ⟨s.lo, s.hi, s.bd, s.so, s.key, s.af⟩
structure Tn (b : List entT.El) (rs : List runT.El) (s : Cu) (fw : Bool) (a c : Int) : Prop where
  e : (mvR b rs s fw).e = 0
  le : (leftR b rs (ex (mvR b rs s fw).s)).e = 0
  la : ((leftR b rs (ex (mvR b rs s fw).s)).a : Int) = a
  lb : ((leftR b rs (ex (mvR b rs s fw).s)).b : Int) = c
  be : (mvR b rs (ex (mvR b rs s fw).s) (!fw)).e = 0
  bp : (mvR b rs (ex (mvR b rs s fw).s) (!fw)).p = (mvR b rs s fw).p
  ce : cuE b rs (ex (mvR b rs s fw).s) = 0
theorem tn_of {b : List entT.El} {rs : List runT.El} {s : Cu} (h : cuE b rs s = 0) {fw : Bool} {i : Nat} {x : pairT.El} (hx : (rgL b rs s)[i]? = some x) (hm : mvR b rs s fw = ⟨x, atS s x.1 fw, 0⟩) :
    Tn b rs s fw (if fw = true then i + 1 else i : Nat) ((rgL b rs s).length - (if fw = true then i + 1 else i) : Nat) := by
  have hi := List.getElem?_eq_some_iff.1 hx
  have hmem : x ∈ rgL b rs s := List.mem_of_getElem? hx
  have hc := cuE_at h hmem fw
  have ha := at_at (s := s) hx fw
  have hl := left_at hc
  have hs : ex (mvR b rs s fw).s = atS s x.1 fw := by rw [hm]
  refine ⟨by rw [hm], ?_, ?_, ?_, ?_, ?_, ?_⟩
  · rw [hs, hl]
  · rw [hs, hl]; show ((at' b rs (atS s x.1 fw) : Nat) : Int) = _; rw [ha]
  · rw [hs, hl]; show (((rgL b rs s).length - at' b rs (atS s x.1 fw) : Nat) : Int) = _; rw [ha]
  · rw [hs]
    cases fw with
    | true =>
      rw [show (!true) = false from rfl, prev_at hc, ha, if_pos rfl]
      simp only
      rw [rgL_at, hx]
    | false =>
      rw [show (!false) = true from rfl, next_at hc, ha, if_neg (by decide), rgL_at, hx]
  · rw [hs, hm]
    cases fw with
    | true =>
      rw [show (!true) = false from rfl, prev_at hc, ha, if_pos rfl]
      simp only
      rw [rgL_at, hx]
    | false =>
      rw [show (!false) = true from rfl, next_at hc, ha, if_neg (by decide), rgL_at, hx]
  · rw [hs]; exact hc
theorem turn_fw {b : List entT.El} {rs : List runT.El} {s : Cu} (h : cuE b rs s = 0) :
    ((mvR b rs s true).e ≠ 0 ∧ (leftR b rs s).b = 0) ∨ (0 < (leftR b rs s).b ∧ Tn b rs s true ((leftR b rs s).a + 1) ((leftR b rs s).b - 1)) := by
  have hle := at_le b rs s
  have hl := left_at h
  have hn := next_at h
  by_cases hi : at' b rs s < (rgL b rs s).length
  · right
    have hx := List.getElem?_eq_getElem hi
    rw [hx] at hn
    have ht := tn_of h hx hn
    refine ⟨by rw [hl]; show 0 < (rgL b rs s).length - at' b rs s; omega, ?_⟩
    rw [hl]
    rw [if_pos rfl] at ht
    refine (show ∀ (a c a' c' : Int), Tn b rs s true a c → a = a' → c = c' → Tn b rs s true a' c' from fun a c a' c' h e1 e2 => e1 ▸ e2 ▸ h) _ _ _ _ ht ?_ ?_
    · show ((at' b rs s + 1 : Nat) : Int) = (at' b rs s : Int) + 1; omega
    · show (((rgL b rs s).length - (at' b rs s + 1) : Nat) : Int) = (((rgL b rs s).length - at' b rs s : Nat) : Int) - 1; omega
  · left
    rw [List.getElem?_eq_none (by omega)] at hn
    refine ⟨by rw [hn]; exact (by decide : (12 : Int) ≠ 0), by rw [hl]; show (rgL b rs s).length - at' b rs s = 0; omega⟩
theorem turn_bw {b : List entT.El} {rs : List runT.El} {s : Cu} (h : cuE b rs s = 0) :
    ((mvR b rs s false).e ≠ 0 ∧ (leftR b rs s).a = 0) ∨ (0 < (leftR b rs s).a ∧ Tn b rs s false ((leftR b rs s).a - 1) ((leftR b rs s).b + 1)) := by
  have hle := at_le b rs s
  have hl := left_at h
  have hn := prev_at h
  cases hi : at' b rs s with
  | zero =>
    left
    rw [hi] at hn
    refine ⟨by rw [hn]; exact (by decide : (12 : Int) ≠ 0), by rw [hl]; exact hi⟩
  | succ i =>
    right
    rw [hi] at hn
    have hx := List.getElem?_eq_getElem (l := rgL b rs s) (i := i) (by omega)
    simp only at hn
    rw [hx] at hn
    have ht := tn_of h hx hn
    refine ⟨by rw [hl]; show 0 < at' b rs s; omega, ?_⟩
    rw [hl]
    rw [if_neg (by decide)] at ht
    refine (show ∀ (a c a' c' : Int), Tn b rs s false a c → a = a' → c = c' → Tn b rs s false a' c' from fun a c a' c' h e1 e2 => e1 ▸ e2 ▸ h) _ _ _ _ ht ?_ ?_
    · show (i : Int) = (at' b rs s : Int) - 1; omega
    · show (((rgL b rs s).length - i : Nat) : Int) = (((rgL b rs s).length - at' b rs s : Nat) : Int) + 1; omega
end Go.Proofs.Ytfknchngldknnaa
namespace Go.Proofs.Ytfknchngldknnaa
open Av Bk

theorem nP_cong {q q' : pairT.El → Bool} : ∀ {l : List pairT.El}, (∀ p ∈ l, q p = q' p) → nP q l = nP q' l
  | [], _ => rfl
  | p :: l, h => by
    unfold nP
    rw [h p (by simp), nP_cong (l := l) (fun y hy => h y (by simp [hy]))]
theorem cuE_set {b : List entT.El} {rs : List runT.El} {s : Cu} (h : cuE b rs s = 0) {k : ByteArray} (hk : keyE k = 0) (hb : hasB s.lo s.hi s.bd k = true) (af : Bool) : cuE b rs (atS s k af) = 0 := by
  have hr : riE b rs s.lo s.hi s.bd = 0 := cuE_ri h
  have hb : badS (atS s k af) = false := by
    show ((!true && !sEq k ⟨#[]⟩) || (true && !hasB s.lo s.hi s.bd k)) = false
    rw [hb]
    rfl
  unfold cuE
  rw [if_neg (show ¬ riE b rs (atS s k af).lo (atS s k af).hi (atS s k af).bd ≠ 0 from fun e => e hr), if_neg (show ¬ keyE (atS s k af).key ≠ 0 from fun e => e hk), if_neg (by rw [hb]; decide)]
theorem cuE_end {b : List entT.El} {rs : List runT.El} {lo hi : ByteArray} {bd : Bool} (h : riE b rs lo hi bd = 0) (af : Bool) : cuE b rs ⟨lo, hi, bd, false, ⟨#[]⟩, af⟩ = 0 := by
  have hb : badS ⟨lo, hi, bd, false, ⟨#[]⟩, af⟩ = false := by
    show ((!false && !sEq ⟨#[]⟩ ⟨#[]⟩) || (false && !hasB lo hi bd ⟨#[]⟩)) = false
    rw [sEq_refl]
    rfl
  unfold cuE
  rw [if_neg (fun e => e h), if_neg (show ¬ keyE ⟨#[]⟩ ≠ 0 by decide), if_neg (by rw [hb]; decide)]
theorem nP_all {q : pairT.El → Bool} {l : List pairT.El} (h : ∀ p ∈ l, q p = true) : nP q l = l.length := nP_at (fun p hp => h p (List.mem_of_mem_take hp)) (by omega) (.inl rfl)
theorem nP_none {q : pairT.El → Bool} {l : List pairT.El} (h : ∀ p ∈ l, q p = false) : nP q l = 0 := by
  cases l with
  | nil => rfl
  | cons x l => exact nP_at (by simp) (by simp) (.inr ⟨x, rfl, h x (by simp)⟩)
theorem sk_at {b : List entT.El} {rs : List runT.El} {s : Cu} (h : cuE b rs s = 0) {k : ByteArray} (hk : keyE k = 0) :
    (seekR b rs s k).e = 0 ∧ cuE b rs (seekR b rs s k).s = 0 ∧ rgL b rs (seekR b rs s k).s = rgL b rs s ∧ at' b rs (seekR b rs s k).s = nP (fun p => sLt p.1 k) (rgL b rs s) := by
  by_cases hb : hasB s.lo s.hi s.bd k = true
  · rw [seek_in h hk hb]
    refine ⟨rfl, cuE_set h hk hb false, rfl, ?_⟩
    show nP (befB (atS s k false)) (rgL b rs s) = _
    refine nP_cong (fun p _ => ?_)
    show (sLt p.1 k || (false && sEq p.1 k)) = sLt p.1 k
    rw [Bool.false_and, Bool.or_false]
  · rw [seek_out h hk (by simpa using hb)]
    refine ⟨rfl, cuE_end (cuE_ri h) _, rfl, ?_⟩
    show nP (fun _ => !sLt k s.lo) (rgL b rs s) = _
    refine nP_cong (fun p hp => ?_)
    have hp : hasB s.lo s.hi s.bd p.1 = true := (List.mem_filter.1 hp).2
    unfold hasB at hp hb
    rw [Bool.and_eq_true] at hp
    show (!sLt k s.lo) = sLt p.1 k
    cases hl : sLt k s.lo with
    | true =>
      have h1 : sLt p.1 s.lo = false := by simpa using hp.1
      cases h2 : sLt p.1 k with
      | false => rfl
      | true => rw [sLt_trans h2 hl] at h1; cases h1
    | false =>
      rw [hl] at hb
      cases hbd : s.bd with
      | false => rw [hbd] at hb; simp at hb
      | true =>
        rw [hbd] at hb hp
        have h1 : sLt k s.hi = false := by simpa using hb
        have h2 : sLt p.1 s.hi = true := by simpa using hp.2
        cases h3 : sLt p.1 k with
        | true => rfl
        | false => rw [show sLt p.1 s.hi = false from bl_ge_trans h3 h1] at h2; cases h2
/-- What a cursor that stands at place n answers. -/
structure Pl (b : List entT.El) (rs : List runT.El) (m : List pairT.El) (s : Cu) (n : Nat) : Prop where
  c : cuE b rs s = 0
  l : rgL b rs s = m
  a : at' b rs s = n
theorem Pl.le {b : List entT.El} {rs : List runT.El} {m : List pairT.El} {s : Cu} {n : Nat} (h : Pl b rs m s n) : n ≤ m.length := by
  have := at_le b rs s
  rw [h.a, h.l] at this
  exact this
theorem Pl.left {b : List entT.El} {rs : List runT.El} {m : List pairT.El} {s : Cu} {n : Nat} (h : Pl b rs m s n) : leftR b rs s = ⟨n, m.length - n, 0⟩ := by
  rw [left_at h.c, h.a, h.l]
theorem Pl.next {b : List entT.El} {rs : List runT.El} {m : List pairT.El} {s : Cu} {n : Nat} (h : Pl b rs m s n) {x : pairT.El} (hx : m[n]? = some x) : mvR b rs s true = ⟨x, atS s x.1 true, 0⟩ := by
  rw [next_at h.c, h.a, h.l, hx]
theorem Pl.next_end {b : List entT.El} {rs : List runT.El} {m : List pairT.El} {s : Cu} {n : Nat} (h : Pl b rs m s n) (hx : ¬ n < m.length) : mvR b rs s true = ⟨zP, zCu, 12⟩ := by
  rw [next_at h.c, h.a, h.l, List.getElem?_eq_none (by omega)]
theorem Pl.prev {b : List entT.El} {rs : List runT.El} {m : List pairT.El} {s : Cu} {n : Nat} (h : Pl b rs m s (n + 1)) {x : pairT.El} (hx : m[n]? = some x) : mvR b rs s false = ⟨x, atS s x.1 false, 0⟩ := by
  rw [prev_at h.c, h.a, h.l]
  simp only
  rw [hx]
theorem Pl.prev_end {b : List entT.El} {rs : List runT.El} {m : List pairT.El} {s : Cu} (h : Pl b rs m s 0) : mvR b rs s false = ⟨zP, zCu, 12⟩ := by
  rw [prev_at h.c, h.a]
theorem Pl.prev_i {b : List entT.El} {rs : List runT.El} {m : List pairT.El} {s : Cu} {n : Nat} (h : Pl b rs m s n) (h0 : 0 < n) {x : pairT.El} (hx : m[((n : Int) - 1).toNat]? = some x) : mvR b rs s false = ⟨x, atS s x.1 false, 0⟩ := by
  obtain ⟨j, rfl⟩ : ∃ j, n = j + 1 := ⟨n - 1, by omega⟩
  exact h.prev (by rw [← hx]; congr 1; omega)
theorem Pl.prev_no {b : List entT.El} {rs : List runT.El} {m : List pairT.El} {s : Cu} {n : Nat} (h : Pl b rs m s n) (h0 : ¬ 0 < n) : mvR b rs s false = ⟨zP, zCu, 12⟩ := by
  have : n = 0 := by omega
  subst this
  exact h.prev_end
theorem Pl.fw {b : List entT.El} {rs : List runT.El} {m : List pairT.El} {s : Cu} {n : Nat} (h : Pl b rs m s n) {x : pairT.El} (hx : m[n]? = some x) : Pl b rs m (atS s x.1 true) (n + 1) := by
  have hx' : (rgL b rs s)[n]? = some x := by rw [h.l]; exact hx
  exact ⟨cuE_at h.c (List.mem_of_getElem? hx') true, h.l, by rw [at_at hx', if_pos rfl]⟩
theorem Pl.bw {b : List entT.El} {rs : List runT.El} {m : List pairT.El} {s : Cu} {n : Nat} (h : Pl b rs m s (n + 1)) {x : pairT.El} (hx : m[n]? = some x) : Pl b rs m (atS s x.1 false) n := by
  have hx' : (rgL b rs s)[n]? = some x := by rw [h.l]; exact hx
  exact ⟨cuE_at h.c (List.mem_of_getElem? hx') false, h.l, by rw [at_at hx', if_neg (by decide)]⟩
theorem pl_seek {b : List entT.El} {rs : List runT.El} {s : Cu} (h : cuE b rs s = 0) {k : ByteArray} (hk : keyE k = 0) : Pl b rs (rgL b rs s) (seekR b rs s k).s (nP (fun p => sLt p.1 k) (rgL b rs s)) :=
  ⟨(sk_at h hk).2.1, (sk_at h hk).2.2.1, (sk_at h hk).2.2.2⟩
theorem pl_beg {b : List entT.El} {rs : List runT.El} {lo hi : ByteArray} {bd : Bool} (h : riE b rs lo hi bd = 0) : Pl b rs (rgL b rs ⟨lo, hi, bd, false, ⟨#[]⟩, false⟩) ⟨lo, hi, bd, false, ⟨#[]⟩, false⟩ 0 :=
  ⟨cuE_end h false, rfl, nP_none (fun _ _ => rfl)⟩
end Go.Proofs.Ytfknchngldknnaa
namespace Go.Proofs.Ytfknchngldknnaa
open Av Bk

theorem part_ri (b : List entT.El) (rs : List runT.El) (lo hi : ByteArray) (bd : Bool) : (partR b rs lo hi bd).2 = riE b rs lo hi bd := by
  unfold partR riE
  by_cases h : (vcL b rs).2 ≠ 0
  · rw [if_pos h, if_pos h]
  · rw [if_neg h, if_neg h]
    by_cases h2 : rgE lo hi bd ≠ 0
    · rw [if_pos h2]
    · rw [if_neg h2]
      have : rgE lo hi bd = 0 := by simpa using h2
      exact this.symm
theorem Pl.fw_ex {b : List entT.El} {rs : List runT.El} {m : List pairT.El} {s : Cu} {n : Nat} (h : Pl b rs m s n) {x : pairT.El} (hx : m[n]? = some x) : Pl b rs m (ex (mvR b rs s true).s) (n + 1) := by
  rw [h.next hx]
  exact h.fw hx
theorem Pl.bw_ex {b : List entT.El} {rs : List runT.El} {m : List pairT.El} {s : Cu} {n : Nat} (h : Pl b rs m s (n + 1)) {x : pairT.El} (hx : m[n]? = some x) : Pl b rs m (ex (mvR b rs s false).s) n := by
  rw [h.prev hx]
  exact h.bw hx
set_option maxRecDepth 100000 in
theorem fnOk_lWa : FnOk Try.prog 4 Try.f4 := ⟨by rfl, by kernel_rfl, by
  show okCode _ _ = true ∧ drawsOk _ = true
  exact ⟨by kernel_rfl, by kernel_rfl⟩⟩
noncomputable abbrev lWa_C : Cx := lw_C
abbrev lWa_D := lw_D
theorem lWa_F : FnsOk Try.prog lWa_C.fns := FnsOk.nil
abbrev lWa_N : Nat := 0
abbrev lWa_T : List Ty := [viewT, .st [.str, .str, .bool]]
abbrev lWa_FN := fnOk_lWa
set_option maxRecDepth 100000 in
set_option maxHeartbeats 8000000 in
theorem lWa' (b : List entT.El) (rs : List runT.El) (lo hi : ByteArray) (bd : Bool) : bodyA lWa_C (callN lWa_C lWa_N) Try.f4 [.agg [.lst entT b, .lst runT rs], .agg [.str lo, .str hi, .bool bd]] [] (fun v _ => v = .bool true) := by
  have hp2 := part_ri b rs lo hi bd
  by_cases hr : riE b rs lo hi bd = 0
  · have hll := rgL_len (s := ⟨lo, hi, bd, false, ⟨#[]⟩, false⟩) hr
    have hpl := pl_beg hr
    have hpr := rgL_part (s := ⟨lo, hi, bd, false, ⟨#[]⟩, false⟩) hr
    have hp1 : (partR b rs lo hi bd).1 = rgL b rs ⟨lo, hi, bd, false, ⟨#[]⟩, false⟩ := by rw [show partR b rs lo hi bd = _ from hpr]
    rw [hr] at hp2
    have hb1 : (begR b rs lo hi bd).e = 0 := by unfold begR; rw [if_neg (fun e => e hr)]
    have hb2 : (begR b rs lo hi bd).s = ⟨lo, hi, bd, false, ⟨#[]⟩, false⟩ := by unfold begR; rw [if_neg (fun e => e hr)]
    rw [← hp1, ← hb2] at hpl
    rw [← hp1] at hll
    conv => whnf
    repeat' first
      | (refine idx_kn (by assumption) ?_; conv => whnf)
      | (refine idx_ki (by assumption) (by omega) ?_; conv => whnf)
      | (refine br_true (by first | with_reducible exact rfl | assumption | decide) ?_; conv => whnf)
      | (refine br_false (by first | with_reducible exact rfl | assumption | decide) ?_; conv => whnf)
      | ((with_reducible refine br_kt (by assumption) ?_); conv => whnf)
      | ((with_reducible refine br_kf (by assumption) ?_); conv => whnf)
      | ((with_reducible refine br_nt (by assumption) ?_); conv => whnf)
      | ((with_reducible refine br_nf (by assumption) ?_); conv => whnf)
      | ((with_reducible refine br_et (by assumption) ?_); conv => whnf)
      | ((with_reducible refine br_ef (by assumption) ?_); conv => whnf)
      | ((with_reducible refine br_dec (fun h => ?_) (fun h => ?_)) <;> first | (exfalso; omega) | conv => whnf)
      | ((with_reducible refine br_ndec (fun h => ?_) (fun h => ?_)) <;> first | (exfalso; omega) | conv => whnf)
      | ((with_reducible refine br_ne (fun h => ?_) (fun h => ?_)) <;> first | (exfalso; omega) | conv => whnf)
      | ((with_reducible refine br_eq (fun h => ?_) (fun h => ?_)) <;> first | (exfalso; omega) | conv => whnf)
      | (refine br_intro (fun h => ?_) (fun h => ?_) <;> conv => whnf)
      | (refine need_in (by first | exact trivial | assumption | exact ⟨rfl, Nat.le_refl _⟩ | exact ⟨rfl, rfl⟩ | (simp only [inR]; omega) | omega | (simp only [roomP, true_and, and_true, List.length_take, List.length_drop, List.length_append, List.length_cons, List.length_nil, List.length_set, List.length_replicate]; omega) | (refine ⟨by first | exact trivial | rfl, by first | exact Nat.le_refl _ | omega | (simp; omega), ?_⟩; change roomP _ _ 1; simp only [roomP]; omega) | (change roomP _ _ 1; simp only [roomP]; omega) | (simp; omega) | (simp [inR]; omega) | (simp [inR]; done) | decide | (simp; done)) ?_; conv => whnf)
      | (refine idx_nat (by omega) (fun x hx => ?_); conv => whnf)
      | (refine frz_auto ?_; conv => whnf)
      | (refine draw_plain ?_; conv => whnf)
      | (refine idx_intro (by omega) (by omega) (fun x hx => ?_); conv => whnf)
      | (refine idx_intro (by first | omega | (simp; omega) | (simp; done)) (by first | omega | (simp; omega) | (simp; done)) (fun x hx => ?_); conv => whnf)
      | fail
    generalize (partR b rs lo hi bd).1 = m at hll hpl ⊢
    generalize (begR b rs lo hi bd).s = T at hpl ⊢
    obtain ⟨l1, l2, l3, l4, l5, l6⟩ := T
    refine loop_inv [] [9] (fun vs h => ∃ i l1 l2 l3 l4 l5 l6, vs = [.int .i64 ((i : Nat) : Int)] ∧ h = [.cells 25 [.lst entT b, .lst runT rs], .cells 27 [.str lo, .str hi, .bool bd], .cells 29 [.str l1, .str l2, .bool l3, .bool l4, .str l5, .bool l6]] ∧ i ≤ m.length ∧ Pl b rs m ⟨l1, l2, l3, l4, l5, l6⟩ i) (fun vs _ => match vs with | [.int _ j] => m.length - j.toNat | _ => 0) ?_
    conv => whnf
    refine ⟨⟨0, _, _, _, _, _, _, rfl, rfl, by omega, hpl⟩, ?_⟩
    clear hpl
    rintro vs h' - ⟨i, l1, l2, l3, l4, l5, l6, rfl, rfl, hi0, hpl⟩
    by_cases hil : i < m.length
    · obtain ⟨x, hx⟩ : ∃ x, m[i]? = some x := ⟨_, List.getElem?_eq_getElem hil⟩
      have n1 : (mvR b rs ⟨l1, l2, l3, l4, l5, l6⟩ true).e = 0 := congrArg Mv.e (hpl.next hx)
      have n2 : (!eqT pairT (mvR b rs ⟨l1, l2, l3, l4, l5, l6⟩ true).p x) = false := by rw [show (mvR b rs ⟨l1, l2, l3, l4, l5, l6⟩ true).p = x from congrArg Mv.p (hpl.next hx), eqP_refl]; rfl
      conv => whnf
      repeat' first
        | (refine idx_kn (by assumption) ?_; conv => whnf)
        | (refine idx_ki (by assumption) (by omega) ?_; conv => whnf)
        | (refine br_true (by first | with_reducible exact rfl | assumption | decide) ?_; conv => whnf)
        | (refine br_false (by first | with_reducible exact rfl | assumption | decide) ?_; conv => whnf)
        | ((with_reducible refine br_kt (by assumption) ?_); conv => whnf)
        | ((with_reducible refine br_kf (by assumption) ?_); conv => whnf)
        | ((with_reducible refine br_nt (by assumption) ?_); conv => whnf)
        | ((with_reducible refine br_nf (by assumption) ?_); conv => whnf)
        | ((with_reducible refine br_et (by assumption) ?_); conv => whnf)
        | ((with_reducible refine br_ef (by assumption) ?_); conv => whnf)
        | ((with_reducible refine br_dec (fun h => ?_) (fun h => ?_)) <;> first | (exfalso; omega) | conv => whnf)
        | ((with_reducible refine br_ndec (fun h => ?_) (fun h => ?_)) <;> first | (exfalso; omega) | conv => whnf)
        | ((with_reducible refine br_ne (fun h => ?_) (fun h => ?_)) <;> first | (exfalso; omega) | conv => whnf)
        | ((with_reducible refine br_eq (fun h => ?_) (fun h => ?_)) <;> first | (exfalso; omega) | conv => whnf)
        | (refine br_intro (fun h => ?_) (fun h => ?_) <;> conv => whnf)
        | (refine need_in (by first | exact trivial | assumption | exact ⟨rfl, Nat.le_refl _⟩ | exact ⟨rfl, rfl⟩ | (simp only [inR]; omega) | omega | (simp only [roomP, true_and, and_true, List.length_take, List.length_drop, List.length_append, List.length_cons, List.length_nil, List.length_set, List.length_replicate]; omega) | (refine ⟨by first | exact trivial | rfl, by first | exact Nat.le_refl _ | omega | (simp; omega), ?_⟩; change roomP _ _ 1; simp only [roomP]; omega) | (change roomP _ _ 1; simp only [roomP]; omega) | (simp; omega) | (simp [inR]; omega) | (simp [inR]; done) | decide | (simp; done)) ?_; conv => whnf)
        | (refine idx_nat (by omega) (fun x hx => ?_); conv => whnf)
        | (refine frz_auto ?_; conv => whnf)
        | (refine draw_plain ?_; conv => whnf)
        | (refine idx_intro (by omega) (by omega) (fun x hx => ?_); conv => whnf)
        | (refine idx_intro (by first | omega | (simp; omega) | (simp; done)) (by first | omega | (simp; omega) | (simp; done)) (fun x hx => ?_); conv => whnf)
        | fail
      refine back_intro (by conv => whnf) rfl ⟨i + 1, _, _, _, _, _, _, rfl, rfl, by omega, hpl.fw_ex hx⟩ ?_
      show m.length - ((i : Int) + 1).toNat < m.length - (i : Int).toNat
      omega
    · have hie : i = m.length := by omega
      subst hie
      have n1 : (mvR b rs ⟨l1, l2, l3, l4, l5, l6⟩ true).e = 12 := congrArg Mv.e (hpl.next_end hil)
      conv => whnf
      repeat' first
        | (refine idx_kn (by assumption) ?_; conv => whnf)
        | (refine idx_ki (by assumption) (by omega) ?_; conv => whnf)
        | (refine br_true (by first | with_reducible exact rfl | assumption | decide) ?_; conv => whnf)
        | (refine br_false (by first | with_reducible exact rfl | assumption | decide) ?_; conv => whnf)
        | ((with_reducible refine br_kt (by assumption) ?_); conv => whnf)
        | ((with_reducible refine br_kf (by assumption) ?_); conv => whnf)
        | ((with_reducible refine br_nt (by assumption) ?_); conv => whnf)
        | ((with_reducible refine br_nf (by assumption) ?_); conv => whnf)
        | ((with_reducible refine br_et (by assumption) ?_); conv => whnf)
        | ((with_reducible refine br_ef (by assumption) ?_); conv => whnf)
        | ((with_reducible refine br_dec (fun h => ?_) (fun h => ?_)) <;> first | (exfalso; omega) | conv => whnf)
        | ((with_reducible refine br_ndec (fun h => ?_) (fun h => ?_)) <;> first | (exfalso; omega) | conv => whnf)
        | ((with_reducible refine br_ne (fun h => ?_) (fun h => ?_)) <;> first | (exfalso; omega) | conv => whnf)
        | ((with_reducible refine br_eq (fun h => ?_) (fun h => ?_)) <;> first | (exfalso; omega) | conv => whnf)
        | (refine br_intro (fun h => ?_) (fun h => ?_) <;> conv => whnf)
        | (refine need_in (by first | exact trivial | assumption | exact ⟨rfl, Nat.le_refl _⟩ | exact ⟨rfl, rfl⟩ | (simp only [inR]; omega) | omega | (simp only [roomP, true_and, and_true, List.length_take, List.length_drop, List.length_append, List.length_cons, List.length_nil, List.length_set, List.length_replicate]; omega) | (refine ⟨by first | exact trivial | rfl, by first | exact Nat.le_refl _ | omega | (simp; omega), ?_⟩; change roomP _ _ 1; simp only [roomP]; omega) | (change roomP _ _ 1; simp only [roomP]; omega) | (simp; omega) | (simp [inR]; omega) | (simp [inR]; done) | decide | (simp; done)) ?_; conv => whnf)
        | (refine idx_nat (by omega) (fun x hx => ?_); conv => whnf)
        | (refine frz_auto ?_; conv => whnf)
        | (refine draw_plain ?_; conv => whnf)
        | (refine idx_intro (by omega) (by omega) (fun x hx => ?_); conv => whnf)
        | (refine idx_intro (by first | omega | (simp; omega) | (simp; done)) (by first | omega | (simp; omega) | (simp; done)) (fun x hx => ?_); conv => whnf)
        | fail
      refine loop_inv [] [13] (fun vs h => ∃ i j1 j2 j3 j4 j5 j6, vs = [.int .i64 ((i : Nat) - 1 : Int)] ∧ h = [.cells 25 [.lst entT b, .lst runT rs], .cells 27 [.str lo, .str hi, .bool bd], .cells 29 [.str j1, .str j2, .bool j3, .bool j4, .str j5, .bool j6], .cells 33 [.str (mvR b rs ⟨l1, l2, l3, l4, l5, l6⟩ true).p.1, .str (mvR b rs ⟨l1, l2, l3, l4, l5, l6⟩ true).p.2.1], .cells 29 [.str (mvR b rs ⟨l1, l2, l3, l4, l5, l6⟩ true).s.lo, .str (mvR b rs ⟨l1, l2, l3, l4, l5, l6⟩ true).s.hi, .bool (mvR b rs ⟨l1, l2, l3, l4, l5, l6⟩ true).s.bd, .bool (mvR b rs ⟨l1, l2, l3, l4, l5, l6⟩ true).s.so, .str (mvR b rs ⟨l1, l2, l3, l4, l5, l6⟩ true).s.key, .bool (mvR b rs ⟨l1, l2, l3, l4, l5, l6⟩ true).s.af]] ∧ i ≤ m.length ∧ Pl b rs m ⟨j1, j2, j3, j4, j5, j6⟩ i) (fun vs _ => match vs with | [.int _ j] => (j + 1).toNat | _ => 0) ?_
      conv => whnf
      refine ⟨⟨m.length, _, _, _, _, _, _, rfl, rfl, by omega, hpl⟩, ?_⟩
      clear n1 hpl hi0 hil
      rintro vs h' - ⟨i, j1, j2, j3, j4, j5, j6, rfl, rfl, hi0, hpl⟩
      by_cases h0 : 0 < i
      · obtain ⟨y, hy⟩ : ∃ y, m[((i : Int) - 1).toNat]? = some y := ⟨_, List.getElem?_eq_getElem (by omega)⟩
        have p1 : (mvR b rs ⟨j1, j2, j3, j4, j5, j6⟩ false).e = 0 := congrArg Mv.e (hpl.prev_i h0 hy)
        have p2 : (!eqT pairT (mvR b rs ⟨j1, j2, j3, j4, j5, j6⟩ false).p y) = false := by rw [show (mvR b rs ⟨j1, j2, j3, j4, j5, j6⟩ false).p = y from congrArg Mv.p (hpl.prev_i h0 hy), eqP_refl]; rfl
        conv => whnf
        repeat' first
          | (refine idx_kn (by assumption) ?_; conv => whnf)
          | (refine idx_ki (by assumption) (by omega) ?_; conv => whnf)
          | (refine br_true (by first | with_reducible exact rfl | assumption | decide) ?_; conv => whnf)
          | (refine br_false (by first | with_reducible exact rfl | assumption | decide) ?_; conv => whnf)
          | ((with_reducible refine br_kt (by assumption) ?_); conv => whnf)
          | ((with_reducible refine br_kf (by assumption) ?_); conv => whnf)
          | ((with_reducible refine br_nt (by assumption) ?_); conv => whnf)
          | ((with_reducible refine br_nf (by assumption) ?_); conv => whnf)
          | ((with_reducible refine br_et (by assumption) ?_); conv => whnf)
          | ((with_reducible refine br_ef (by assumption) ?_); conv => whnf)
          | ((with_reducible refine br_dec (fun h => ?_) (fun h => ?_)) <;> first | (exfalso; omega) | conv => whnf)
          | ((with_reducible refine br_ndec (fun h => ?_) (fun h => ?_)) <;> first | (exfalso; omega) | conv => whnf)
          | ((with_reducible refine br_ne (fun h => ?_) (fun h => ?_)) <;> first | (exfalso; omega) | conv => whnf)
          | ((with_reducible refine br_eq (fun h => ?_) (fun h => ?_)) <;> first | (exfalso; omega) | conv => whnf)
          | (refine br_intro (fun h => ?_) (fun h => ?_) <;> conv => whnf)
          | (refine need_in (by first | exact trivial | assumption | exact ⟨rfl, Nat.le_refl _⟩ | exact ⟨rfl, rfl⟩ | (simp only [inR]; omega) | omega | (simp only [roomP, true_and, and_true, List.length_take, List.length_drop, List.length_append, List.length_cons, List.length_nil, List.length_set, List.length_replicate]; omega) | (refine ⟨by first | exact trivial | rfl, by first | exact Nat.le_refl _ | omega | (simp; omega), ?_⟩; change roomP _ _ 1; simp only [roomP]; omega) | (change roomP _ _ 1; simp only [roomP]; omega) | (simp; omega) | (simp [inR]; omega) | (simp [inR]; done) | decide | (simp; done)) ?_; conv => whnf)
          | (refine idx_nat (by omega) (fun x hx => ?_); conv => whnf)
          | (refine frz_auto ?_; conv => whnf)
          | (refine draw_plain ?_; conv => whnf)
          | (refine idx_intro (by omega) (by omega) (fun x hx => ?_); conv => whnf)
          | (refine idx_intro (by first | omega | (simp; omega) | (simp; done)) (by first | omega | (simp; omega) | (simp; done)) (fun x hx => ?_); conv => whnf)
          | fail
        obtain ⟨j, rfl⟩ : ∃ j, i = j + 1 := ⟨i - 1, by omega⟩
        have hy' : m[j]? = some y := by rw [← hy]; congr 1; omega
        refine back_intro (by conv => whnf) rfl ⟨j, _, _, _, _, _, _, ?_, rfl, by omega, hpl.bw_ex hy'⟩ ?_
        · show [AV.int .i64 (((j + 1 : Nat) : Int) - 1 - 1)] = [AV.int .i64 ((j : Int) - 1)]
          rw [show ((j + 1 : Nat) : Int) - 1 - 1 = (j : Int) - 1 by omega]
        · show (((j + 1 : Nat) : Int) - 1 - 1 + 1).toNat < (((j + 1 : Nat) : Int) - 1 + 1).toNat
          omega
      · have p1 : (mvR b rs ⟨j1, j2, j3, j4, j5, j6⟩ false).e = 12 := congrArg Mv.e (hpl.prev_no h0)
        conv => whnf
        repeat' first
          | (refine idx_kn (by assumption) ?_; conv => whnf)
          | (refine idx_ki (by assumption) (by omega) ?_; conv => whnf)
          | (refine br_true (by first | with_reducible exact rfl | assumption | decide) ?_; conv => whnf)
          | (refine br_false (by first | with_reducible exact rfl | assumption | decide) ?_; conv => whnf)
          | ((with_reducible refine br_kt (by assumption) ?_); conv => whnf)
          | ((with_reducible refine br_kf (by assumption) ?_); conv => whnf)
          | ((with_reducible refine br_nt (by assumption) ?_); conv => whnf)
          | ((with_reducible refine br_nf (by assumption) ?_); conv => whnf)
          | ((with_reducible refine br_et (by assumption) ?_); conv => whnf)
          | ((with_reducible refine br_ef (by assumption) ?_); conv => whnf)
          | ((with_reducible refine br_dec (fun h => ?_) (fun h => ?_)) <;> first | (exfalso; omega) | conv => whnf)
          | ((with_reducible refine br_ndec (fun h => ?_) (fun h => ?_)) <;> first | (exfalso; omega) | conv => whnf)
          | ((with_reducible refine br_ne (fun h => ?_) (fun h => ?_)) <;> first | (exfalso; omega) | conv => whnf)
          | ((with_reducible refine br_eq (fun h => ?_) (fun h => ?_)) <;> first | (exfalso; omega) | conv => whnf)
          | (refine br_intro (fun h => ?_) (fun h => ?_) <;> conv => whnf)
          | (refine need_in (by first | exact trivial | assumption | exact ⟨rfl, Nat.le_refl _⟩ | exact ⟨rfl, rfl⟩ | (simp only [inR]; omega) | omega | (simp only [roomP, true_and, and_true, List.length_take, List.length_drop, List.length_append, List.length_cons, List.length_nil, List.length_set, List.length_replicate]; omega) | (refine ⟨by first | exact trivial | rfl, by first | exact Nat.le_refl _ | omega | (simp; omega), ?_⟩; change roomP _ _ 1; simp only [roomP]; omega) | (change roomP _ _ 1; simp only [roomP]; omega) | (simp; omega) | (simp [inR]; omega) | (simp [inR]; done) | decide | (simp; done)) ?_; conv => whnf)
          | (refine idx_nat (by omega) (fun x hx => ?_); conv => whnf)
          | (refine frz_auto ?_; conv => whnf)
          | (refine draw_plain ?_; conv => whnf)
          | (refine idx_intro (by omega) (by omega) (fun x hx => ?_); conv => whnf)
          | (refine idx_intro (by first | omega | (simp; omega) | (simp; done)) (by first | omega | (simp; omega) | (simp; done)) (fun x hx => ?_); conv => whnf)
          | fail
  · have hb1 : (begR b rs lo hi bd).e = (partR b rs lo hi bd).2 := by rw [hp2]; unfold begR; rw [if_pos hr]
    conv => whnf
    repeat' first
      | (refine idx_kn (by assumption) ?_; conv => whnf)
      | (refine idx_ki (by assumption) (by omega) ?_; conv => whnf)
      | (refine br_true (by first | with_reducible exact rfl | assumption | decide) ?_; conv => whnf)
      | (refine br_false (by first | with_reducible exact rfl | assumption | decide) ?_; conv => whnf)
      | ((with_reducible refine br_kt (by assumption) ?_); conv => whnf)
      | ((with_reducible refine br_kf (by assumption) ?_); conv => whnf)
      | ((with_reducible refine br_nt (by assumption) ?_); conv => whnf)
      | ((with_reducible refine br_nf (by assumption) ?_); conv => whnf)
      | ((with_reducible refine br_et (by assumption) ?_); conv => whnf)
      | ((with_reducible refine br_ef (by assumption) ?_); conv => whnf)
      | ((with_reducible refine br_dec (fun h => ?_) (fun h => ?_)) <;> first | (exfalso; omega) | conv => whnf)
      | ((with_reducible refine br_ndec (fun h => ?_) (fun h => ?_)) <;> first | (exfalso; omega) | conv => whnf)
      | ((with_reducible refine br_ne (fun h => ?_) (fun h => ?_)) <;> first | (exfalso; omega) | conv => whnf)
      | ((with_reducible refine br_eq (fun h => ?_) (fun h => ?_)) <;> first | (exfalso; omega) | conv => whnf)
      | (refine br_intro (fun h => ?_) (fun h => ?_) <;> conv => whnf)
      | (refine need_in (by first | exact trivial | assumption | exact ⟨rfl, Nat.le_refl _⟩ | exact ⟨rfl, rfl⟩ | (simp only [inR]; omega) | omega | (simp only [roomP, true_and, and_true, List.length_take, List.length_drop, List.length_append, List.length_cons, List.length_nil, List.length_set, List.length_replicate]; omega) | (refine ⟨by first | exact trivial | rfl, by first | exact Nat.le_refl _ | omega | (simp; omega), ?_⟩; change roomP _ _ 1; simp only [roomP]; omega) | (change roomP _ _ 1; simp only [roomP]; omega) | (simp; omega) | (simp [inR]; omega) | (simp [inR]; done) | decide | (simp; done)) ?_; conv => whnf)
      | (refine idx_nat (by omega) (fun x hx => ?_); conv => whnf)
      | (refine frz_auto ?_; conv => whnf)
      | (refine draw_plain ?_; conv => whnf)
      | (refine idx_intro (by omega) (by omega) (fun x hx => ?_); conv => whnf)
      | (refine idx_intro (by first | omega | (simp; omega) | (simp; done)) (by first | omega | (simp; omega) | (simp; done)) (fun x hx => ?_); conv => whnf)
      | fail
theorem lWa : ∀ es : Ty.Els lWa_T, tyOks lWa_T es → bodyA lWa_C (callN lWa_C lWa_N) Try.f4 (avTs lWa_T es) [] (fun v _ => v = .bool true) := by
  rintro ⟨⟨b, rs, _⟩, ⟨lo, hi, bd, _⟩, _⟩ _
  exact lWa' b rs lo hi bd
end Go.Proofs.Ytfknchngldknnaa
