/-
  Of by the reference.
  A map of Go that holds a table: plain Lean.
-/
import Derived.Test.YtadckioheabliaaR8
import Derived.Test.YtadckioheabliaaAvs
namespace Go.Proofs.Ytadckioheabliaa
open Av

def ofErr : List (List Int) → Int
  | [] => 0
  | ids :: l => if lsE ids = 0 then ofErr l else lsE ids
def ofT (t : List rcT.El) : List (List Int) → List rcT.El
  | [] => t
  | ids :: l => ofT (bmp 1 ids t ids.length) l
theorem ofT_append (t : List rcT.El) : ∀ (l m : List (List Int)), ofT t (l ++ m) = ofT (ofT t l) m := by
  intro l
  induction l generalizing t with
  | nil => intro m; rfl
  | cons ids l ih => intro m; exact ih _ m
abbrev ofN (l : List (List Int)) (k : Nat) : List rcT.El := ofT [] (l.take k)
theorem ofN_succ {l : List (List Int)} {k : Nat} {ids : List Int} (h : l[k]? = some ids) : ofN l (k + 1) = bmp 1 ids (ofN l k) ids.length := by
  unfold ofN
  rw [List.take_add_one, h, ofT_append]; rfl
theorem ofErr_zero {l : List (List Int)} : ofErr l = 0 ↔ ∀ ids ∈ l, lsE ids = 0 := by
  induction l with
  | nil => exact ⟨fun _ => by simp, fun _ => rfl⟩
  | cons ids l ih =>
    show (if lsE ids = 0 then ofErr l else lsE ids) = 0 ↔ _
    by_cases h : lsE ids = 0
    · rw [if_pos h, ih]; simp [h]
    · rw [if_neg h]; simp [h]
theorem ofErr_at {l : List (List Int)} {k : Nat} {ids : List Int} (hs : ∀ m ∈ l.take k, lsE m = 0) (h : l[k]? = some ids) (he : lsE ids ≠ 0) : ofErr l = lsE ids := by
  induction l generalizing k with
  | nil => simp at h
  | cons m l ih =>
    cases k with
    | zero =>
      have : m = ids := by simpa using h
      subst this
      exact if_neg he
    | succ k =>
      show (if lsE m = 0 then ofErr l else lsE m) = _
      rw [if_pos (hs m (by simp))]
      exact ih (k := k) (fun q hq => hs q (by rw [List.take_succ_cons]; exact List.mem_cons_of_mem _ hq)) (by simpa using h)
def ofL (l : List (List Int)) : List rcT.El × Int :=
  if 1000 < l.length then ([], 3) else if ofErr l ≠ 0 then ([], ofErr l) else if 500 < (ofT [] l).length then ([], 3) else (ofT [] l, 0)
theorem asc_nil : ascC [] ∧ posC [] := ⟨List.Pairwise.nil, fun x hx => absurd hx (by simp)⟩
theorem ofT_asc : ∀ (l : List (List Int)) {t : List rcT.El}, ascC t ∧ posC t → ascC (ofT t l) ∧ posC (ofT t l)
  | [], t, h => h
  | ids :: l, t, h => ofT_asc l (bmp_asc h.1 h.2 _)
theorem ofN_asc (l : List (List Int)) (k : Nat) : ascC (ofN l k) ∧ posC (ofN l k) := ofT_asc _ asc_nil
theorem bmp_cnt1 {ids : List Int} {t : List rcT.El} (h : ascC t ∧ posC t) (k : Nat) (n : Int) : countC (bmp 1 ids t k) n = countC t n + (if n ∈ ids.take k then 1 else 0) :=
  bmp_cnt h.1 h.2 (fun n _ => by have := cnt_nonneg h.1 h.2 n; omega) k n
theorem ofT_cnt : ∀ (l : List (List Int)) {t : List rcT.El} (_ : ascC t ∧ posC t) (n : Int), countC (ofT t l) n = countC t n + (l.countP (fun ids => inI ids n) : Nat)
  | [], t, h, n => by simp [ofT]
  | ids :: l, t, h, n => by
    show countC (ofT (bmp 1 ids t ids.length) l) n = _
    rw [ofT_cnt l (bmp_asc h.1 h.2 _), bmp_cnt1 h, List.take_length, List.countP_cons]
    by_cases hn : n ∈ ids
    · rw [if_pos hn, if_pos (inI_iff.2 hn)]; omega
    · rw [if_neg hn, if_neg (fun e => hn (inI_iff.1 e))]; omega
theorem cntC_nil (n : Int) : countC [] n = 0 := rfl
theorem ofN_le {l : List (List Int)} {k : Nat} (hk : k ≤ l.length) (n : Int) : 0 ≤ countC (ofN l k) n ∧ countC (ofN l k) n ≤ k := by
  unfold ofN
  rw [ofT_cnt _ asc_nil, cntC_nil]
  have := List.countP_le_length (p := fun ids => inI ids n) (l := l.take k)
  rw [List.length_take] at this
  omega
def spOf : DSpec
  | [.lst (.sl (.int .i64)) l] => some (True, .tup [.lst rcT (ofL l).1, .int .i64 (ofL l).2])
  | _ => none
theorem cnt_in {t : List rcT.El} {n : Int} (h : countC t n ≠ 0) : ∃ x ∈ t, idC x = n := by
  rcases cnt_cases t n with h1 | h1
  · exact h1
  · exact absurd (cnt_none h1) h
def tabR (t : List rcT.El) : List rcT.El × Int := if limE t ≠ 0 then ([], limE t) else (t, 0)
end Go.Proofs.Ytadckioheabliaa
namespace Go.Proofs.Ytadckioheabliaa
open Av

abbrev mI : Type := Int × Int
abbrev fI (m : List mI) (k : Int) : Option Int := findK (kt := .int .i64) (vt := .int .i64) m k
abbrev hI (m : List mI) (k : Int) : Bool := hasK (kt := .int .i64) (vt := .int .i64) m k
abbrev pI (m : List mI) (k c : Int) : List mI := putL (kt := .int .i64) (vt := .int .i64) m k c
structure MapC (m : List mI) (t : List rcT.El) : Prop where
  nd : (m.map (·.1)).Nodup
  mem : ∀ e : mI, e ∈ m ↔ ((e.1, e.2, ()) : rcT.El) ∈ t
theorem mapC_nil : MapC [] [] := ⟨List.nodup_nil, by simp⟩
theorem key_inj {m : List mI} (h : (m.map (·.1)).Nodup) {i j : Nat} {a b : mI} (hi : m[i]? = some a) (hj : m[j]? = some b) (e : a.1 = b.1) : i = j := by
  have h1 : (m.map (·.1))[i]? = some a.1 := by rw [List.getElem?_map, hi]; rfl
  have h2 : (m.map (·.1))[j]? = some a.1 := by rw [List.getElem?_map, hj, e]; rfl
  have hl := (List.getElem?_eq_some_iff.1 h1).1
  exact (List.getElem?_inj hl h).1 (h1.trans h2.symm)
theorem hI_iff {m : List mI} {k : Int} : hI m k = true ↔ ∃ e ∈ m, e.1 = k := by
  show (m.any fun e => eqT (.int .i64) e.1 k) = true ↔ _
  rw [List.any_eq_true]
  constructor
  · rintro ⟨e, he, h⟩; exact ⟨e, he, eqI_iff.1 h⟩
  · rintro ⟨e, he, h⟩; exact ⟨e, he, eqI_iff.2 h⟩
theorem fI_none {m : List mI} {k : Int} (h : fI m k = none) : ∀ e ∈ m, e.1 ≠ k := by
  intro e he hk
  have h2 : (m.find? fun e => eqT (.int .i64) e.1 k) = none := by
    have h3 : (m.find? fun e => eqT (.int .i64) e.1 k).map (·.2) = none := h
    exact Option.map_eq_none_iff.1 h3
  rw [List.find?_eq_none] at h2
  exact h2 e he (eqI_iff.2 hk)
theorem fI_some {m : List mI} {k y : Int} (h : fI m k = some y) : (k, y) ∈ m := by
  have h3 : (m.find? fun e => eqT (.int .i64) e.1 k).map (·.2) = some y := h
  obtain ⟨e, he, hy⟩ := Option.map_eq_some_iff.1 h3
  have h1 := List.mem_of_find?_eq_some he
  have h2 : e.1 = k := eqI_iff.1 (List.find?_some (p := fun e : mI => eqT (.int .i64) e.1 k) he)
  have : e = (k, y) := by obtain ⟨a, b⟩ := e; cases h2; cases hy; rfl
  exact this ▸ h1
theorem mapC_some {m : List mI} {t : List rcT.El} (h : MapC m t) (ha : ascC t) {k y : Int} (hf : fI m k = some y) : y = countC t k := by
  have h1 := (h.mem _).1 (fI_some hf)
  exact (cnt_mem ha h1).symm
theorem mapC_pos {m : List mI} {t : List rcT.El} (h : MapC m t) (hp : posC t) {k y : Int} (hf : fI m k = some y) : 1 ≤ y := hp _ ((h.mem _).1 (fI_some hf))
theorem mapC_none {m : List mI} {t : List rcT.El} (h : MapC m t) {k : Int} (hf : fI m k = none) : countC t k = 0 := by
  refine cnt_none (fun x hx e => ?_)
  exact fI_none hf (idC x, nC x) ((h.mem _).2 hx) e
theorem pI_mem {m : List mI} {k c : Int} (hn : (m.map (·.1)).Nodup) (e : mI) : e ∈ pI m k c ↔ e = (k, c) ∨ (e ∈ m ∧ e.1 ≠ k) := by
  show e ∈ (match hI m k with | true => m.map (fun e : mI => if eqT (.int .i64) e.1 k then ((k, c) : mI) else e) | false => m ++ [(k, c)]) ↔ _
  cases hh : hI m k with
  | true =>
    show e ∈ (m.map fun e => if eqT (.int .i64) e.1 k then ((k, c) : mI) else e) ↔ _
    obtain ⟨q, hq, hqk⟩ := hI_iff.1 hh
    rw [List.mem_map]
    constructor
    · rintro ⟨x, hx, he⟩
      by_cases h : eqT (.int .i64) x.1 k = true
      · rw [if_pos h] at he; exact .inl he.symm
      · rw [if_neg h] at he
        subst he
        exact .inr ⟨hx, fun e => h (eqI_iff.2 e)⟩
    · rintro (rfl | ⟨he, hk⟩)
      · exact ⟨q, hq, by rw [if_pos (eqI_iff.2 hqk)]⟩
      · exact ⟨e, he, by rw [if_neg (fun h => hk (eqI_iff.1 h))]⟩
  | false =>
    show e ∈ m ++ [(k, c)] ↔ _
    rw [List.mem_append, List.mem_singleton]
    have hno : ∀ x ∈ m, x.1 ≠ k := fun x hx e => by
      rw [hI_iff.2 ⟨x, hx, e⟩] at hh; cases hh
    constructor
    · rintro (h | h)
      · exact .inr ⟨h, hno e h⟩
      · exact .inl h
    · rintro (h | h)
      · exact .inr h
      · exact .inl h.1
theorem pI_nd {m : List mI} {k c : Int} (hn : (m.map (·.1)).Nodup) : ((pI m k c).map (·.1)).Nodup := by
  show ((match hI m k with | true => m.map fun e => if eqT (.int .i64) e.1 k then ((k, c) : mI) else e | false => m ++ [(k, c)] : List mI).map (·.1)).Nodup
  cases hh : hI m k with
  | true =>
    show ((m.map fun e => if eqT (.int .i64) e.1 k then ((k, c) : mI) else e).map (·.1)).Nodup
    rw [List.map_map]
    have : m.map ((·.1) ∘ fun e => if eqT (.int .i64) e.1 k then ((k, c) : mI) else e) = m.map (·.1) := by
      refine List.map_congr_left (fun x _ => ?_)
      show (if eqT (.int .i64) x.1 k then ((k, c) : mI) else x).1 = x.1
      by_cases h : eqT (.int .i64) x.1 k = true
      · rw [if_pos h]; exact (eqI_iff.1 h).symm
      · rw [if_neg h]
    rw [this]
    exact hn
  | false =>
    show ((m ++ [((k, c) : mI)]).map (·.1)).Nodup
    rw [List.map_append, List.nodup_append]
    refine ⟨hn, by simp, ?_⟩
    intro a ha b hb e
    simp only [List.map_cons, List.map_nil, List.mem_singleton] at hb
    subst hb
    subst e
    obtain ⟨x, hx, hk⟩ := List.mem_map.1 ha
    rw [hI_iff.2 ⟨x, hx, hk⟩] at hh
    cases hh
theorem mapC_put {m : List mI} {t : List rcT.El} (h : MapC m t) (ha : ascC t) {k c : Int} (hc : 0 < c) : MapC (pI m k c) (withC t k c) where
  nd := pI_nd h.nd
  mem := fun e => by
    rw [pI_mem h.nd, (with_spec ha k c).2, h.mem]
    constructor
    · rintro (rfl | ⟨h1, h2⟩)
      · exact .inl ⟨hc, rfl⟩
      · exact .inr ⟨h1, h2⟩
    · rintro (⟨_, h1⟩ | ⟨h1, h2⟩)
      · obtain ⟨a, b⟩ := e
        cases h1
        exact .inl rfl
      · exact .inr ⟨h1, h2⟩
theorem mapC_del {m : List mI} {t : List rcT.El} (h : MapC m t) (ha : ascC t) {k : Int} {i : Nat} {e : mI} (hi : m[i]? = some e) (hk : e.1 = k) : MapC (m.eraseIdx i) (withC t k 0) where
  nd := by
    refine List.Nodup.sublist ?_ h.nd
    exact (List.eraseIdx_sublist m i).map _
  mem := fun x => by
    rw [(with_spec ha k 0).2, List.mem_eraseIdx_iff_getElem?]
    constructor
    · rintro ⟨j, hj, hx⟩
      refine .inr ⟨(h.mem x).1 (List.mem_of_getElem? hx), fun e2 => hj ?_⟩
      exact key_inj h.nd hx hi (e2.trans hk.symm)
    · rintro (⟨h0, _⟩ | ⟨h1, h2⟩)
      · exact absurd h0 (by decide)
      · obtain ⟨j, hj⟩ := List.mem_iff_getElem?.1 ((h.mem x).2 h1)
        refine ⟨j, fun e2 => h2 ?_, hj⟩
        subst e2
        rw [hi] at hj
        cases hj
        exact hk
theorem nodup_len_le {α : Type} [DecidableEq α] : ∀ {a b : List α}, a.Nodup → (∀ x ∈ a, x ∈ b) → a.length ≤ b.length
  | [], _, _, _ => Nat.zero_le _
  | x :: a, b, hn, h => by
    have hn' := List.nodup_cons.1 hn
    have hx := h x (by simp)
    have := nodup_len_le (a := a) (b := b.erase x) hn'.2 (fun y hy => by
      have hxy : y ≠ x := fun e => hn'.1 (e ▸ hy)
      exact (List.mem_erase_of_ne hxy).2 (h y (by simp [hy])))
    rw [List.length_erase_of_mem hx] at this
    have hb : 0 < b.length := List.length_pos_of_mem hx
    rw [List.length_cons]
    omega
theorem asc_nd {t : List rcT.El} (ha : ascC t) : (t.map idC).Nodup := by
  refine List.pairwise_map.2 (ha.imp ?_)
  intro a b h e
  exact absurd h (by rw [e]; exact Int.lt_irrefl _)
theorem mapC_len {m : List mI} {t : List rcT.El} (h : MapC m t) (ha : ascC t) : m.length = t.length := by
  have h1 := nodup_len_le h.nd (b := t.map idC) (fun x hx => by
    obtain ⟨e, he, rfl⟩ := List.mem_map.1 hx
    exact List.mem_map.2 ⟨_, (h.mem e).1 he, rfl⟩)
  have h2 := nodup_len_le (asc_nd ha) (b := m.map (·.1)) (fun x hx => by
    obtain ⟨e, he, rfl⟩ := List.mem_map.1 hx
    exact List.mem_map.2 ⟨(idC e, nC e), (h.mem _).2 he, rfl⟩)
  rw [List.length_map, List.length_map] at h1
  rw [List.length_map, List.length_map] at h2
  omega
/-! ### What was taken out of a map -/
structure Stp (m : List mI) (bs : List Nat) (ck : Nat) : Prop where
  ln : bs.length = m.length
  nd : bs.Nodup
  lt : ∀ b ∈ bs, b < ck
theorem stp_range (m : List mI) : Stp m (List.range m.length) m.length := ⟨List.length_range, List.nodup_range, fun b hb => List.mem_range.1 hb⟩
theorem stp_erase {m : List mI} {bs : List Nat} {ck i : Nat} (h : Stp m bs ck) : Stp (m.eraseIdx i) (bs.eraseIdx i) ck where
  ln := by rw [List.length_eraseIdx, List.length_eraseIdx, h.ln]
  nd := List.Nodup.sublist (List.eraseIdx_sublist bs i) h.nd
  lt := fun b hb => h.lt b ((List.eraseIdx_sublist bs i).subset hb)
theorem stp_put {m : List mI} {bs : List Nat} {ck : Nat} (h : Stp m bs ck) {k c : Int} (hk : hI m k = true) : Stp (pI m k c) bs ck where
  ln := by
    rw [h.ln]
    show _ = List.length (match hI m k with | true => m.map fun e => if eqT (.int .i64) e.1 k then ((k, c) : mI) else e | false => m ++ [(k, c)])
    rw [hk]
    show _ = (m.map _).length
    rw [List.length_map]
  nd := h.nd
  lt := h.lt
structure OutC (m : List mI) (bs seen : List Nat) (out : List rcT.El) (mx : Int) : Prop where
  mem : ∀ p : rcT.El, p ∈ out ↔ ∃ (i b : Nat), bs[i]? = some b ∧ b ∈ seen ∧ (m : List mI)[(i : Nat)]? = some ((idC p, nC p) : mI)
  nd : (out.map idC).Nodup
  sd : seen.Nodup
  sub : ∀ b ∈ seen, b ∈ bs
  ln : out.length = seen.length
  mx : (∀ p ∈ out, nC p ≤ mx) ∧ (mx = 0 ∨ ∃ p ∈ out, nC p = mx)
theorem outC_nil (m : List mI) (bs : List Nat) : OutC m bs [] [] 0 := ⟨by simp, List.nodup_nil, List.nodup_nil, by simp, rfl, by simp, .inl rfl⟩
theorem outC_le {m : List mI} {bs seen : List Nat} {out : List rcT.El} {mx : Int} (h : OutC m bs seen out mx) : seen.length ≤ bs.length := nodup_len_le h.sd h.sub
def maxI (a b : Int) : Int := if a < b then b else a
theorem outC_step {m : List mI} {bs seen : List Nat} {out : List rcT.El} {mx : Int} {ck : Nat} (hs : Stp m bs ck) (hm : (m.map (·.1)).Nodup) (h : OutC m bs seen out mx) {i b : Nat} {e : mI} (hi : m[i]? = some e) (hb : bs[i]? = some b) (hn : b ∉ seen) {x : rcT.El} (hx : x = (e.1, e.2, ())) {mx2 : Int} (hmx : mx2 = maxI mx e.2) : OutC m bs (b :: seen) (out ++ [x]) mx2 where
  nd := by
    rw [List.map_append, List.nodup_append]
    refine ⟨h.nd, by simp, ?_⟩
    intro a ha c hc hac
    simp only [List.map_cons, List.map_nil, List.mem_singleton] at hc
    subst hc
    subst hac
    obtain ⟨p, hp, hk⟩ := List.mem_map.1 ha
    obtain ⟨j, d, hd, hds, hj⟩ := (h.mem p).1 hp
    have hij := key_inj hm hi hj (by rw [hx] at hk; exact hk.symm)
    subst hij
    rw [hb] at hd
    cases hd
    exact hn hds
  sd := List.nodup_cons.2 ⟨hn, h.sd⟩
  sub := fun c hc => by
    rcases List.mem_cons.1 hc with rfl | hc
    · exact List.mem_of_getElem? hb
    · exact h.sub c hc
  ln := by have := h.ln; simp only [List.length_cons, List.length_append, List.length_nil]; omega
  mem := fun p => by
    rw [List.mem_append, h.mem p, List.mem_singleton]
    constructor
    · rintro (⟨j, d, h1, h2, h3⟩ | rfl)
      · exact ⟨j, d, h1, List.mem_cons_of_mem _ h2, h3⟩
      · exact ⟨i, b, hb, by simp, by rw [hx]; exact hi⟩
    · rintro ⟨j, d, h1, h2, h3⟩
      rcases List.mem_cons.1 h2 with rfl | h2
      · have hl := (List.getElem?_eq_some_iff.1 h1).1
        have : j = i := (List.getElem?_inj hl hs.nd).1 (h1.trans hb.symm)
        subst this
        rw [hi] at h3
        cases h3
        exact .inr hx.symm
      · exact .inl ⟨j, d, h1, h2, h3⟩
  mx := by
    obtain ⟨h1, h2⟩ := h.mx
    have hxn : nC x = e.2 := by rw [hx]
    subst hmx
    unfold maxI
    refine ⟨fun p hp => ?_, ?_⟩
    · rcases List.mem_append.1 hp with hp | hp
      · have := h1 p hp
        split <;> omega
      · have := List.mem_singleton.1 hp
        rw [this, hxn]
        split <;> omega
    · split
      · exact .inr ⟨x, by simp, hxn⟩
      · rcases h2 with h2 | ⟨p, hp, h2⟩
        · exact .inl h2
        · exact .inr ⟨p, by simp [hp], h2⟩
theorem outC_mem {m : List mI} {bs seen : List Nat} {out : List rcT.El} {mx : Int} {ck : Nat} {t : List rcT.El} (hs : Stp m bs ck) (hm : MapC m t) (h : OutC m bs seen out mx) (hall : ∀ b ∈ bs, b ∈ seen) (p : rcT.El) : p ∈ out ↔ p ∈ t := by
  rw [h.mem p]
  have h1 := hm.mem (idC p, nC p)
  constructor
  · rintro ⟨i, b, _, _, hi⟩
    exact h1.1 (List.mem_of_getElem? hi)
  · intro hp
    obtain ⟨i, hi⟩ := List.mem_iff_getElem?.1 (h1.2 hp)
    have hil := (List.getElem?_eq_some_iff.1 hi).1
    obtain ⟨b, hb⟩ : ∃ b, bs[i]? = some b := ⟨_, List.getElem?_eq_getElem (by rw [hs.ln]; exact hil)⟩
    exact ⟨i, b, hb, hall b (List.mem_of_getElem? hb), hi⟩
theorem outC_len {m : List mI} {bs seen : List Nat} {out : List rcT.El} {mx : Int} {ck : Nat} {t : List rcT.El} (hs : Stp m bs ck) (hm : MapC m t) (ha : ascC t) (h : OutC m bs seen out mx) (hall : ∀ b ∈ bs, b ∈ seen) : out.length = t.length := by
  have h1 := outC_le h
  have h2 := nodup_len_le hs.nd hall
  rw [h.ln, ← mapC_len hm ha, ← hs.ln]
  omega
theorem outC_max {m : List mI} {bs seen : List Nat} {out : List rcT.El} {mx : Int} {ck : Nat} {t : List rcT.El} (hs : Stp m bs ck) (hm : MapC m t) (h : OutC m bs seen out mx) (hall : ∀ b ∈ bs, b ∈ seen) : 1000000 < mx ↔ mostB t = false := by
  have hmem := outC_mem hs hm h hall
  obtain ⟨h1, h2⟩ := h.mx
  constructor
  · intro hb
    cases hc : mostB t with
    | false => rfl
    | true =>
      have h3 := mostB_iff.1 hc
      rcases h2 with h2 | ⟨p, hp, h2⟩
      · omega
      · have := h3 p ((hmem p).1 hp)
        omega
  · intro hb
    refine Int.not_le.1 (fun e => ?_)
    have : mostB t = true := mostB_iff.2 (fun x hx => Int.le_trans (h1 x ((hmem x).2 hx)) e)
    rw [this] at hb
    cases hb
theorem cmpI_lt {x y : Int} : cmpI x y < 0 ↔ x < y := by
  unfold cmpI
  by_cases h1 : x < y
  · rw [if_pos h1]; exact ⟨fun _ => h1, fun _ => by decide⟩
  · rw [if_neg h1]
    refine ⟨fun h => ?_, fun h => absurd h h1⟩
    split at h <;> exact absurd h (by decide)
theorem outC_sort {m : List mI} {bs seen : List Nat} {out out' : List rcT.El} {mx : Int} {ck : Nat} {t : List rcT.El} (hs : Stp m bs ck) (hm : MapC m t) (ha : ascC t) (h : OutC m bs seen out mx) (hall : ∀ b ∈ bs, b ∈ seen) (hp : out'.Perm out) (hsr : out'.Pairwise (fun x y => ¬ cmpI (idC y) (idC x) < 0)) : out' = t := by
  have hnd : (out'.map idC).Nodup := (hp.map idC).nodup_iff.2 h.nd
  have hn : out'.Pairwise (fun x y => idC x ≠ idC y) := List.pairwise_map.1 hnd
  refine asc_extC ?_ ha (fun p => by rw [hp.mem_iff, outC_mem hs hm h hall])
  refine (hsr.and hn).imp (fun {x y} hxy => ?_)
  have h1 : ¬ idC y < idC x := fun e => hxy.1 (cmpI_lt.2 e)
  have h2 := hxy.2
  omega
theorem limE_len {t : List rcT.El} (h : 500 < t.length) : limE t = 3 := by unfold limE; rw [if_pos h]
theorem limE_most {t : List rcT.El} (h : ¬ 500 < t.length) (hm : mostB t = false) : limE t = 7 := by unfold limE; rw [if_neg h, if_pos hm]
theorem limE_ok {t : List rcT.El} (h : ¬ 500 < t.length) (hm : ¬ mostB t = false) : limE t = 0 := by unfold limE; rw [if_neg h, if_neg hm]
theorem tab_3 {t : List rcT.El} (h : 500 < t.length) : tabR t = ([], 3) := by unfold tabR; rw [limE_len h]; rfl
theorem tab_7 {t : List rcT.El} (h : ¬ 500 < t.length) (hm : mostB t = false) : tabR t = ([], 7) := by unfold tabR; rw [limE_most h hm]; rfl
theorem tab_0 {t : List rcT.El} (h : ¬ 500 < t.length) (hm : ¬ mostB t = false) : tabR t = (t, 0) := by unfold tabR; rw [limE_ok h hm]; rfl
end Go.Proofs.Ytadckioheabliaa
