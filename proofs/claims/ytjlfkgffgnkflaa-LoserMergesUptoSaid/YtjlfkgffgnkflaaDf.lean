/-
  All players in order: plain laws.
-/
import Derived.Test.YtjlfkgffgnkflaaDe
import Derived.Test.YtjlfkgffgnkflaaOrd
import Derived.Test.YtjlfkgffgnkflaaSo4
namespace Lz
open Av Go.Sort

theorem beat_irr (a : keyT.El) (p : Nat) : beatE a a p p = false := by
  have : sEq a.1 a.1 = true := by simp [sEq]
  simp [beatE, this]
theorem winB_irr (ks : List keyT.El) (p : Nat) : winB ks p p = false := by
  unfold winB
  split
  · rename_i a b ha hb
    rw [ha] at hb
    cases hb
    exact beat_irr a p
  · rfl
theorem sLt_trans {a b c : ByteArray} (h1 : sLt a b = true) (h2 : sLt b c = true) : sLt a c = true := Bk.bl_trans _ _ _ h1 h2
theorem sLt_irr (a : ByteArray) : sLt a a = false := Bk.bl_irrefl _
theorem sEq_e {a b : ByteArray} (h : sEq a b = true) : a = b := sEq_iff.1 h
theorem sEq_f {a b : ByteArray} (h : a ≠ b) : sEq a b = false := by
  cases he : sEq a b with
  | false => rfl
  | true => exact absurd (sEq_e he) h
theorem sEq_t (a : ByteArray) : sEq a a = true := by simp [sEq]
theorem beat_trans {a b c : keyT.El} {p q r : Nat} (h1 : beatE a b p q = true) (h2 : beatE b c q r = true) : beatE a c p r = true := by
  obtain ⟨ka, da, ua⟩ := a
  obtain ⟨kb, db, ub⟩ := b
  obtain ⟨kc, dc, uc⟩ := c
  unfold beatE at *
  simp only at *
  by_cases hab : da = db
  · subst hab
    rw [if_pos rfl] at h1
    by_cases hbc : da = dc
    · subst hbc
      rw [if_pos rfl] at h2 ⊢
      by_cases e1 : ka = kb
      · subst e1
        rw [if_pos (sEq_t _)] at h1
        by_cases e2 : ka = kc
        · subst e2
          rw [if_pos (sEq_t _)] at h2 ⊢
          simp only [decide_eq_true_eq] at *
          omega
        · rw [sEq_f e2] at h2 ⊢
          exact h2
      · rw [sEq_f e1] at h1
        by_cases e2 : kb = kc
        · subst e2
          rw [sEq_f e1]
          exact h1
        · rw [sEq_f e2] at h2
          have h1 : sLt ka kb = true := h1
          have h2 : sLt kb kc = true := h2
          have h3 := sLt_trans h1 h2
          have e3 : ka ≠ kc := by
            rintro rfl
            rw [sLt_irr] at h3
            cases h3
          rw [sEq_f e3]
          exact h3
    · rw [if_neg hbc] at h2 ⊢
      exact h2
  · rw [if_neg hab] at h1
    by_cases hbc : db = dc
    · subst hbc
      rw [if_neg hab]
      exact h1
    · rw [if_neg hbc] at h2
      rw [h1, h2] at hbc
      exact absurd rfl hbc
theorem winB_trans {ks : List keyT.El} {p q r : Nat} (h1 : winB ks p q = true) (h2 : winB ks q r = true) : winB ks p r = true := by
  unfold winB at *
  cases ha : ks[p]? with
  | none => rw [ha] at h1; cases h1
  | some a =>
    cases hb : ks[q]? with
    | none => rw [hb, ha] at h1; cases h1
    | some b =>
      cases hc : ks[r]? with
      | none => rw [hb, hc] at h2; cases h2
      | some c =>
        rw [ha, hb] at h1
        rw [hb, hc] at h2
        exact beat_trans h1 h2
def pcT (ks : List keyT.El) (p Q : Nat) : Nat := ((List.range Q).filter fun q => winB ks q p).length
def plc (ks : List keyT.El) (p : Nat) : Nat := pcT ks p ks.length
def ordN (ks : List keyT.El) (i : Nat) : Nat := ((List.range ks.length).find? fun p => plc ks p == i).getD 0
def ordL (ks : List keyT.El) : List Int := (List.range ks.length).map fun i => ((ordN ks i : Nat) : Int)
theorem ordL_len (ks : List keyT.El) : (ordL ks).length = ks.length := by simp [ordL]
theorem pcT_step (ks : List keyT.El) (p Q : Nat) : pcT ks p (Q + 1) = if winB ks Q p = true then pcT ks p Q + 1 else pcT ks p Q := by
  unfold pcT
  rw [List.range_succ, List.filter_append, List.length_append]
  by_cases h : winB ks Q p = true
  · rw [if_pos h]; simp [h]
  · rw [if_neg h]; simp [h]
theorem pcT_le (ks : List keyT.El) (p Q : Nat) : pcT ks p Q ≤ Q := by
  unfold pcT
  have := List.length_filter_le (fun q => winB ks q p) (List.range Q)
  simpa using this
/-- Whatever holds all players, each before those that it wins against. -/
structure Sd (ks : List keyT.El) (s : List Nat) : Prop where
  perm : s.Perm (List.range ks.length)
  win : s.Pairwise fun x y => winB ks x y = true
theorem Sd.len {ks : List keyT.El} {s : List Nat} (h : Sd ks s) : s.length = ks.length := by have := h.perm.length_eq; simpa using this
theorem Sd.plc {ks : List keyT.El} {s : List Nat} (h : Sd ks s) {i : Nat} (hi : i < s.length) : plc ks s[i] = i := by
  unfold Lz.plc pcT
  rw [← List.countP_eq_length_filter, ← h.perm.countP_eq]
  have hs : s = s.take i ++ s[i] :: s.drop (i + 1) := by rw [List.getElem_cons_drop, List.take_append_drop]
  have hw := h.win
  generalize hx : s[i] = x at hs ⊢
  have hlen : (s.take i).length = i := by rw [List.length_take]; omega
  rw [hs] at hw ⊢
  rw [List.pairwise_append] at hw
  obtain ⟨_, hw2, hw3⟩ := hw
  rw [List.pairwise_cons] at hw2
  rw [List.countP_append, List.countP_cons]
  have e1 : List.countP (fun q => winB ks q x) (s.take i) = i := by
    rw [List.countP_eq_length.2, hlen]
    intro a ha
    exact hw3 a ha x (by simp)
  have e2 : List.countP (fun q => winB ks q x) (s.drop (i + 1)) = 0 := by
    rw [List.countP_eq_zero]
    intro a ha hax
    have h1 := hw2.1 a ha
    have := winB_trans h1 hax
    rw [winB_irr] at this
    cases this
  rw [e1, e2, winB_irr]
  simp
theorem Sd.ord {ks : List keyT.El} {s : List Nat} (h : Sd ks s) {i : Nat} (hi : i < s.length) : ordN ks i = s[i] := by
  unfold ordN
  cases hf : (List.range ks.length).find? fun p => Lz.plc ks p == i with
  | none =>
    have := List.find?_eq_none.1 hf s[i] (h.perm.subset (List.getElem_mem hi))
    rw [h.plc hi] at this
    simp at this
  | some p =>
    have h1 := List.find?_some hf
    have h2 := List.mem_of_find?_eq_some hf
    have h3 := h.perm.symm.subset h2
    obtain ⟨j, hj, rfl⟩ := List.mem_iff_getElem.1 h3
    have h1 : Lz.plc ks s[j] = i := by simpa using h1
    rw [h.plc hj] at h1
    subst h1
    rfl
theorem Sd.list {ks : List keyT.El} {s : List Nat} (h : Sd ks s) : (s.map fun p : Nat => (p : Int)) = ordL ks := by
  apply List.ext_getElem (by simp [ordL, h.len])
  intro i h1 h2
  have hi : i < s.length := by simpa using h1
  simp only [ordL, List.getElem_map, List.getElem_range]
  rw [h.ord hi]
theorem Sd.of {ks : List keyT.El} {s : List Nat} (hp : s.Perm (List.range ks.length)) (hs : s.Pairwise fun x y => winB ks y x = false) : Sd ks s := by
  refine ⟨hp, ?_⟩
  have hn : s.Pairwise (fun x y => x ≠ y) := (hp.nodup_iff.2 List.nodup_range : s.Nodup)
  refine List.Pairwise.imp_of_mem ?_ (hs.and hn)
  intro a b ha hb hab
  have ha := List.mem_range.1 (hp.subset ha)
  have hb := List.mem_range.1 (hp.subset hb)
  rw [winB_anti ha hb hab.2, hab.1]
  rfl
theorem Sd.ex (ks : List keyT.El) : ∃ s, Sd ks s := by
  by_cases h0 : ks.length = 0
  · refine ⟨[], .of (by rw [h0]; exact List.Perm.refl _) List.Pairwise.nil⟩
  have hl : ∀ x ∈ List.range ks.length, x < ks.length := fun x hx => List.mem_range.1 hx
  let cf : Nat → Nat → Int := fun p q => if winB ks p q = true then -1 else 1
  have hcf : ∀ p q, cf p q < 0 ↔ winB ks p q = true := by
    intro p q
    show (if winB ks p q = true then (-1 : Int) else 1) < 0 ↔ _
    split
    · rename_i h; simp [h]
    · rename_i h; simp [h]
  haveI : Inhabited {x // x < ks.length} := ⟨⟨0, by omega⟩⟩
  have hO := swo_of (Q := fun x => x < ks.length) (cf := cf) (fun x _ => by rw [hcf, winB_irr]; decide)
    (fun x y z _ _ _ h1 h2 => by rw [hcf] at *; exact winB_trans h1 h2)
    (fun x y z hx hy hz h1 h2 h3 => by
      rw [hcf] at *
      by_cases e1 : x = y
      · subst e1; exact h2 h3
      · by_cases e2 : y = z
        · subst e2; exact h1 h3
        · have h1 : winB ks y x = true := by
            rw [winB_anti hy hx (Ne.symm e1)]
            cases hh : winB ks x y with
            | false => rfl
            | true => exact absurd hh h1
          exact h2 (winB_trans h1 h3))
  obtain ⟨hp, hs⟩ := pdq_sorts _ hO (att (List.range ks.length) hl).toArray 0 (att (List.range ks.length) hl).toArray.size (Go.Lib.bitLen (att (List.range ks.length) hl).toArray.size) true true (Nat.zero_le _) (Nat.le_refl _) (Or.inl rfl)
  obtain ⟨h1, h2, _⟩ := sorted_list hp hs
  refine ⟨_, .of h1 (h2.imp fun {a b} h => ?_)⟩
  rw [hcf] at h
  simpa using h
theorem plc_lt {ks : List keyT.El} {p : Nat} (hp : p < ks.length) : plc ks p < ks.length := by
  obtain ⟨s, hs⟩ := Sd.ex ks
  obtain ⟨i, hi, rfl⟩ := List.mem_iff_getElem.1 (hs.perm.symm.subset (List.mem_range.2 hp))
  rw [hs.plc hi, ← hs.len]
  exact hi
theorem ordN_lt {ks : List keyT.El} {i : Nat} (hi : i < ks.length) : ordN ks i < ks.length := by
  obtain ⟨s, hs⟩ := Sd.ex ks
  have hi : i < s.length := by rw [hs.len]; exact hi
  rw [hs.ord hi]
  exact List.mem_range.1 (hs.perm.subset (List.getElem_mem hi))
theorem plc_ord {ks : List keyT.El} {i : Nat} (hi : i < ks.length) : plc ks (ordN ks i) = i := by
  obtain ⟨s, hs⟩ := Sd.ex ks
  have hi : i < s.length := by rw [hs.len]; exact hi
  rw [hs.ord hi]
  exact hs.plc hi
theorem ord_plc {ks : List keyT.El} {p : Nat} (hp : p < ks.length) : ordN ks (plc ks p) = p := by
  obtain ⟨s, hs⟩ := Sd.ex ks
  obtain ⟨i, hi, rfl⟩ := List.mem_iff_getElem.1 (hs.perm.symm.subset (List.mem_range.2 hp))
  rw [hs.plc hi]
  exact hs.ord hi
def OUp (ks : List keyT.El) (P : Nat) : List Int := (List.range ks.length).map fun j => if ordN ks j < P then ((ordN ks j : Nat) : Int) else 0
theorem OUp_len (ks : List keyT.El) (P : Nat) : (OUp ks P).length = ks.length := by simp [OUp]
theorem OUp_zero (ks : List keyT.El) : OUp ks 0 = List.replicate ks.length 0 := by
  apply List.ext_getElem (by simp [OUp])
  intro j h1 h2
  simp [OUp]
theorem OUp_end (ks : List keyT.El) {P : Nat} (h : ks.length ≤ P) : OUp ks P = ordL ks := by
  apply List.ext_getElem (by simp [OUp, ordL])
  intro j h1 h2
  have hj : j < ks.length := by simpa [OUp] using h1
  have := ordN_lt hj
  simp only [OUp, ordL, List.getElem_map, List.getElem_range]
  rw [if_pos (by omega)]
theorem OUp_set (ks : List keyT.El) {P : Nat} (h : P < ks.length) : (OUp ks P).set (plc ks P) (P : Int) = OUp ks (P + 1) := by
  apply List.ext_getElem (by simp [OUp])
  intro j h1 h2
  have hj : j < ks.length := by simpa [OUp] using h1
  simp only [OUp, List.getElem_set, List.getElem_map, List.getElem_range]
  by_cases hp : plc ks P = j
  · subst hp
    rw [if_pos rfl, ord_plc h, if_pos (by omega)]
  · rw [if_neg hp]
    have hne : ordN ks j ≠ P := by
      intro e
      exact hp (by rw [← e, plc_ord hj])
    by_cases hlt : ordN ks j < P
    · rw [if_pos hlt, if_pos (by omega)]
    · rw [if_neg hlt, if_neg (by omega)]
end Lz
