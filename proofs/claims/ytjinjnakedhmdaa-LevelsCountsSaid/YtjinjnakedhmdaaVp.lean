/-
  Levels: plain laws: what a level has, what is put in its place.
  Levels: the law of counts.
-/
import Derived.Test.YtjinjnakedhmdaaVg
import Derived.Test.YtjinjnakedhmdaaVi
import Derived.Test.YtjinjnakedhmdaaVn
namespace Go.Proofs.Ytjinjnakedhmdaa
open Av Bk

def atL (l : List lvT.El) (i : Nat) : List runT.El := match l[i]? with | some x => rsL x | none => []
theorem own_at (l : List lvT.El) (n : Int) : ownL l n = atL l n.toNat := rfl
theorem atL_get {l : List lvT.El} {i : Nat} {x : lvT.El} (h : l[i]? = some x) : atL l i = rsL x := by unfold atL; rw [h]
theorem atL_out {l : List lvT.El} {i : Nat} (h : l.length ≤ i) : atL l i = [] := by unfold atL; rw [List.getElem?_eq_none h]
theorem flat_nil {α β : Type} {l : List α} {f : α → List β} (h : ∀ i ∈ l, f i = []) : l.flatMap f = [] := by
  induction l with
  | nil => rfl
  | cons x l ih => rw [List.flatMap_cons, h x List.mem_cons_self, ih (fun i hi => h i (List.mem_cons_of_mem _ hi))]; rfl
theorem flat_congr {α β : Type} {l : List α} {f g : α → List β} (h : ∀ i ∈ l, f i = g i) : l.flatMap f = l.flatMap g := by
  induction l with
  | nil => rfl
  | cons x l ih => rw [List.flatMap_cons, List.flatMap_cons, h x List.mem_cons_self, ih (fun i hi => h i (List.mem_cons_of_mem _ hi))]
theorem flat_at {β : Type} (F : List runT.El → List β) (h0 : F [] = []) : ∀ (l : List lvT.El) (m : Nat), l.length ≤ m → l.flatMap (fun x => F (rsL x)) = (List.range m).flatMap (fun i => F (atL l i))
  | [], m, _ => (flat_nil fun i _ => h0).symm
  | x :: l, 0, h => by simp at h
  | x :: l, m + 1, h => by
    have h : l.length ≤ m := by simpa using h
    rw [List.range_succ_eq_map, List.flatMap_cons, List.flatMap_cons, List.flatMap_map, flat_at F h0 l m h]
    rfl
theorem range_split {n m : Nat} (h : n < m) : List.range m = List.range n ++ n :: List.range' (n + 1) (m - n - 1) := by
  have e : m = n + (m - n) := by omega
  have e2 : m - n = (m - n - 1) + 1 := by omega
  conv => lhs; rw [e]
  rw [List.range_eq_range', List.range_eq_range', ← List.range'_append_1, Nat.zero_add]
  conv => lhs; rw [e2]
  rw [List.range'_succ]
/-- What lies ahead of a level, and behind it. -/
def loL {β : Type} (F : List runT.El → List β) (l : List lvT.El) (n : Nat) : List β := (List.range n).flatMap fun i => F (atL l i)
def hiL {β : Type} (F : List runT.El → List β) (l : List lvT.El) (n : Nat) : List β := (List.range' (n + 1) (12 - n - 1)).flatMap fun i => F (atL l i)
theorem flat_lo {β : Type} (F : List runT.El → List β) {l : List lvT.El} {n : Nat} (hn : n < 12) : loL F l 12 = loL F l n ++ (F (atL l n) ++ hiL F l n) := by
  unfold loL hiL
  rw [range_split hn, List.flatMap_append, List.flatMap_cons]
theorem lo_congr {β : Type} (F : List runT.El → List β) {l m : List lvT.El} {n : Nat} (h : ∀ i, i ≠ n → atL l i = atL m i) : loL F l n = loL F m n ∧ hiL F l n = hiL F m n := by
  constructor
  · exact flat_congr fun i hi => by rw [h i (by have := List.mem_range.1 hi; omega)]
  · exact flat_congr fun i hi => by
      have := (List.mem_range'_1.1 hi).1
      rw [h i (by omega)]
abbrev revF (l : List runT.El) : List runT.El := l.reverse
abbrev idF (l : List runT.El) : List Int := l.map idR
theorem newL_lo {l : List lvT.El} (h : l.length ≤ 12) : newL l = loL revF l 12 := flat_at revF rfl l 12 h
def allI (l : List lvT.El) : List Int := l.flatMap fun x => (rsL x).map idR
theorem allI_lo {l : List lvT.El} (h : l.length ≤ 12) : allI l = loL idF l 12 := flat_at idF rfl l 12 h
theorem new_ids {l : List lvT.El} {a : Int} : a ∈ (newL l).map idR ↔ a ∈ allI l := by
  unfold newL allI
  rw [List.mem_map, List.mem_flatMap]
  constructor
  · rintro ⟨r, hr, rfl⟩
    obtain ⟨x, hx, h⟩ := List.mem_flatMap.1 hr
    exact ⟨x, hx, List.mem_map_of_mem (List.mem_reverse.1 h)⟩
  · rintro ⟨x, hx, h⟩
    obtain ⟨r, hr, rfl⟩ := List.mem_map.1 h
    exact ⟨r, List.mem_flatMap.2 ⟨x, hx, List.mem_reverse.2 hr⟩, rfl⟩

/-! ### Levels without those at the end that have no runs -/
theorem trim_ex (L : List lvT.El) : ∀ m, m ≤ L.length → ∃ k, k ≤ m ∧ trimL (L.take m) = L.take k ∧ (∀ i, k ≤ i → i < m → atL L i = []) ∧ (k = 0 ∨ ∃ x, L[k - 1]? = some x ∧ (rsL x).isEmpty = false)
  | 0, _ => ⟨0, Nat.le_refl _, by rw [List.take_zero]; rfl, fun i h1 h2 => by omega, .inl rfl⟩
  | m + 1, hm => by
    obtain ⟨x, hx⟩ : ∃ x : lvT.El, L[m]? = some x := ⟨_, List.getElem?_eq_getElem (by omega)⟩
    cases he : (rsL x).isEmpty with
    | true =>
      obtain ⟨k, h1, h2, h3, h4⟩ := trim_ex L m (by omega)
      refine ⟨k, by omega, by rw [trim_cut hx, he, if_pos rfl, h2], fun i hi hi2 => ?_, h4⟩
      by_cases e : i = m
      · subst e; rw [atL_get hx]; exact List.isEmpty_iff.1 he
      · exact h3 i hi (by omega)
    | false => exact ⟨m + 1, Nat.le_refl _, by rw [trim_cut hx, he]; rfl, fun i h1 h2 => by omega, .inr ⟨x, hx, he⟩⟩
theorem trim_at (L : List lvT.El) : (∀ i, atL (trimL L) i = atL L i) ∧ lastE (trimL L) = false ∧ (trimL L).length ≤ L.length := by
  obtain ⟨k, h1, h2, h3, h4⟩ := trim_ex L L.length (Nat.le_refl _)
  rw [List.take_length] at h2
  rw [h2]
  refine ⟨fun i => ?_, ?_, by rw [List.length_take]; omega⟩
  · by_cases hi : i < k
    · unfold atL; rw [List.getElem?_take, if_pos hi]
    · rw [atL_out (by rw [List.length_take]; omega)]
      by_cases hl : i < L.length
      · exact (h3 i (by omega) hl).symm
      · exact (atL_out (by omega)).symm
  · rcases h4 with h4 | ⟨x, hx, he⟩
    · subst h4; rw [List.take_zero]; rfl
    · have hk : 0 < k ∨ k = 0 := by omega
      rcases hk with hk | hk
      · rw [lastE_at (x := x) (by rw [List.length_take, Nat.min_eq_left h1, List.getElem?_take, if_pos (by omega)]; exact hx)]
        exact he
      · subst hk; rw [List.take_zero]; rfl
theorem put_at (l : List lvT.El) (n : Nat) (rs : List runT.El) (i : Nat) : atL (putLv l n rs) i = if i = n then rs else atL l i := by
  have hl := putLv_len l n rs
  unfold atL putLv
  rw [List.getElem?_set]
  by_cases e : i = n
  · subst e
    rw [if_pos rfl, if_pos rfl, if_pos (by rw [List.length_append, List.length_replicate]; omega)]
  · rw [if_neg (fun h => e h.symm), if_neg e]
    by_cases hi : i < l.length
    · rw [List.getElem?_append_left hi]
    · rw [List.getElem?_append_right (by omega), List.getElem?_replicate, List.getElem?_eq_none (l := l) (by omega)]
      by_cases h9 : i - l.length < n + 1 - l.length
      · rw [if_pos h9]
        try rfl
      · rw [if_neg h9]
        try rfl
theorem with_at (l : List lvT.El) (n : Nat) (rs : List runT.El) (i : Nat) : atL (withL l n rs) i = if i = n then rs else atL l i := by
  rw [show withL l n rs = trimL (putLv l n rs) from rfl, (trim_at _).1, put_at]
theorem with_last (l : List lvT.El) (n : Nat) (rs : List runT.El) : lastE (withL l n rs) = false := (trim_at _).2.1
theorem with_len {l : List lvT.El} {n : Nat} {rs : List runT.El} (hl : l.length ≤ 12) (hn : n < 12) : (withL l n rs).length ≤ 12 := by
  have h1 : (withL l n rs).length ≤ _ := (trim_at (putLv l n rs)).2.2
  have h2 := putLv_len l n rs
  omega
/-- Levels of which the last one has runs are what their levels have. -/
theorem at_len {l m : List lvT.El} (h : ∀ i, atL l i = atL m i) (hm : lastE m = false) : m.length ≤ l.length := by
  refine Nat.not_lt.1 fun hlt => ?_
  obtain ⟨x, hx⟩ : ∃ x : lvT.El, m[m.length - 1]? = some x := ⟨_, List.getElem?_eq_getElem (by omega)⟩
  have h1 := h (m.length - 1)
  rw [atL_out (by omega), atL_get hx] at h1
  rw [lastE_at hx, ← h1] at hm
  cases hm
theorem at_ext {l m : List lvT.El} (h : ∀ i, atL l i = atL m i) (hl : lastE l = false) (hm : lastE m = false) : l = m := by
  have e1 := at_len h hm
  have e2 := at_len (fun i => (h i).symm) hl
  refine List.ext_getElem? fun i => ?_
  by_cases hi : i < l.length
  · have h1 := h i
    rw [List.getElem?_eq_getElem hi, List.getElem?_eq_getElem (show i < m.length by omega)]
    rw [atL_get (List.getElem?_eq_getElem hi), atL_get (List.getElem?_eq_getElem (show i < m.length by omega))] at h1
    have h1 : (l[i]).1 = (m[i]'(by omega)).1 := h1
    exact congrArg some (Prod.ext h1 rfl)
  · rw [List.getElem?_eq_none (by omega), List.getElem?_eq_none (by omega)]

/-! ### When levels are right -/
theorem lcR_iff {m : Int} : ∀ {rs : List runT.El} {ids : List Int} {k : Int}, ids.Nodup → (lcR ids m k rs = none ↔ (∀ r ∈ rs, fitE r m = 0) ∧ (ids ++ rs.map idR).Nodup)
  | [], ids, k, hn => by simp [lcR, hn]
  | r :: rs, ids, k, hn => by
    have hd : lcR ids m k (r :: rs) = if fitI ids m r ≠ 0 then some (k, fitI ids m r) else lcR (ids ++ [r.1]) m (k + 1) rs := rfl
    rw [hd]
    by_cases h1 : fitE r m = 0
    · by_cases h2 : r.1 ∈ ids
      · have hf : fitI ids m r = 8 := by unfold fitI; rw [if_neg (fun e => e h1), if_pos h2]
        rw [hf, if_pos (by decide)]
        refine ⟨fun h => (by cases h), fun ⟨_, h⟩ => ?_⟩
        exact absurd rfl ((List.nodup_append.1 h).2.2 r.1 h2 r.1 List.mem_cons_self)
      · have hf : fitI ids m r = 0 := by unfold fitI; rw [if_neg (fun e => e h1), if_neg h2]
        rw [hf, if_neg (by decide)]
        have hn2 : (ids ++ [r.1]).Nodup := List.nodup_append.2 ⟨hn, by simp, fun a ha b hb => by
          rw [List.mem_singleton] at hb
          rintro rfl
          exact h2 (hb ▸ ha)⟩
        rw [lcR_iff hn2]
        have e : ids ++ [r.1] ++ rs.map idR = ids ++ (r :: rs).map idR := by rw [List.append_assoc]; rfl
        rw [e]
        constructor
        · rintro ⟨h3, h4⟩
          refine ⟨fun x hx => ?_, h4⟩
          rcases List.mem_cons.1 hx with rfl | hx
          · exact h1
          · exact h3 x hx
        · rintro ⟨h3, h4⟩
          exact ⟨fun x hx => h3 x (List.mem_cons_of_mem _ hx), h4⟩
    · have hf : fitI ids m r ≠ 0 := by unfold fitI; rw [if_pos h1]; exact h1
      rw [if_pos hf]
      exact ⟨fun h => (by cases h), fun ⟨h, _⟩ => absurd (h r List.mem_cons_self) h1⟩
theorem lcG_iff {b : Int} : ∀ {l : List lvT.El} {ids : List Int} {i : Nat}, ids.Nodup → (lcG b ids i l = none ↔ (∀ j, (atL l j).length ≤ 2 ∧ ∀ r ∈ atL l j, fitE r (szL b (i + j)) = 0) ∧ (ids ++ allI l).Nodup)
  | [], ids, i, hn => by
    have e : ∀ j, atL [] j = [] := fun j => rfl
    simp [lcG, hn, e, allI]
  | x :: l, ids, i, hn => by
    have hd : lcG b ids i (x :: l) = if 2 < (rsL x).length then some ((i : Int), (0 : Int), (3 : Int)) else match lcR ids (szL b i) 0 (rsL x) with
      | some (k, e) => some ((i : Int), k, e)
      | none => lcG b (ids ++ (rsL x).map idR) (i + 1) l := rfl
    have ha : allI (x :: l) = (rsL x).map idR ++ allI l := List.flatMap_cons
    have h0 : atL (x :: l) 0 = rsL x := rfl
    rw [hd, ha]
    by_cases h2 : 2 < (rsL x).length
    · rw [if_pos h2]
      refine ⟨fun h => (by cases h), fun ⟨h, _⟩ => ?_⟩
      have := (h 0).1
      rw [h0] at this
      omega
    · rw [if_neg h2]
      have hr := lcR_iff (m := szL b i) (rs := rsL x) (k := 0) hn
      cases hl : lcR ids (szL b i) 0 (rsL x) with
      | some p =>
        refine ⟨fun h => (by cases h), fun ⟨h, h4⟩ => ?_⟩
        exfalso
        have := hr.2 ⟨fun r hr => (h 0).2 r hr, h4.sublist (by rw [← List.append_assoc]; exact List.sublist_append_left _ _)⟩
        rw [hl] at this
        cases this
      | none =>
        obtain ⟨h5, h6⟩ := hr.1 hl
        show lcG b (ids ++ (rsL x).map idR) (i + 1) l = none ↔ _
        rw [lcG_iff h6, List.append_assoc]
        constructor
        · rintro ⟨h7, h8⟩
          refine ⟨fun j => ?_, h8⟩
          cases j with
          | zero => exact ⟨by rw [h0]; omega, h5⟩
          | succ j =>
            have := h7 j
            rw [show i + 1 + j = i + (j + 1) by omega] at this
            exact this
        · rintro ⟨h7, h8⟩
          refine ⟨fun j => ?_, h8⟩
          have := h7 (j + 1)
          rw [show i + (j + 1) = i + 1 + j by omega] at this
          exact this
structure VOk (b : Int) (l : List lvT.El) : Prop where
  lo : 1 ≤ b
  hi : b ≤ 16
  len : l.length ≤ 12
  two : ∀ i, (atL l i).length ≤ 2
  fit : ∀ i, ∀ r ∈ atL l i, fitE r (szL b i) = 0
  nod : (loL idF l 12).Nodup
  last : lastE l = false
theorem vok_iff {b : Int} {l : List lvT.El} : (chkL b l).2.2 = 0 ↔ VOk b l := by
  constructor
  · intro h
    have hok := lvOk_of h
    have h1 := (lcG_iff (b := b) (l := l) (ids := []) (i := 0) List.nodup_nil).1 hok.lcg
    refine ⟨hok.lo, hok.hi, hok.len, fun i => (h1.1 i).1, fun i r hr => ?_, ?_, hok.last⟩
    · have := (h1.1 i).2 r hr
      rw [Nat.zero_add] at this
      exact this
    · rw [← allI_lo hok.len]
      exact h1.2
  · intro h
    have h1 := (lcG_iff (b := b) (l := l) (ids := []) (i := 0) List.nodup_nil).2 ⟨fun j => ⟨h.two j, fun r hr => by rw [Nat.zero_add]; exact h.fit j r hr⟩, by rw [allI_lo h.len]; exact h.nod⟩
    have hlo := h.lo
    have hhi := h.hi
    have hln := h.len
    rw [chk_end (by omega) (by omega) h1, h.last]
    rfl
/-- Levels with a level's runs put in place are right, if these are. -/
theorem with_ok {b : Int} {l : List lvT.El} {n : Nat} {rs : List runT.El} (h : VOk b l) (hn : n < 12) (h2 : rs.length ≤ 2) (hf : ∀ r ∈ rs, fitE r (szL b n) = 0) (hd : (loL idF l n ++ (idF rs ++ hiL idF l n)).Nodup) : VOk b (withL l n rs) := by
  have hc := lo_congr idF (l := withL l n rs) (m := l) (n := n) (fun i hi => by rw [with_at, if_neg hi])
  refine ⟨h.lo, h.hi, with_len h.len hn, fun i => ?_, fun i r hr => ?_, ?_, with_last l n rs⟩
  · rw [with_at]
    split
    · exact h2
    · exact h.two i
  · rw [with_at] at hr
    split at hr
    · rename_i e; subst e; exact hf r hr
    · exact h.fit i r hr
  · rw [flat_lo idF hn, hc.1, hc.2, with_at, if_pos rfl]
    exact hd
theorem new_with {l : List lvT.El} {n : Nat} {rs : List runT.El} (hl : l.length ≤ 12) (hn : n < 12) : newL (withL l n rs) = loL revF l n ++ (rs.reverse ++ hiL revF l n) := by
  have hc := lo_congr revF (l := withL l n rs) (m := l) (n := n) (fun i hi => by rw [with_at, if_neg hi])
  rw [newL_lo (with_len hl hn), flat_lo revF hn, hc.1, hc.2, with_at, if_pos rfl]
theorem new_own {l : List lvT.El} {n : Nat} (hl : l.length ≤ 12) (hn : n < 12) : newL l = loL revF l n ++ ((atL l n).reverse ++ hiL revF l n) := by
  rw [newL_lo hl, flat_lo revF hn]
theorem with_with {l : List lvT.El} {n : Nat} {rs rs2 : List runT.El} : withL (withL l n rs) n rs2 = withL l n rs2 :=
  at_ext (fun i => by rw [with_at, with_at, with_at]; split <;> rfl) (with_last _ _ _) (with_last _ _ _)
/-! ### A run arrives -/
structure Arr (b : Int) (l : List lvT.El) (n : Int) (r : runT.El) : Prop where
  ok : VOk b l
  n0 : 0 ≤ n
  n1 : n < 12
  one : (atL l n.toNat).length ≤ 1
  arr : arrL b l n r = (b, withL l n.toNat (atL l n.toNat ++ [r]), 0)
  ok2 : VOk b (withL l n.toNat (atL l n.toNat ++ [r]))
  ok3 : VOk b (withL l n.toNat [])
theorem arr_of {b : Int} {l : List lvT.El} {n : Int} {r : runT.El} (h : (arrL b l n r).2.2 = 0) : Arr b l n r := by
  unfold arrL at h
  split at h
  · exact absurd h (by assumption)
  · rename_i h1
    have h1 := Decidable.not_not.1 h1
    split at h
    · exact absurd h (by assumption)
    · rename_i h2
      have h2 := Decidable.not_not.1 h2
      split at h
      · exact absurd h (by decide)
      · rename_i h3
        obtain ⟨hlv, hn0, hn1⟩ := inE_ok h1
        have hck : (chkL b l).2.2 = 0 := by
          unfold inE at h1
          split at h1
          · exact h1
          · rename_i h; exact Decidable.not_not.1 h
        have hok := vok_iff.1 hck
        rw [own_at] at h3
        have h2n := hok.two n.toNat
        have hfe : fitE r (szL b n.toNat) = 0 := by
          unfold fitI at h2
          split at h2
          · exact h2
          · rename_i h; exact Decidable.not_not.1 h
        have hni : ¬ r.1 ∈ (newL l).map idR := by
          intro hm
          unfold fitI at h2
          rw [if_neg (fun e => e hfe), if_pos hm] at h2
          exact absurd h2 (by decide)
        have hn2 : n.toNat < 12 := by omega
        rw [new_ids, allI_lo hok.len] at hni
        have hnd := hok.nod
        rw [flat_lo idF hn2] at hnd hni
        refine ⟨hok, hn0, hn1, by omega, ?_, ?_, ?_⟩
        · unfold arrL
          rw [if_neg (fun e => e h1), if_neg (fun e => e h2), own_at, if_neg h3]
        · refine with_ok hok hn2 (by rw [List.length_append]; show _ + 1 ≤ 2; omega) (fun x hx => ?_) ?_
          · rcases List.mem_append.1 hx with hx | hx
            · exact hok.fit _ x hx
            · rw [List.mem_singleton] at hx; rw [hx]; exact hfe
          · have e : loL idF l n.toNat ++ (idF (atL l n.toNat ++ [r]) ++ hiL idF l n.toNat) = (loL idF l n.toNat ++ idF (atL l n.toNat)) ++ r.1 :: hiL idF l n.toNat := by
              show _ ++ (List.map idR _ ++ _) = _
              rw [List.map_append, List.append_assoc, List.append_assoc]; rfl
            rw [e, List.perm_middle.nodup_iff, List.nodup_cons, List.append_assoc]
            exact ⟨hni, hnd⟩
        · refine with_ok hok hn2 (Nat.zero_le _) (fun x hx => by simp at hx) ?_
          exact hnd.sublist (List.Sublist.append (List.Sublist.refl _) (List.sublist_append_right _ _))
theorem chk_arr {b : Int} {l : List lvT.El} {n : Int} (h : VOk b l) (h0 : 0 ≤ n) (h1 : n < 12) : inE b l n = 0 := by
  unfold inE
  rw [if_neg (fun e => e (vok_iff.2 h)), if_neg (by omega)]
theorem lea_of {b : Int} {l : List lvT.El} {n : Int} (h : VOk b l) (h0 : 0 ≤ n) (h1 : n < 12) (h2 : (atL l n.toNat).length ≠ 0) : leaL b l n = ((b, withL l n.toNat []), atL l n.toNat, 0) := by
  unfold leaL
  rw [if_neg (fun e => e (chk_arr h h0 h1)), own_at, if_neg h2]
theorem cnt_of {b : Int} {l : List lvT.El} (h : VOk b l) : cntR b l = (entN (newL l), ((newL l).length : Int), 0) := if_neg (fun e => e (vok_iff.2 h))
theorem entN_app (a b : List runT.El) : entN (a ++ b) = entN a + entN b := by
  unfold entN
  rw [List.map_append, List.sum_append]
theorem entN_rev : ∀ a : List runT.El, entN a.reverse = entN a
  | [] => rfl
  | x :: a => by
    rw [List.reverse_cons, entN_app, entN_rev a, show x :: a = [x] ++ a from rfl, entN_app]
    omega
end Go.Proofs.Ytjinjnakedhmdaa
namespace Go.Proofs.Ytjinjnakedhmdaa
open Av Bk

theorem sz_at {b n : Int} (h1 : 1 ≤ b) (h2 : b ≤ 16) (h3 : 0 ≤ n) (h4 : n < 12) : sizR b n = (szL b n.toNat, 0) := by
  unfold sizR
  rw [if_neg (by omega)]
theorem sz_two {b n : Int} (h1 : 1 ≤ b) (h2 : b ≤ 16) (h3 : 0 ≤ n) (h4 : n < 11) : (sizR b (n + 1)).1 = 2 * (sizR b n).1 ∧ 1 ≤ (sizR b n).1 ∧ (sizR b n).1 ≤ 65536 := by
  rw [sz_at h1 h2 h3 (by omega), sz_at h1 h2 (by omega) (by omega)]
  have hb := szL_bnd h1 h2 (i := n.toNat) (by omega)
  refine ⟨?_, hb.1, hb.2⟩
  show szL b (n + 1).toNat = 2 * szL b n.toNat
  rw [show (n + 1).toNat = n.toNat + 1 by omega, szL_succ]
/-- What counts after a run has come, and after it has been taken away again. -/
structure Cnt (b : Int) (l : List lvT.El) (n : Int) (r : runT.El) (P : Int × List lvT.El × Int) (Q : (Int × List lvT.El) × List runT.El × Int) : Prop where
  e2 : (cntR P.1 P.2.1).2.2 = 0
  e3 : Q.2.2 = 0
  e4 : (cntR Q.1.1 Q.1.2).2.2 = 0
  s1 : (cntR P.1 P.2.1).1 = (cntR b l).1 + (r.2.1.length : Int)
  s2 : (cntR P.1 P.2.1).2.1 = (cntR b l).2.1 + 1
  s3 : (cntR Q.1.1 Q.1.2).1 + entN Q.2.1 = (cntR P.1 P.2.1).1
  s4 : (cntR Q.1.1 Q.1.2).2.1 + (Q.2.1.length : Int) = (cntR P.1 P.2.1).2.1
  b1 : 0 ≤ (cntR b l).1 ∧ (cntR b l).1 ≤ 120000
  b2 : 0 ≤ (cntR b l).2.1 ∧ (cntR b l).2.1 ≤ 24
  b3 : 0 ≤ (cntR Q.1.1 Q.1.2).1
  b4 : Q.2.1.length ≤ 2
  b5 : ∀ r ∈ Q.2.1, r.2.1.length ≤ 5000
  b6 : 0 ≤ (cntR Q.1.1 Q.1.2).2.1 ∧ (cntR Q.1.1 Q.1.2).2.1 ≤ 24
theorem vok_lv {b : Int} {l : List lvT.El} (h : VOk b l) : LvOk b l := lvOk_of (vok_iff.2 h)
theorem cnt_bnd {b : Int} {l : List lvT.El} (h : VOk b l) : (0 ≤ (cntR b l).1 ∧ (cntR b l).1 ≤ 120000) ∧ (0 ≤ (cntR b l).2.1 ∧ (cntR b l).2.1 ≤ 24) := by
  have h1 := newL_len (vok_lv h)
  have h2 := new_ent (vok_lv h) (newL l).length
  rw [List.take_length] at h2
  rw [cnt_of h]
  exact ⟨h2, Int.natCast_nonneg _, by show ((newL l).length : Int) ≤ 24; omega⟩
theorem cnt_arr {b : Int} {l : List lvT.El} {n : Int} {r : runT.El} (A : Arr b l n r) : Cnt b l n r (arrL b l n r) (leaL (arrL b l n r).1 (arrL b l n r).2.1 n) := by
  have hn : n.toNat < 12 := by have := A.n0; have := A.n1; omega
  rw [A.arr]
  have hat : atL (withL l n.toNat (atL l n.toNat ++ [r])) n.toNat = atL l n.toNat ++ [r] := by rw [with_at, if_pos rfl]
  rw [show ((b, withL l n.toNat (atL l n.toNat ++ [r]), (0 : Int)) : Int × List lvT.El × Int).1 = b from rfl, show ((b, withL l n.toNat (atL l n.toNat ++ [r]), (0 : Int)) : Int × List lvT.El × Int).2.1 = withL l n.toNat (atL l n.toNat ++ [r]) from rfl]
  rw [lea_of A.ok2 A.n0 A.n1 (by rw [hat, List.length_append]; show _ + 1 ≠ 0; omega), hat, with_with]
  have c1 := cnt_of A.ok
  have c2 := cnt_of A.ok2
  have c3 := cnt_of A.ok3
  have w1 := new_own A.ok.len hn
  have w2 := new_with (rs := atL l n.toNat ++ [r]) A.ok.len hn
  have w3 := new_with (rs := []) A.ok.len hn
  have k1 := cnt_bnd A.ok
  have k3 := cnt_bnd A.ok3
  have er : entN [r] = (r.2.1.length : Int) := by unfold entN; simp
  have e1 : entN (newL (withL l n.toNat (atL l n.toNat ++ [r]))) = entN (newL l) + (r.2.1.length : Int) := by
    rw [w1, w2]
    repeat rw [entN_app]
    repeat rw [entN_rev]
    repeat rw [entN_app]
    omega
  have l1 : (newL (withL l n.toNat (atL l n.toNat ++ [r]))).length = (newL l).length + 1 := by
    rw [w1, w2]
    simp only [List.length_append, List.length_reverse, List.length_cons, List.length_nil]
    omega
  have e3 : entN (newL (withL l n.toNat [])) + entN (atL l n.toNat) = entN (newL l) := by
    rw [w1, w3]
    rw [List.reverse_nil, List.nil_append]
    repeat rw [entN_app]
    repeat rw [entN_rev]
    omega
  have l3 : (newL (withL l n.toNat [])).length + (atL l n.toNat).length = (newL l).length := by
    rw [w1, w3]
    simp only [List.length_append, List.length_reverse, List.length_nil]
    omega
  refine ⟨by rw [c2], rfl, by rw [c3], by rw [c1, c2]; exact e1, by rw [c1, c2]; show ((newL _).length : Int) = ((newL l).length : Int) + 1; omega, ?_, ?_, k1.1, k1.2, k3.1.1, ?_, ?_, k3.2⟩
  · rw [c2, c3]
    show entN (newL (withL l n.toNat [])) + entN (atL l n.toNat ++ [r]) = entN (newL (withL l n.toNat (atL l n.toNat ++ [r])))
    rw [entN_app]
    omega
  · rw [c2, c3]
    show ((newL (withL l n.toNat [])).length : Int) + ((atL l n.toNat ++ [r]).length : Int) = ((newL (withL l n.toNat (atL l n.toNat ++ [r]))).length : Int)
    rw [List.length_append]
    show _ + ((_ + 1 : Nat) : Int) = _
    omega
  · show (atL l n.toNat ++ [r]).length ≤ 2
    have := A.one
    rw [List.length_append]
    show _ + 1 ≤ 2
    omega
  · intro x hx
    have h2 := A.ok2.fit n.toNat x (by rw [hat]; exact hx)
    exact rc_len (fitE_rc h2).1
theorem entN_le {L : List runT.El} (h : ∀ r ∈ L, r.2.1.length ≤ 5000) : 0 ≤ entN L ∧ entN L ≤ 5000 * (L.length : Int) := by
  induction L with
  | nil => simp [entN]
  | cons r L ih =>
    have h1 := ih (fun x hx => h x (List.mem_cons_of_mem _ hx))
    have h2 := h r List.mem_cons_self
    have h3 : entN (r :: L) = (r.2.1.length : Int) + entN L := by unfold entN; simp
    rw [h3, List.length_cons]
    omega
set_option maxRecDepth 100000 in
theorem fnOk_lCo : FnOk Try.prog 5 Try.f5 := ⟨by rfl, by kernel_rfl, by
  show okCode _ _ = true ∧ drawsOk _ = true
  exact ⟨by kernel_rfl, by kernel_rfl⟩⟩
noncomputable abbrev lCo_C : Cx := lw_C
abbrev lCo_D := lw_D
theorem lCo_F : FnsOk Try.prog lCo_C.fns := FnsOk.nil
abbrev lCo_N : Nat := 0
abbrev lCo_T : List Ty := [lvsT, .int .i64, runT]
abbrev lCo_FN := fnOk_lCo
set_option maxRecDepth 100000 in
set_option maxHeartbeats 8000000 in
theorem lCo1 (b : Int) (l : List lvT.El) (n id : Int) (es : List entT.El) (hf : longV l = true) : bodyA lCo_C (callN lCo_C lCo_N) Try.f5 [.agg [.int .i64 b, .lst lvT l], .int .i64 n, .agg [.int .i64 id, .lst entT es]] [] (fun v _ => v = .bool true) := by
  conv => whnf
  repeat' first
    | ((first | refine idx_kn (by assumption) ?_ | refine idx_ki (by assumption) (by omega) ?_ | refine br_true (by first | with_reducible exact rfl | assumption | decide) ?_ | refine br_false (by first | with_reducible exact rfl | assumption | decide) ?_ | with_reducible first | refine br_kt (by assumption) ?_ | refine br_kf (by assumption) ?_ | refine br_nt (by assumption) ?_ | refine br_nf (by assumption) ?_ | refine br_et (by assumption) ?_ | refine br_ef (by assumption) ?_); conv => whnf)
    | ((with_reducible first | refine br_dec (fun h => ?_) (fun h => ?_) | refine br_ndec (fun h => ?_) (fun h => ?_) | refine br_ne (fun h => ?_) (fun h => ?_) | refine br_eq (fun h => ?_) (fun h => ?_)) <;> first | (exfalso; omega) | conv => whnf)
    | (refine br_intro (fun h => ?_) (fun h => ?_) <;> conv => whnf)
    | ((first | refine need_in (by first | exact trivial | assumption | exact ⟨rfl, Nat.le_refl _⟩ | exact ⟨rfl, rfl⟩ | (simp only [inR]; omega) | omega | (simp only [roomP, true_and, and_true, List.length_take, List.length_drop, List.length_append, List.length_cons, List.length_nil, List.length_set, List.length_replicate]; omega) | (refine ⟨by first | exact trivial | rfl, by first | exact Nat.le_refl _ | omega | (simp; omega), ?_⟩; change roomP _ _ 1; simp only [roomP]; omega) | (change roomP _ _ 1; simp only [roomP]; omega) | (simp; omega) | (simp [inR]; omega) | (simp [inR]; done) | decide | (simp; done)) ?_ | refine idx_nat (by omega) (fun x hx => ?_) | refine frz_auto ?_ | refine draw_plain ?_ | refine idx_intro (by first | omega | (simp; omega) | (simp; done)) (by first | omega | (simp; omega) | (simp; done)) (fun x hx => ?_)); conv => whnf)
set_option maxRecDepth 100000 in
set_option maxHeartbeats 8000000 in
theorem lCo2 (b : Int) (l : List lvT.El) (n id : Int) (es : List entT.El) (hf : longV l = false) (hg : longL es = true) : bodyA lCo_C (callN lCo_C lCo_N) Try.f5 [.agg [.int .i64 b, .lst lvT l], .int .i64 n, .agg [.int .i64 id, .lst entT es]] [] (fun v _ => v = .bool true) := by
  conv => whnf
  repeat' first
    | ((first | refine idx_kn (by assumption) ?_ | refine idx_ki (by assumption) (by omega) ?_ | refine br_true (by first | with_reducible exact rfl | assumption | decide) ?_ | refine br_false (by first | with_reducible exact rfl | assumption | decide) ?_ | with_reducible first | refine br_kt (by assumption) ?_ | refine br_kf (by assumption) ?_ | refine br_nt (by assumption) ?_ | refine br_nf (by assumption) ?_ | refine br_et (by assumption) ?_ | refine br_ef (by assumption) ?_); conv => whnf)
    | ((with_reducible first | refine br_dec (fun h => ?_) (fun h => ?_) | refine br_ndec (fun h => ?_) (fun h => ?_) | refine br_ne (fun h => ?_) (fun h => ?_) | refine br_eq (fun h => ?_) (fun h => ?_)) <;> first | (exfalso; omega) | conv => whnf)
    | (refine br_intro (fun h => ?_) (fun h => ?_) <;> conv => whnf)
    | ((first | refine need_in (by first | exact trivial | assumption | exact ⟨rfl, Nat.le_refl _⟩ | exact ⟨rfl, rfl⟩ | (simp only [inR]; omega) | omega | (simp only [roomP, true_and, and_true, List.length_take, List.length_drop, List.length_append, List.length_cons, List.length_nil, List.length_set, List.length_replicate]; omega) | (refine ⟨by first | exact trivial | rfl, by first | exact Nat.le_refl _ | omega | (simp; omega), ?_⟩; change roomP _ _ 1; simp only [roomP]; omega) | (change roomP _ _ 1; simp only [roomP]; omega) | (simp; omega) | (simp [inR]; omega) | (simp [inR]; done) | decide | (simp; done)) ?_ | refine idx_nat (by omega) (fun x hx => ?_) | refine frz_auto ?_ | refine draw_plain ?_ | refine idx_intro (by first | omega | (simp; omega) | (simp; done)) (by first | omega | (simp; omega) | (simp; done)) (fun x hx => ?_)); conv => whnf)
set_option maxRecDepth 100000 in
set_option maxHeartbeats 8000000 in
theorem lCo3 (b : Int) (l : List lvT.El) (n id : Int) (es : List entT.El) (hf : longV l = false) (hg : longL es = false) (h1 : (chkL b l).2.2 ≠ 0) : bodyA lCo_C (callN lCo_C lCo_N) Try.f5 [.agg [.int .i64 b, .lst lvT l], .int .i64 n, .agg [.int .i64 id, .lst entT es]] [] (fun v _ => v = .bool true) := by
  have hc1 : (cntR b l).2.2 ≠ 0 := by unfold cntR; rw [if_pos h1]; exact h1
  conv => whnf
  repeat' first
    | ((first | refine idx_kn (by assumption) ?_ | refine idx_ki (by assumption) (by omega) ?_ | refine br_true (by first | with_reducible exact rfl | assumption | decide) ?_ | refine br_false (by first | with_reducible exact rfl | assumption | decide) ?_ | with_reducible first | refine br_kt (by assumption) ?_ | refine br_kf (by assumption) ?_ | refine br_nt (by assumption) ?_ | refine br_nf (by assumption) ?_ | refine br_et (by assumption) ?_ | refine br_ef (by assumption) ?_); conv => whnf)
    | ((with_reducible first | refine br_dec (fun h => ?_) (fun h => ?_) | refine br_ndec (fun h => ?_) (fun h => ?_) | refine br_ne (fun h => ?_) (fun h => ?_) | refine br_eq (fun h => ?_) (fun h => ?_)) <;> first | (exfalso; omega) | conv => whnf)
    | (refine br_intro (fun h => ?_) (fun h => ?_) <;> conv => whnf)
    | ((first | refine need_in (by first | exact trivial | assumption | exact ⟨rfl, Nat.le_refl _⟩ | exact ⟨rfl, rfl⟩ | (simp only [inR]; omega) | omega | (simp only [roomP, true_and, and_true, List.length_take, List.length_drop, List.length_append, List.length_cons, List.length_nil, List.length_set, List.length_replicate]; omega) | (refine ⟨by first | exact trivial | rfl, by first | exact Nat.le_refl _ | omega | (simp; omega), ?_⟩; change roomP _ _ 1; simp only [roomP]; omega) | (change roomP _ _ 1; simp only [roomP]; omega) | (simp; omega) | (simp [inR]; omega) | (simp [inR]; done) | decide | (simp; done)) ?_ | refine idx_nat (by omega) (fun x hx => ?_) | refine frz_auto ?_ | refine draw_plain ?_ | refine idx_intro (by first | omega | (simp; omega) | (simp; done)) (by first | omega | (simp; omega) | (simp; done)) (fun x hx => ?_)); conv => whnf)
set_option maxRecDepth 100000 in
set_option maxHeartbeats 8000000 in
theorem lCo4 (b : Int) (l : List lvT.El) (n id : Int) (es : List entT.El) (hf : longV l = false) (hg : longL es = false) (h1 : VOk b l) (hn : n < 0 ∨ 12 ≤ n) (hA : (arrL b l n (id, es, ())).2.2 ≠ 0) : bodyA lCo_C (callN lCo_C lCo_N) Try.f5 [.agg [.int .i64 b, .lst lvT l], .int .i64 n, .agg [.int .i64 id, .lst entT es]] [] (fun v _ => v = .bool true) := by
  have hc1 : (cntR b l).2.2 = 0 := by rw [cnt_of h1]
  have hb1 := h1.lo
  have hb2 := h1.hi
  have hs : (sizR b n).2 ≠ 0 := by
    have : sizR b n = (0, 7) := if_pos (by omega)
    rw [this]; decide
  conv => whnf
  repeat' first
    | ((first | refine idx_kn (by assumption) ?_ | refine idx_ki (by assumption) (by omega) ?_ | refine br_true (by first | with_reducible exact rfl | assumption | decide) ?_ | refine br_false (by first | with_reducible exact rfl | assumption | decide) ?_ | with_reducible first | refine br_kt (by assumption) ?_ | refine br_kf (by assumption) ?_ | refine br_nt (by assumption) ?_ | refine br_nf (by assumption) ?_ | refine br_et (by assumption) ?_ | refine br_ef (by assumption) ?_); conv => whnf)
    | ((with_reducible first | refine br_dec (fun h => ?_) (fun h => ?_) | refine br_ndec (fun h => ?_) (fun h => ?_) | refine br_ne (fun h => ?_) (fun h => ?_) | refine br_eq (fun h => ?_) (fun h => ?_)) <;> first | (exfalso; omega) | conv => whnf)
    | (refine br_intro (fun h => ?_) (fun h => ?_) <;> conv => whnf)
    | ((first | refine need_in (by first | exact trivial | assumption | exact ⟨rfl, Nat.le_refl _⟩ | exact ⟨rfl, rfl⟩ | (simp only [inR]; omega) | omega | (simp only [roomP, true_and, and_true, List.length_take, List.length_drop, List.length_append, List.length_cons, List.length_nil, List.length_set, List.length_replicate]; omega) | (refine ⟨by first | exact trivial | rfl, by first | exact Nat.le_refl _ | omega | (simp; omega), ?_⟩; change roomP _ _ 1; simp only [roomP]; omega) | (change roomP _ _ 1; simp only [roomP]; omega) | (simp; omega) | (simp [inR]; omega) | (simp [inR]; done) | decide | (simp; done)) ?_ | refine idx_nat (by omega) (fun x hx => ?_) | refine frz_auto ?_ | refine draw_plain ?_ | refine idx_intro (by first | omega | (simp; omega) | (simp; done)) (by first | omega | (simp; omega) | (simp; done)) (fun x hx => ?_)); conv => whnf)
set_option maxRecDepth 100000 in
set_option maxHeartbeats 8000000 in
theorem lCo5 (b : Int) (l : List lvT.El) (n id : Int) (es : List entT.El) (hf : longV l = false) (hg : longL es = false) (h1 : VOk b l) (hn0 : 0 ≤ n) (hn : n < 11) (hA : (arrL b l n (id, es, ())).2.2 ≠ 0) : bodyA lCo_C (callN lCo_C lCo_N) Try.f5 [.agg [.int .i64 b, .lst lvT l], .int .i64 n, .agg [.int .i64 id, .lst entT es]] [] (fun v _ => v = .bool true) := by
  have hc1 : (cntR b l).2.2 = 0 := by rw [cnt_of h1]
  have hb1 := h1.lo
  have hb2 := h1.hi
  have hz1 : (sizR b n).2 = 0 := by rw [sz_at hb1 hb2 hn0 (by omega)]
  have hz2 : (sizR b (n + 1)).2 = 0 := by rw [sz_at hb1 hb2 (by omega) (by omega)]
  obtain ⟨hz3, hz4, hz5⟩ := sz_two hb1 hb2 hn0 hn
  conv => whnf
  repeat' first
    | ((first | refine idx_kn (by assumption) ?_ | refine idx_ki (by assumption) (by omega) ?_ | refine br_true (by first | with_reducible exact rfl | assumption | decide) ?_ | refine br_false (by first | with_reducible exact rfl | assumption | decide) ?_ | with_reducible first | refine br_kt (by assumption) ?_ | refine br_kf (by assumption) ?_ | refine br_nt (by assumption) ?_ | refine br_nf (by assumption) ?_ | refine br_et (by assumption) ?_ | refine br_ef (by assumption) ?_); conv => whnf)
    | ((with_reducible first | refine br_dec (fun h => ?_) (fun h => ?_) | refine br_ndec (fun h => ?_) (fun h => ?_) | refine br_ne (fun h => ?_) (fun h => ?_) | refine br_eq (fun h => ?_) (fun h => ?_)) <;> first | (exfalso; omega) | conv => whnf)
    | (refine br_intro (fun h => ?_) (fun h => ?_) <;> conv => whnf)
    | ((first | refine need_in (by first | exact trivial | assumption | exact ⟨rfl, Nat.le_refl _⟩ | exact ⟨rfl, rfl⟩ | (simp only [inR]; omega) | omega | (simp only [roomP, true_and, and_true, List.length_take, List.length_drop, List.length_append, List.length_cons, List.length_nil, List.length_set, List.length_replicate]; omega) | (refine ⟨by first | exact trivial | rfl, by first | exact Nat.le_refl _ | omega | (simp; omega), ?_⟩; change roomP _ _ 1; simp only [roomP]; omega) | (change roomP _ _ 1; simp only [roomP]; omega) | (simp; omega) | (simp [inR]; omega) | (simp [inR]; done) | decide | (simp; done)) ?_ | refine idx_nat (by omega) (fun x hx => ?_) | refine frz_auto ?_ | refine draw_plain ?_ | refine idx_intro (by first | omega | (simp; omega) | (simp; done)) (by first | omega | (simp; omega) | (simp; done)) (fun x hx => ?_)); conv => whnf)
set_option maxRecDepth 100000 in
set_option maxHeartbeats 8000000 in
theorem lCo6 (b : Int) (l : List lvT.El) (n id : Int) (es : List entT.El) (hf : longV l = false) (hg : longL es = false) (h1 : VOk b l) (hn : n = 11) (hA : (arrL b l n (id, es, ())).2.2 ≠ 0) : bodyA lCo_C (callN lCo_C lCo_N) Try.f5 [.agg [.int .i64 b, .lst lvT l], .int .i64 n, .agg [.int .i64 id, .lst entT es]] [] (fun v _ => v = .bool true) := by
  have hc1 : (cntR b l).2.2 = 0 := by rw [cnt_of h1]
  have hb1 := h1.lo
  have hb2 := h1.hi
  have hz1 : (sizR b n).2 = 0 := by rw [sz_at hb1 hb2 (by omega) (by omega)]
  conv => whnf
  repeat' first
    | ((first | refine idx_kn (by assumption) ?_ | refine idx_ki (by assumption) (by omega) ?_ | refine br_true (by first | with_reducible exact rfl | assumption | decide) ?_ | refine br_false (by first | with_reducible exact rfl | assumption | decide) ?_ | with_reducible first | refine br_kt (by assumption) ?_ | refine br_kf (by assumption) ?_ | refine br_nt (by assumption) ?_ | refine br_nf (by assumption) ?_ | refine br_et (by assumption) ?_ | refine br_ef (by assumption) ?_); conv => whnf)
    | ((with_reducible first | refine br_dec (fun h => ?_) (fun h => ?_) | refine br_ndec (fun h => ?_) (fun h => ?_) | refine br_ne (fun h => ?_) (fun h => ?_) | refine br_eq (fun h => ?_) (fun h => ?_)) <;> first | (exfalso; omega) | conv => whnf)
    | (refine br_intro (fun h => ?_) (fun h => ?_) <;> conv => whnf)
    | ((first | refine need_in (by first | exact trivial | assumption | exact ⟨rfl, Nat.le_refl _⟩ | exact ⟨rfl, rfl⟩ | (simp only [inR]; omega) | omega | (simp only [roomP, true_and, and_true, List.length_take, List.length_drop, List.length_append, List.length_cons, List.length_nil, List.length_set, List.length_replicate]; omega) | (refine ⟨by first | exact trivial | rfl, by first | exact Nat.le_refl _ | omega | (simp; omega), ?_⟩; change roomP _ _ 1; simp only [roomP]; omega) | (change roomP _ _ 1; simp only [roomP]; omega) | (simp; omega) | (simp [inR]; omega) | (simp [inR]; done) | decide | (simp; done)) ?_ | refine idx_nat (by omega) (fun x hx => ?_) | refine frz_auto ?_ | refine draw_plain ?_ | refine idx_intro (by first | omega | (simp; omega) | (simp; done)) (by first | omega | (simp; omega) | (simp; done)) (fun x hx => ?_)); conv => whnf)
set_option maxRecDepth 100000 in
set_option maxHeartbeats 8000000 in
theorem lCo7 (b : Int) (l : List lvT.El) (n id : Int) (es : List entT.El) (hf : longV l = false) (hg : longL es = false) (h1 : VOk b l) (hn0 : 0 ≤ n) (hn : n < 11) (hA : (arrL b l n (id, es, ())).2.2 = 0) : bodyA lCo_C (callN lCo_C lCo_N) Try.f5 [.agg [.int .i64 b, .lst lvT l], .int .i64 n, .agg [.int .i64 id, .lst entT es]] [] (fun v _ => v = .bool true) := by
  have hc1 : (cntR b l).2.2 = 0 := by rw [cnt_of h1]
  have hb1 := h1.lo
  have hb2 := h1.hi
  have hz1 : (sizR b n).2 = 0 := by rw [sz_at hb1 hb2 hn0 (by omega)]
  have hz2 : (sizR b (n + 1)).2 = 0 := by rw [sz_at hb1 hb2 (by omega) (by omega)]
  obtain ⟨hz3, hz4, hz5⟩ := sz_two hb1 hb2 hn0 hn
  have hC := cnt_arr (arr_of hA)
  have e2 := hC.e2
  have e3 := hC.e3
  have e4 := hC.e4
  conv => whnf
  repeat' first
    | ((first | refine idx_kn (by assumption) ?_ | refine idx_ki (by assumption) (by omega) ?_ | refine br_true (by first | with_reducible exact rfl | assumption | decide) ?_ | refine br_false (by first | with_reducible exact rfl | assumption | decide) ?_ | with_reducible first | refine br_kt (by assumption) ?_ | refine br_kf (by assumption) ?_ | refine br_nt (by assumption) ?_ | refine br_nf (by assumption) ?_ | refine br_et (by assumption) ?_ | refine br_ef (by assumption) ?_); conv => whnf)
    | ((with_reducible first | refine br_dec (fun h => ?_) (fun h => ?_) | refine br_ndec (fun h => ?_) (fun h => ?_) | refine br_ne (fun h => ?_) (fun h => ?_) | refine br_eq (fun h => ?_) (fun h => ?_)) <;> first | (exfalso; omega) | conv => whnf)
    | (refine br_intro (fun h => ?_) (fun h => ?_) <;> conv => whnf)
    | ((first | refine need_in (by first | exact trivial | assumption | exact ⟨rfl, Nat.le_refl _⟩ | exact ⟨rfl, rfl⟩ | (simp only [inR]; omega) | omega | (simp only [roomP, true_and, and_true, List.length_take, List.length_drop, List.length_append, List.length_cons, List.length_nil, List.length_set, List.length_replicate]; omega) | (refine ⟨by first | exact trivial | rfl, by first | exact Nat.le_refl _ | omega | (simp; omega), ?_⟩; change roomP _ _ 1; simp only [roomP]; omega) | (change roomP _ _ 1; simp only [roomP]; omega) | (simp; omega) | (simp [inR]; omega) | (simp [inR]; done) | decide | (simp; done)) ?_ | refine idx_nat (by omega) (fun x hx => ?_) | refine frz_auto ?_ | refine draw_plain ?_ | refine idx_intro (by first | omega | (simp; omega) | (simp; done)) (by first | omega | (simp; omega) | (simp; done)) (fun x hx => ?_)); conv => whnf)
  refine loop_inv [] [19, 22] (fun vs h => ∃ i : Nat, vs = [.int .i64 ((cntR (leaL (arrL b l n (id, es, ())).1 (arrL b l n (id, es, ())).2.1 n).1.1 (leaL (arrL b l n (id, es, ())).1 (arrL b l n (id, es, ())).2.1 n).1.2).1 + entN ((leaL (arrL b l n (id, es, ())).1 (arrL b l n (id, es, ())).2.1 n).2.1.take i)), .int .i64 (i : Int)] ∧ h = [.cells 29 [.int .i64 b, .lst lvT l], .cells 32 [.int .i64 id, .lst entT es], .cells 29 [.int .i64 (arrL b l n (id, es, ())).1, .lst lvT (arrL b l n (id, es, ())).2.1], .cells 29 [.int .i64 (leaL (arrL b l n (id, es, ())).1 (arrL b l n (id, es, ())).2.1 n).1.1, .lst lvT (leaL (arrL b l n (id, es, ())).1 (arrL b l n (id, es, ())).2.1 n).1.2]] ∧ i ≤ (leaL (arrL b l n (id, es, ())).1 (arrL b l n (id, es, ())).2.1 n).2.1.length) (fun vs _ => match vs with | [_, .int _ k] => (leaL (arrL b l n (id, es, ())).1 (arrL b l n (id, es, ())).2.1 n).2.1.length - k.toNat | _ => 0) ?_
  conv => whnf
  refine ⟨⟨0, congrArg (fun y => [AV.int .i64 y, AV.int .i64 0]) (by rw [List.take_zero]; show _ = _ + 0; omega), rfl, Nat.zero_le _⟩, ?_⟩
  rintro vs h' - ⟨i, rfl, rfl, hi⟩
  have hei := entN_le (L := (leaL (arrL b l n (id, es, ())).1 (arrL b l n (id, es, ())).2.1 n).2.1.take i) (fun r hr => hC.b5 r (List.mem_of_mem_take hr))
  have hli : ((leaL (arrL b l n (id, es, ())).1 (arrL b l n (id, es, ())).2.1 n).2.1.take i).length ≤ 2 := by have := hC.b4; rw [List.length_take]; omega
  have s1 := hC.s1
  have s3 := hC.s3
  have s2 := hC.s2
  have s4 := hC.s4
  have b1 := hC.b1
  have b2 := hC.b2
  have b3 := hC.b3
  have b4 := hC.b4
  have b6 := hC.b6
  have hel := longL_len hg
  have s1 : (cntR (arrL b l n (id, es, ())).1 (arrL b l n (id, es, ())).2.1).1 = (cntR b l).1 + (es.length : Int) := s1
  have hall := entN_le (L := (leaL (arrL b l n (id, es, ())).1 (arrL b l n (id, es, ())).2.1 n).2.1) hC.b5
  have e2 := hC.e2
  have e3 := hC.e3
  have e4 := hC.e4
  by_cases hlt : i < (leaL (arrL b l n (id, es, ())).1 (arrL b l n (id, es, ())).2.1 n).2.1.length
  · obtain ⟨x, hx⟩ : ∃ x : runT.El, ((leaL (arrL b l n (id, es, ())).1 (arrL b l n (id, es, ())).2.1 n).2.1 : List runT.El)[i]? = some x := ⟨_, List.getElem?_eq_getElem hlt⟩
    have hxl := hC.b5 x (List.mem_of_getElem? hx)
    have hst := entN_take hx
    conv => whnf
    repeat' first
      | ((first | refine idx_kn (by assumption) ?_ | refine idx_ki (by assumption) (by omega) ?_ | refine br_true (by first | with_reducible exact rfl | assumption | decide) ?_ | refine br_false (by first | with_reducible exact rfl | assumption | decide) ?_ | with_reducible first | refine br_kt (by assumption) ?_ | refine br_kf (by assumption) ?_ | refine br_nt (by assumption) ?_ | refine br_nf (by assumption) ?_ | refine br_et (by assumption) ?_ | refine br_ef (by assumption) ?_); conv => whnf)
      | ((with_reducible first | refine br_dec (fun h => ?_) (fun h => ?_) | refine br_ndec (fun h => ?_) (fun h => ?_) | refine br_ne (fun h => ?_) (fun h => ?_) | refine br_eq (fun h => ?_) (fun h => ?_)) <;> first | (exfalso; omega) | conv => whnf)
      | (refine br_intro (fun h => ?_) (fun h => ?_) <;> conv => whnf)
      | ((first | refine need_in (by first | exact trivial | assumption | exact ⟨rfl, Nat.le_refl _⟩ | exact ⟨rfl, rfl⟩ | (simp only [inR]; omega) | omega | (simp only [roomP, true_and, and_true, List.length_take, List.length_drop, List.length_append, List.length_cons, List.length_nil, List.length_set, List.length_replicate]; omega) | (refine ⟨by first | exact trivial | rfl, by first | exact Nat.le_refl _ | omega | (simp; omega), ?_⟩; change roomP _ _ 1; simp only [roomP]; omega) | (change roomP _ _ 1; simp only [roomP]; omega) | (simp; omega) | (simp [inR]; omega) | (simp [inR]; done) | decide | (simp; done)) ?_ | refine idx_nat (by omega) (fun x hx => ?_) | refine frz_auto ?_ | refine draw_plain ?_ | refine idx_intro (by first | omega | (simp; omega) | (simp; done)) (by first | omega | (simp; omega) | (simp; done)) (fun x hx => ?_)); conv => whnf)
    refine back_intro (by conv => whnf) rfl ⟨i + 1, congrArg (fun y => [AV.int .i64 y, AV.int .i64 ((i : Int) + 1)]) (by rw [hst]; omega), rfl, by omega⟩ ?_
    show (leaL (arrL b l n (id, es, ())).1 (arrL b l n (id, es, ())).2.1 n).2.1.length - ((i : Int) + 1).toNat < (leaL (arrL b l n (id, es, ())).1 (arrL b l n (id, es, ())).2.1 n).2.1.length - (i : Int).toNat
    omega
  · have hin : i = (leaL (arrL b l n (id, es, ())).1 (arrL b l n (id, es, ())).2.1 n).2.1.length := by omega
    subst hin
    rw [List.take_length] at *
    conv => whnf
    repeat' first
      | ((first | refine idx_kn (by assumption) ?_ | refine idx_ki (by assumption) (by omega) ?_ | refine br_true (by first | with_reducible exact rfl | assumption | decide) ?_ | refine br_false (by first | with_reducible exact rfl | assumption | decide) ?_ | with_reducible first | refine br_kt (by assumption) ?_ | refine br_kf (by assumption) ?_ | refine br_nt (by assumption) ?_ | refine br_nf (by assumption) ?_ | refine br_et (by assumption) ?_ | refine br_ef (by assumption) ?_); conv => whnf)
      | ((with_reducible first | refine br_dec (fun h => ?_) (fun h => ?_) | refine br_ndec (fun h => ?_) (fun h => ?_) | refine br_ne (fun h => ?_) (fun h => ?_) | refine br_eq (fun h => ?_) (fun h => ?_)) <;> first | (exfalso; omega) | conv => whnf)
      | (refine br_intro (fun h => ?_) (fun h => ?_) <;> conv => whnf)
      | ((first | refine need_in (by first | exact trivial | assumption | exact ⟨rfl, Nat.le_refl _⟩ | exact ⟨rfl, rfl⟩ | (simp only [inR]; omega) | omega | (simp only [roomP, true_and, and_true, List.length_take, List.length_drop, List.length_append, List.length_cons, List.length_nil, List.length_set, List.length_replicate]; omega) | (refine ⟨by first | exact trivial | rfl, by first | exact Nat.le_refl _ | omega | (simp; omega), ?_⟩; change roomP _ _ 1; simp only [roomP]; omega) | (change roomP _ _ 1; simp only [roomP]; omega) | (simp; omega) | (simp [inR]; omega) | (simp [inR]; done) | decide | (simp; done)) ?_ | refine idx_nat (by omega) (fun x hx => ?_) | refine frz_auto ?_ | refine draw_plain ?_ | refine idx_intro (by first | omega | (simp; omega) | (simp; done)) (by first | omega | (simp; omega) | (simp; done)) (fun x hx => ?_)); conv => whnf)
set_option maxRecDepth 100000 in
set_option maxHeartbeats 8000000 in
theorem lCo8 (b : Int) (l : List lvT.El) (n id : Int) (es : List entT.El) (hf : longV l = false) (hg : longL es = false) (h1 : VOk b l) (hn : n = 11) (hA : (arrL b l n (id, es, ())).2.2 = 0) : bodyA lCo_C (callN lCo_C lCo_N) Try.f5 [.agg [.int .i64 b, .lst lvT l], .int .i64 n, .agg [.int .i64 id, .lst entT es]] [] (fun v _ => v = .bool true) := by
  have hc1 : (cntR b l).2.2 = 0 := by rw [cnt_of h1]
  have hb1 := h1.lo
  have hb2 := h1.hi
  have hz1 : (sizR b n).2 = 0 := by rw [sz_at hb1 hb2 (by omega) (by omega)]
  have hC := cnt_arr (arr_of hA)
  have e2 := hC.e2
  have e3 := hC.e3
  have e4 := hC.e4
  conv => whnf
  repeat' first
    | ((first | refine idx_kn (by assumption) ?_ | refine idx_ki (by assumption) (by omega) ?_ | refine br_true (by first | with_reducible exact rfl | assumption | decide) ?_ | refine br_false (by first | with_reducible exact rfl | assumption | decide) ?_ | with_reducible first | refine br_kt (by assumption) ?_ | refine br_kf (by assumption) ?_ | refine br_nt (by assumption) ?_ | refine br_nf (by assumption) ?_ | refine br_et (by assumption) ?_ | refine br_ef (by assumption) ?_); conv => whnf)
    | ((with_reducible first | refine br_dec (fun h => ?_) (fun h => ?_) | refine br_ndec (fun h => ?_) (fun h => ?_) | refine br_ne (fun h => ?_) (fun h => ?_) | refine br_eq (fun h => ?_) (fun h => ?_)) <;> first | (exfalso; omega) | conv => whnf)
    | (refine br_intro (fun h => ?_) (fun h => ?_) <;> conv => whnf)
    | ((first | refine need_in (by first | exact trivial | assumption | exact ⟨rfl, Nat.le_refl _⟩ | exact ⟨rfl, rfl⟩ | (simp only [inR]; omega) | omega | (simp only [roomP, true_and, and_true, List.length_take, List.length_drop, List.length_append, List.length_cons, List.length_nil, List.length_set, List.length_replicate]; omega) | (refine ⟨by first | exact trivial | rfl, by first | exact Nat.le_refl _ | omega | (simp; omega), ?_⟩; change roomP _ _ 1; simp only [roomP]; omega) | (change roomP _ _ 1; simp only [roomP]; omega) | (simp; omega) | (simp [inR]; omega) | (simp [inR]; done) | decide | (simp; done)) ?_ | refine idx_nat (by omega) (fun x hx => ?_) | refine frz_auto ?_ | refine draw_plain ?_ | refine idx_intro (by first | omega | (simp; omega) | (simp; done)) (by first | omega | (simp; omega) | (simp; done)) (fun x hx => ?_)); conv => whnf)
  refine loop_inv [] [19, 22] (fun vs h => ∃ i : Nat, vs = [.int .i64 ((cntR (leaL (arrL b l n (id, es, ())).1 (arrL b l n (id, es, ())).2.1 n).1.1 (leaL (arrL b l n (id, es, ())).1 (arrL b l n (id, es, ())).2.1 n).1.2).1 + entN ((leaL (arrL b l n (id, es, ())).1 (arrL b l n (id, es, ())).2.1 n).2.1.take i)), .int .i64 (i : Int)] ∧ h = [.cells 29 [.int .i64 b, .lst lvT l], .cells 32 [.int .i64 id, .lst entT es], .cells 29 [.int .i64 (arrL b l n (id, es, ())).1, .lst lvT (arrL b l n (id, es, ())).2.1], .cells 29 [.int .i64 (leaL (arrL b l n (id, es, ())).1 (arrL b l n (id, es, ())).2.1 n).1.1, .lst lvT (leaL (arrL b l n (id, es, ())).1 (arrL b l n (id, es, ())).2.1 n).1.2]] ∧ i ≤ (leaL (arrL b l n (id, es, ())).1 (arrL b l n (id, es, ())).2.1 n).2.1.length) (fun vs _ => match vs with | [_, .int _ k] => (leaL (arrL b l n (id, es, ())).1 (arrL b l n (id, es, ())).2.1 n).2.1.length - k.toNat | _ => 0) ?_
  conv => whnf
  refine ⟨⟨0, congrArg (fun y => [AV.int .i64 y, AV.int .i64 0]) (by rw [List.take_zero]; show _ = _ + 0; omega), rfl, Nat.zero_le _⟩, ?_⟩
  rintro vs h' - ⟨i, rfl, rfl, hi⟩
  have hei := entN_le (L := (leaL (arrL b l n (id, es, ())).1 (arrL b l n (id, es, ())).2.1 n).2.1.take i) (fun r hr => hC.b5 r (List.mem_of_mem_take hr))
  have hli : ((leaL (arrL b l n (id, es, ())).1 (arrL b l n (id, es, ())).2.1 n).2.1.take i).length ≤ 2 := by have := hC.b4; rw [List.length_take]; omega
  have s1 := hC.s1
  have s3 := hC.s3
  have s2 := hC.s2
  have s4 := hC.s4
  have b1 := hC.b1
  have b2 := hC.b2
  have b3 := hC.b3
  have b4 := hC.b4
  have b6 := hC.b6
  have hel := longL_len hg
  have s1 : (cntR (arrL b l n (id, es, ())).1 (arrL b l n (id, es, ())).2.1).1 = (cntR b l).1 + (es.length : Int) := s1
  have hall := entN_le (L := (leaL (arrL b l n (id, es, ())).1 (arrL b l n (id, es, ())).2.1 n).2.1) hC.b5
  have e2 := hC.e2
  have e3 := hC.e3
  have e4 := hC.e4
  by_cases hlt : i < (leaL (arrL b l n (id, es, ())).1 (arrL b l n (id, es, ())).2.1 n).2.1.length
  · obtain ⟨x, hx⟩ : ∃ x : runT.El, ((leaL (arrL b l n (id, es, ())).1 (arrL b l n (id, es, ())).2.1 n).2.1 : List runT.El)[i]? = some x := ⟨_, List.getElem?_eq_getElem hlt⟩
    have hxl := hC.b5 x (List.mem_of_getElem? hx)
    have hst := entN_take hx
    conv => whnf
    repeat' first
      | ((first | refine idx_kn (by assumption) ?_ | refine idx_ki (by assumption) (by omega) ?_ | refine br_true (by first | with_reducible exact rfl | assumption | decide) ?_ | refine br_false (by first | with_reducible exact rfl | assumption | decide) ?_ | with_reducible first | refine br_kt (by assumption) ?_ | refine br_kf (by assumption) ?_ | refine br_nt (by assumption) ?_ | refine br_nf (by assumption) ?_ | refine br_et (by assumption) ?_ | refine br_ef (by assumption) ?_); conv => whnf)
      | ((with_reducible first | refine br_dec (fun h => ?_) (fun h => ?_) | refine br_ndec (fun h => ?_) (fun h => ?_) | refine br_ne (fun h => ?_) (fun h => ?_) | refine br_eq (fun h => ?_) (fun h => ?_)) <;> first | (exfalso; omega) | conv => whnf)
      | (refine br_intro (fun h => ?_) (fun h => ?_) <;> conv => whnf)
      | ((first | refine need_in (by first | exact trivial | assumption | exact ⟨rfl, Nat.le_refl _⟩ | exact ⟨rfl, rfl⟩ | (simp only [inR]; omega) | omega | (simp only [roomP, true_and, and_true, List.length_take, List.length_drop, List.length_append, List.length_cons, List.length_nil, List.length_set, List.length_replicate]; omega) | (refine ⟨by first | exact trivial | rfl, by first | exact Nat.le_refl _ | omega | (simp; omega), ?_⟩; change roomP _ _ 1; simp only [roomP]; omega) | (change roomP _ _ 1; simp only [roomP]; omega) | (simp; omega) | (simp [inR]; omega) | (simp [inR]; done) | decide | (simp; done)) ?_ | refine idx_nat (by omega) (fun x hx => ?_) | refine frz_auto ?_ | refine draw_plain ?_ | refine idx_intro (by first | omega | (simp; omega) | (simp; done)) (by first | omega | (simp; omega) | (simp; done)) (fun x hx => ?_)); conv => whnf)
    refine back_intro (by conv => whnf) rfl ⟨i + 1, congrArg (fun y => [AV.int .i64 y, AV.int .i64 ((i : Int) + 1)]) (by rw [hst]; omega), rfl, by omega⟩ ?_
    show (leaL (arrL b l n (id, es, ())).1 (arrL b l n (id, es, ())).2.1 n).2.1.length - ((i : Int) + 1).toNat < (leaL (arrL b l n (id, es, ())).1 (arrL b l n (id, es, ())).2.1 n).2.1.length - (i : Int).toNat
    omega
  · have hin : i = (leaL (arrL b l n (id, es, ())).1 (arrL b l n (id, es, ())).2.1 n).2.1.length := by omega
    subst hin
    rw [List.take_length] at *
    conv => whnf
    repeat' first
      | ((first | refine idx_kn (by assumption) ?_ | refine idx_ki (by assumption) (by omega) ?_ | refine br_true (by first | with_reducible exact rfl | assumption | decide) ?_ | refine br_false (by first | with_reducible exact rfl | assumption | decide) ?_ | with_reducible first | refine br_kt (by assumption) ?_ | refine br_kf (by assumption) ?_ | refine br_nt (by assumption) ?_ | refine br_nf (by assumption) ?_ | refine br_et (by assumption) ?_ | refine br_ef (by assumption) ?_); conv => whnf)
      | ((with_reducible first | refine br_dec (fun h => ?_) (fun h => ?_) | refine br_ndec (fun h => ?_) (fun h => ?_) | refine br_ne (fun h => ?_) (fun h => ?_) | refine br_eq (fun h => ?_) (fun h => ?_)) <;> first | (exfalso; omega) | conv => whnf)
      | (refine br_intro (fun h => ?_) (fun h => ?_) <;> conv => whnf)
      | ((first | refine need_in (by first | exact trivial | assumption | exact ⟨rfl, Nat.le_refl _⟩ | exact ⟨rfl, rfl⟩ | (simp only [inR]; omega) | omega | (simp only [roomP, true_and, and_true, List.length_take, List.length_drop, List.length_append, List.length_cons, List.length_nil, List.length_set, List.length_replicate]; omega) | (refine ⟨by first | exact trivial | rfl, by first | exact Nat.le_refl _ | omega | (simp; omega), ?_⟩; change roomP _ _ 1; simp only [roomP]; omega) | (change roomP _ _ 1; simp only [roomP]; omega) | (simp; omega) | (simp [inR]; omega) | (simp [inR]; done) | decide | (simp; done)) ?_ | refine idx_nat (by omega) (fun x hx => ?_) | refine frz_auto ?_ | refine draw_plain ?_ | refine idx_intro (by first | omega | (simp; omega) | (simp; done)) (by first | omega | (simp; omega) | (simp; done)) (fun x hx => ?_)); conv => whnf)
theorem lCo' (b : Int) (l : List lvT.El) (n id : Int) (es : List entT.El) : bodyA lCo_C (callN lCo_C lCo_N) Try.f5 [.agg [.int .i64 b, .lst lvT l], .int .i64 n, .agg [.int .i64 id, .lst entT es]] [] (fun v _ => v = .bool true) := by
  cases hf : longV l with
  | true => exact lCo1 b l n id es hf
  | false =>
    cases hg : longL es with
    | true => exact lCo2 b l n id es hf hg
    | false =>
      by_cases h0 : (chkL b l).2.2 = 0
      · have h1 := vok_iff.1 h0
        by_cases hA : (arrL b l n (id, es, ())).2.2 = 0
        · have A := arr_of hA
          have hn0 := A.n0
          have hn1 := A.n1
          by_cases hn : n < 11
          · exact lCo7 b l n id es hf hg h1 hn0 hn hA
          · exact lCo8 b l n id es hf hg h1 (by omega) hA
        · by_cases hr : n < 0 ∨ 12 ≤ n
          · exact lCo4 b l n id es hf hg h1 hr hA
          · by_cases hn : n < 11
            · exact lCo5 b l n id es hf hg h1 (by omega) hn hA
            · exact lCo6 b l n id es hf hg h1 (by omega) hA
      · exact lCo3 b l n id es hf hg h0
theorem lCo : ∀ es : Ty.Els lCo_T, tyOks lCo_T es → bodyA lCo_C (callN lCo_C lCo_N) Try.f5 (avTs lCo_T es) [] (fun v _ => v = .bool true) := by
  rintro ⟨⟨b, l, _⟩, n, ⟨id, es, _⟩, _⟩ _
  exact lCo' b l n id es
end Go.Proofs.Ytjinjnakedhmdaa
