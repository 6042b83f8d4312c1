/-
  Levels: plain laws: what a level has, what is put in its place.
-/
import Derived.Test.YtjinjnakedhmdaaVg
import Derived.Test.YtjinjnakedhmdaaVi
namespace Go.Proofs.Ytjinjnakedhmdaa
open Av Bk

def atL (l : List lvT.El) (i : Nat) : List runT.El := match l[i]? with | some x => rsL x | none => []
theorem own_at (l : List lvT.El) (n : Int) : ownL l n = atL l n.toNat := rfl
theorem atL_get {l : List lvT.El} {i : Nat} {x : lvT.El} (h : l[i]? = some x) : atL l i = rsL x := by unfold atL; rw [h]
theorem atL_out {l : List lvT.El} {i : Nat} (h : l.length ≤ i) : atL l i = [] := by unfold atL; rw [List.getElem?_eq_none h]
theorem flat_nil {α β : Type} {l : List α} {f : α → List β} (h : ∀ i ∈ l, f i = []) : l.flatMap f = [] := by
  induction l with
  | nil => rfl
  | cons x l ih => rw [List.flatMap_cons, h x List.mem_cons_self, ih (fun i hi => h i (List.mem_cons_of_mem _ hi))]; rfl
theorem flat_congr {α β : Type} {l : List α} {f g : α → List β} (h : ∀ i ∈ l, f i = g i) : l.flatMap f = l.flatMap g := by
  induction l with
  | nil => rfl
  | cons x l ih => rw [List.flatMap_cons, List.flatMap_cons, h x List.mem_cons_self, ih (fun i hi => h i (List.mem_cons_of_mem _ hi))]
theorem flat_at {β : Type} (F : List runT.El → List β) (h0 : F [] = []) : ∀ (l : List lvT.El) (m : Nat), l.length ≤ m → l.flatMap (fun x => F (rsL x)) = (List.range m).flatMap (fun i => F (atL l i))
  | [], m, _ => (flat_nil fun i _ => h0).symm
  | x :: l, 0, h => by simp at h
  | x :: l, m + 1, h => by
    have h : l.length ≤ m := by simpa using h
    rw [List.range_succ_eq_map, List.flatMap_cons, List.flatMap_cons, List.flatMap_map, flat_at F h0 l m h]
    rfl
theorem range_split {n m : Nat} (h : n < m) : List.range m = List.range n ++ n :: List.range' (n + 1) (m - n - 1) := by
  have e : m = n + (m - n) := by omega
  have e2 : m - n = (m - n - 1) + 1 := by omega
  conv => lhs; rw [e]
  rw [List.range_eq_range', List.range_eq_range', ← List.range'_append_1, Nat.zero_add]
  conv => lhs; rw [e2]
  rw [List.range'_succ]
/-- What lies ahead of a level, and behind it. -/
def loL {β : Type} (F : List runT.El → List β) (l : List lvT.El) (n : Nat) : List β := (List.range n).flatMap fun i => F (atL l i)
def hiL {β : Type} (F : List runT.El → List β) (l : List lvT.El) (n : Nat) : List β := (List.range' (n + 1) (12 - n - 1)).flatMap fun i => F (atL l i)
theorem flat_lo {β : Type} (F : List runT.El → List β) {l : List lvT.El} {n : Nat} (hn : n < 12) : loL F l 12 = loL F l n ++ (F (atL l n) ++ hiL F l n) := by
  unfold loL hiL
  rw [range_split hn, List.flatMap_append, List.flatMap_cons]
theorem lo_congr {β : Type} (F : List runT.El → List β) {l m : List lvT.El} {n : Nat} (h : ∀ i, i ≠ n → atL l i = atL m i) : loL F l n = loL F m n ∧ hiL F l n = hiL F m n := by
  constructor
  · exact flat_congr fun i hi => by rw [h i (by have := List.mem_range.1 hi; omega)]
  · exact flat_congr fun i hi => by
      have := (List.mem_range'_1.1 hi).1
      rw [h i (by omega)]
abbrev revF (l : List runT.El) : List runT.El := l.reverse
abbrev idF (l : List runT.El) : List Int := l.map idR
theorem newL_lo {l : List lvT.El} (h : l.length ≤ 12) : newL l = loL revF l 12 := flat_at revF rfl l 12 h
def allI (l : List lvT.El) : List Int := l.flatMap fun x => (rsL x).map idR
theorem allI_lo {l : List lvT.El} (h : l.length ≤ 12) : allI l = loL idF l 12 := flat_at idF rfl l 12 h
theorem new_ids {l : List lvT.El} {a : Int} : a ∈ (newL l).map idR ↔ a ∈ allI l := by
  unfold newL allI
  rw [List.mem_map, List.mem_flatMap]
  constructor
  · rintro ⟨r, hr, rfl⟩
    obtain ⟨x, hx, h⟩ := List.mem_flatMap.1 hr
    exact ⟨x, hx, List.mem_map_of_mem (List.mem_reverse.1 h)⟩
  · rintro ⟨x, hx, h⟩
    obtain ⟨r, hr, rfl⟩ := List.mem_map.1 h
    exact ⟨r, List.mem_flatMap.2 ⟨x, hx, List.mem_reverse.2 hr⟩, rfl⟩

/-! ### Levels without those at the end that have no runs -/
theorem trim_ex (L : List lvT.El) : ∀ m, m ≤ L.length → ∃ k, k ≤ m ∧ trimL (L.take m) = L.take k ∧ (∀ i, k ≤ i → i < m → atL L i = []) ∧ (k = 0 ∨ ∃ x, L[k - 1]? = some x ∧ (rsL x).isEmpty = false)
  | 0, _ => ⟨0, Nat.le_refl _, by rw [List.take_zero]; rfl, fun i h1 h2 => by omega, .inl rfl⟩
  | m + 1, hm => by
    obtain ⟨x, hx⟩ : ∃ x : lvT.El, L[m]? = some x := ⟨_, List.getElem?_eq_getElem (by omega)⟩
    cases he : (rsL x).isEmpty with
    | true =>
      obtain ⟨k, h1, h2, h3, h4⟩ := trim_ex L m (by omega)
      refine ⟨k, by omega, by rw [trim_cut hx, he, if_pos rfl, h2], fun i hi hi2 => ?_, h4⟩
      by_cases e : i = m
      · subst e; rw [atL_get hx]; exact List.isEmpty_iff.1 he
      · exact h3 i hi (by omega)
    | false => exact ⟨m + 1, Nat.le_refl _, by rw [trim_cut hx, he]; rfl, fun i h1 h2 => by omega, .inr ⟨x, hx, he⟩⟩
theorem trim_at (L : List lvT.El) : (∀ i, atL (trimL L) i = atL L i) ∧ lastE (trimL L) = false ∧ (trimL L).length ≤ L.length := by
  obtain ⟨k, h1, h2, h3, h4⟩ := trim_ex L L.length (Nat.le_refl _)
  rw [List.take_length] at h2
  rw [h2]
  refine ⟨fun i => ?_, ?_, by rw [List.length_take]; omega⟩
  · by_cases hi : i < k
    · unfold atL; rw [List.getElem?_take, if_pos hi]
    · rw [atL_out (by rw [List.length_take]; omega)]
      by_cases hl : i < L.length
      · exact (h3 i (by omega) hl).symm
      · exact (atL_out (by omega)).symm
  · rcases h4 with h4 | ⟨x, hx, he⟩
    · subst h4; rw [List.take_zero]; rfl
    · have hk : 0 < k ∨ k = 0 := by omega
      rcases hk with hk | hk
      · rw [lastE_at (x := x) (by rw [List.length_take, Nat.min_eq_left h1, List.getElem?_take, if_pos (by omega)]; exact hx)]
        exact he
      · subst hk; rw [List.take_zero]; rfl
theorem put_at (l : List lvT.El) (n : Nat) (rs : List runT.El) (i : Nat) : atL (putLv l n rs) i = if i = n then rs else atL l i := by
  have hl := putLv_len l n rs
  unfold atL putLv
  rw [List.getElem?_set]
  by_cases e : i = n
  · subst e
    rw [if_pos rfl, if_pos rfl, if_pos (by rw [List.length_append, List.length_replicate]; omega)]
  · rw [if_neg (fun h => e h.symm), if_neg e]
    by_cases hi : i < l.length
    · rw [List.getElem?_append_left hi]
    · rw [List.getElem?_append_right (by omega), List.getElem?_replicate, List.getElem?_eq_none (l := l) (by omega)]
      by_cases h9 : i - l.length < n + 1 - l.length
      · rw [if_pos h9]
        try rfl
      · rw [if_neg h9]
        try rfl
theorem with_at (l : List lvT.El) (n : Nat) (rs : List runT.El) (i : Nat) : atL (withL l n rs) i = if i = n then rs else atL l i := by
  rw [show withL l n rs = trimL (putLv l n rs) from rfl, (trim_at _).1, put_at]
theorem with_last (l : List lvT.El) (n : Nat) (rs : List runT.El) : lastE (withL l n rs) = false := (trim_at _).2.1
theorem with_len {l : List lvT.El} {n : Nat} {rs : List runT.El} (hl : l.length ≤ 12) (hn : n < 12) : (withL l n rs).length ≤ 12 := by
  have h1 : (withL l n rs).length ≤ _ := (trim_at (putLv l n rs)).2.2
  have h2 := putLv_len l n rs
  omega
/-! ### When levels are right -/
theorem lcR_iff {m : Int} : ∀ {rs : List runT.El} {ids : List Int} {k : Int}, ids.Nodup → (lcR ids m k rs = none ↔ (∀ r ∈ rs, fitE r m = 0) ∧ (ids ++ rs.map idR).Nodup)
  | [], ids, k, hn => by simp [lcR, hn]
  | r :: rs, ids, k, hn => by
    have hd : lcR ids m k (r :: rs) = if fitI ids m r ≠ 0 then some (k, fitI ids m r) else lcR (ids ++ [r.1]) m (k + 1) rs := rfl
    rw [hd]
    by_cases h1 : fitE r m = 0
    · by_cases h2 : r.1 ∈ ids
      · have hf : fitI ids m r = 8 := by unfold fitI; rw [if_neg (fun e => e h1), if_pos h2]
        rw [hf, if_pos (by decide)]
        refine ⟨fun h => (by cases h), fun ⟨_, h⟩ => ?_⟩
        exact absurd rfl ((List.nodup_append.1 h).2.2 r.1 h2 r.1 List.mem_cons_self)
      · have hf : fitI ids m r = 0 := by unfold fitI; rw [if_neg (fun e => e h1), if_neg h2]
        rw [hf, if_neg (by decide)]
        have hn2 : (ids ++ [r.1]).Nodup := List.nodup_append.2 ⟨hn, by simp, fun a ha b hb => by
          rw [List.mem_singleton] at hb
          rintro rfl
          exact h2 (hb ▸ ha)⟩
        rw [lcR_iff hn2]
        have e : ids ++ [r.1] ++ rs.map idR = ids ++ (r :: rs).map idR := by rw [List.append_assoc]; rfl
        rw [e]
        constructor
        · rintro ⟨h3, h4⟩
          refine ⟨fun x hx => ?_, h4⟩
          rcases List.mem_cons.1 hx with rfl | hx
          · exact h1
          · exact h3 x hx
        · rintro ⟨h3, h4⟩
          exact ⟨fun x hx => h3 x (List.mem_cons_of_mem _ hx), h4⟩
    · have hf : fitI ids m r ≠ 0 := by unfold fitI; rw [if_pos h1]; exact h1
      rw [if_pos hf]
      exact ⟨fun h => (by cases h), fun ⟨h, _⟩ => absurd (h r List.mem_cons_self) h1⟩
theorem lcG_iff {b : Int} : ∀ {l : List lvT.El} {ids : List Int} {i : Nat}, ids.Nodup → (lcG b ids i l = none ↔ (∀ j, (atL l j).length ≤ 2 ∧ ∀ r ∈ atL l j, fitE r (szL b (i + j)) = 0) ∧ (ids ++ allI l).Nodup)
  | [], ids, i, hn => by
    have e : ∀ j, atL [] j = [] := fun j => rfl
    simp [lcG, hn, e, allI]
  | x :: l, ids, i, hn => by
    have hd : lcG b ids i (x :: l) = if 2 < (rsL x).length then some ((i : Int), (0 : Int), (3 : Int)) else match lcR ids (szL b i) 0 (rsL x) with
      | some (k, e) => some ((i : Int), k, e)
      | none => lcG b (ids ++ (rsL x).map idR) (i + 1) l := rfl
    have ha : allI (x :: l) = (rsL x).map idR ++ allI l := List.flatMap_cons
    have h0 : atL (x :: l) 0 = rsL x := rfl
    rw [hd, ha]
    by_cases h2 : 2 < (rsL x).length
    · rw [if_pos h2]
      refine ⟨fun h => (by cases h), fun ⟨h, _⟩ => ?_⟩
      have := (h 0).1
      rw [h0] at this
      omega
    · rw [if_neg h2]
      have hr := lcR_iff (m := szL b i) (rs := rsL x) (k := 0) hn
      cases hl : lcR ids (szL b i) 0 (rsL x) with
      | some p =>
        refine ⟨fun h => (by cases h), fun ⟨h, h4⟩ => ?_⟩
        exfalso
        have := hr.2 ⟨fun r hr => (h 0).2 r hr, h4.sublist (by rw [← List.append_assoc]; exact List.sublist_append_left _ _)⟩
        rw [hl] at this
        cases this
      | none =>
        obtain ⟨h5, h6⟩ := hr.1 hl
        show lcG b (ids ++ (rsL x).map idR) (i + 1) l = none ↔ _
        rw [lcG_iff h6, List.append_assoc]
        constructor
        · rintro ⟨h7, h8⟩
          refine ⟨fun j => ?_, h8⟩
          cases j with
          | zero => exact ⟨by rw [h0]; omega, h5⟩
          | succ j =>
            have := h7 j
            rw [show i + 1 + j = i + (j + 1) by omega] at this
            exact this
        · rintro ⟨h7, h8⟩
          refine ⟨fun j => ?_, h8⟩
          have := h7 (j + 1)
          rw [show i + (j + 1) = i + 1 + j by omega] at this
          exact this
structure VOk (b : Int) (l : List lvT.El) : Prop where
  lo : 1 ≤ b
  hi : b ≤ 16
  len : l.length ≤ 12
  two : ∀ i, (atL l i).length ≤ 2
  fit : ∀ i, ∀ r ∈ atL l i, fitE r (szL b i) = 0
  nod : (loL idF l 12).Nodup
  last : lastE l = false
theorem vok_iff {b : Int} {l : List lvT.El} : (chkL b l).2.2 = 0 ↔ VOk b l := by
  constructor
  · intro h
    have hok := lvOk_of h
    have h1 := (lcG_iff (b := b) (l := l) (ids := []) (i := 0) List.nodup_nil).1 hok.lcg
    refine ⟨hok.lo, hok.hi, hok.len, fun i => (h1.1 i).1, fun i r hr => ?_, ?_, hok.last⟩
    · have := (h1.1 i).2 r hr
      rw [Nat.zero_add] at this
      exact this
    · rw [← allI_lo hok.len]
      exact h1.2
  · intro h
    have h1 := (lcG_iff (b := b) (l := l) (ids := []) (i := 0) List.nodup_nil).2 ⟨fun j => ⟨h.two j, fun r hr => by rw [Nat.zero_add]; exact h.fit j r hr⟩, by rw [allI_lo h.len]; exact h.nod⟩
    have hlo := h.lo
    have hhi := h.hi
    have hln := h.len
    rw [chk_end (by omega) (by omega) h1, h.last]
    rfl
/-- Levels with a level's runs put in place are right, if these are. -/
theorem with_ok {b : Int} {l : List lvT.El} {n : Nat} {rs : List runT.El} (h : VOk b l) (hn : n < 12) (h2 : rs.length ≤ 2) (hf : ∀ r ∈ rs, fitE r (szL b n) = 0) (hd : (loL idF l n ++ (idF rs ++ hiL idF l n)).Nodup) : VOk b (withL l n rs) := by
  have hc := lo_congr idF (l := withL l n rs) (m := l) (n := n) (fun i hi => by rw [with_at, if_neg hi])
  refine ⟨h.lo, h.hi, with_len h.len hn, fun i => ?_, fun i r hr => ?_, ?_, with_last l n rs⟩
  · rw [with_at]
    split
    · exact h2
    · exact h.two i
  · rw [with_at] at hr
    split at hr
    · rename_i e; subst e; exact hf r hr
    · exact h.fit i r hr
  · rw [flat_lo idF hn, hc.1, hc.2, with_at, if_pos rfl]
    exact hd
theorem new_own {l : List lvT.El} {n : Nat} (hl : l.length ≤ 12) (hn : n < 12) : newL l = loL revF l n ++ ((atL l n).reverse ++ hiL revF l n) := by
  rw [newL_lo hl, flat_lo revF hn]
/-! ### A run arrives -/
structure Arr (b : Int) (l : List lvT.El) (n : Int) (r : runT.El) : Prop where
  ok : VOk b l
  n0 : 0 ≤ n
  n1 : n < 12
  one : (atL l n.toNat).length ≤ 1
  arr : arrL b l n r = (b, withL l n.toNat (atL l n.toNat ++ [r]), 0)
  ok2 : VOk b (withL l n.toNat (atL l n.toNat ++ [r]))
  ok3 : VOk b (withL l n.toNat [])
theorem arr_of {b : Int} {l : List lvT.El} {n : Int} {r : runT.El} (h : (arrL b l n r).2.2 = 0) : Arr b l n r := by
  unfold arrL at h
  split at h
  · exact absurd h (by assumption)
  · rename_i h1
    have h1 := Decidable.not_not.1 h1
    split at h
    · exact absurd h (by assumption)
    · rename_i h2
      have h2 := Decidable.not_not.1 h2
      split at h
      · exact absurd h (by decide)
      · rename_i h3
        obtain ⟨hlv, hn0, hn1⟩ := inE_ok h1
        have hck : (chkL b l).2.2 = 0 := by
          unfold inE at h1
          split at h1
          · exact h1
          · rename_i h; exact Decidable.not_not.1 h
        have hok := vok_iff.1 hck
        rw [own_at] at h3
        have h2n := hok.two n.toNat
        have hfe : fitE r (szL b n.toNat) = 0 := by
          unfold fitI at h2
          split at h2
          · exact h2
          · rename_i h; exact Decidable.not_not.1 h
        have hni : ¬ r.1 ∈ (newL l).map idR := by
          intro hm
          unfold fitI at h2
          rw [if_neg (fun e => e hfe), if_pos hm] at h2
          exact absurd h2 (by decide)
        have hn2 : n.toNat < 12 := by omega
        rw [new_ids, allI_lo hok.len] at hni
        have hnd := hok.nod
        rw [flat_lo idF hn2] at hnd hni
        refine ⟨hok, hn0, hn1, by omega, ?_, ?_, ?_⟩
        · unfold arrL
          rw [if_neg (fun e => e h1), if_neg (fun e => e h2), own_at, if_neg h3]
        · refine with_ok hok hn2 (by rw [List.length_append]; show _ + 1 ≤ 2; omega) (fun x hx => ?_) ?_
          · rcases List.mem_append.1 hx with hx | hx
            · exact hok.fit _ x hx
            · rw [List.mem_singleton] at hx; rw [hx]; exact hfe
          · have e : loL idF l n.toNat ++ (idF (atL l n.toNat ++ [r]) ++ hiL idF l n.toNat) = (loL idF l n.toNat ++ idF (atL l n.toNat)) ++ r.1 :: hiL idF l n.toNat := by
              show _ ++ (List.map idR _ ++ _) = _
              rw [List.map_append, List.append_assoc, List.append_assoc]; rfl
            rw [e, List.perm_middle.nodup_iff, List.nodup_cons, List.append_assoc]
            exact ⟨hni, hnd⟩
        · refine with_ok hok hn2 (Nat.zero_le _) (fun x hx => by simp at hx) ?_
          exact hnd.sublist (List.Sublist.append (List.Sublist.refl _) (List.sublist_append_right _ _))
end Go.Proofs.Ytjinjnakedhmdaa
