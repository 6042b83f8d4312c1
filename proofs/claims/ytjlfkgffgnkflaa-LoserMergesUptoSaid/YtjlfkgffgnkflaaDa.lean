/-
  Players and their games: plain laws of the tree of losers.
-/
import Derived.Test.YtjlfkgffgnkflaaGF
namespace Lz
open Av

abbrev keyT : Ty := .st [.str, .bool]
abbrev intT : Ty := .int .i64
theorem cast_self {t : Ty} (h : t = t) (l : List t.El) : (h ▸ l : List t.El) = l := rfl
/-- A key that is right: who is done has none. -/
def okK (a : keyT.El) : Prop := a.2.1 = true → sEq a.1 ⟨#[]⟩ = true
def okKs (ks : List keyT.El) : Prop := ∀ x ∈ ks, okK x
def beatE (a b : keyT.El) (p q : Nat) : Bool := if a.2.1 = b.2.1 then (if sEq a.1 b.1 = true then decide (p < q) else sLt a.1 b.1) else b.2.1
def winB (ks : List keyT.El) (p q : Nat) : Bool := match ks[p]?, ks[q]? with
  | some a, some b => beatE a b p q
  | _, _ => false
def game (ks : List keyT.El) (a b : Nat) : Nat × Nat := if winB ks a b = true then (a, b) else (b, a)
def plF (ks : List keyT.El) : Nat → Nat → Nat × Nat
  | 0, node => (node - ks.length, 0)
  | f + 1, node => if ks.length ≤ node then (node - ks.length, 0) else game ks (plF ks f (2 * node)).1 (plF ks f (2 * node + 1)).1
def pl (ks : List keyT.El) (node : Nat) : Nat × Nat := plF ks ks.length node
theorem plF_st (ks : List keyT.El) : ∀ (f f' node : Nat), 1 ≤ node → ks.length - node ≤ f → ks.length - node ≤ f' → plF ks f node = plF ks f' node
  | 0, 0, _, _, _, _ => rfl
  | 0, f' + 1, node, _, h, _ => by rw [plF, plF, if_pos (by omega)]
  | f + 1, 0, node, _, _, h => by rw [plF, plF, if_pos (by omega)]
  | f + 1, f' + 1, node, h1, h2, h3 => by
    rw [plF, plF]
    split
    · rfl
    · rw [plF_st ks f f' (2 * node) (by omega) (by omega) (by omega), plF_st ks f f' (2 * node + 1) (by omega) (by omega) (by omega)]
theorem pl_leaf {ks : List keyT.El} {node : Nat} (h : ks.length ≤ node) : pl ks node = (node - ks.length, 0) := by
  unfold pl
  cases hn : ks.length with
  | zero => rw [plF, hn]
  | succ n => rw [plF, if_pos h, hn]
theorem pl_node {ks : List keyT.El} {node : Nat} (h1 : 1 ≤ node) (h : node < ks.length) : pl ks node = game ks (pl ks (2 * node)).1 (pl ks (2 * node + 1)).1 := by
  have e : pl ks node = plF ks (ks.length - 1 + 1) node := plF_st ks _ _ node h1 (by omega) (by omega)
  rw [e, plF, if_neg (by omega)]
  unfold pl
  rw [plF_st ks (ks.length - 1) ks.length (2 * node) (by omega) (by omega) (by omega), plF_st ks (ks.length - 1) ks.length (2 * node + 1) (by omega) (by omega) (by omega)]
theorem game_or (ks : List keyT.El) (a b : Nat) : (game ks a b = (a, b)) ∨ game ks a b = (b, a) := by
  unfold game; split
  · exact .inl rfl
  · exact .inr rfl
theorem pl_lt {ks : List keyT.El} : ∀ (d node : Nat), ks.length - node ≤ d → 1 ≤ node → node < 2 * ks.length → (pl ks node).1 < ks.length ∧ (pl ks node).2 < ks.length
  | 0, node, hd, h1, h2 => by rw [pl_leaf (by omega)]; exact ⟨by omega, by omega⟩
  | d + 1, node, hd, h1, h2 => by
    by_cases h : ks.length ≤ node
    · rw [pl_leaf h]; exact ⟨by omega, by omega⟩
    · rw [pl_node h1 (by omega)]
      have ha := pl_lt (ks := ks) d (2 * node) (by omega) (by omega) (by omega)
      have hb := pl_lt (ks := ks) d (2 * node + 1) (by omega) (by omega) (by omega)
      rcases game_or ks (pl ks (2 * node)).1 (pl ks (2 * node + 1)).1 with e | e <;> rw [e]
      · exact ⟨ha.1, hb.1⟩
      · exact ⟨hb.1, ha.1⟩
theorem pl_lt1 {ks : List keyT.El} {node : Nat} (h1 : 1 ≤ node) (h2 : node < 2 * ks.length) : (pl ks node).1 < ks.length := (pl_lt _ node (Nat.le_refl _) h1 h2).1
theorem pl_lt2 {ks : List keyT.El} {node : Nat} (h1 : 1 ≤ node) (h2 : node < 2 * ks.length) : (pl ks node).2 < ks.length := (pl_lt _ node (Nat.le_refl _) h1 h2).2
def loseL (ks : List keyT.El) : List Int := (List.range ks.length).map fun j => if j = 0 then 0 else ((pl ks j).2 : Int)
def winI (ks : List keyT.El) : Int := ((pl ks 1).1 : Int)
/-- Losers of the nodes below one. -/
def LOu (ks : List keyT.El) (i : Nat) : List Int := (List.range ks.length).map fun j => if j = 0 ∨ i ≤ j then 0 else ((pl ks j).2 : Int)
theorem LOu_one (ks : List keyT.El) : LOu ks 1 = List.replicate ks.length 0 := by
  apply List.ext_getElem (by simp [LOu])
  intro j h1 h2
  simp only [LOu, List.getElem_map, List.getElem_range, List.getElem_replicate]
  rw [if_pos (by omega)]
theorem LOu_end (ks : List keyT.El) {i : Nat} (h : ks.length ≤ i) : LOu ks i = loseL ks := by
  apply List.ext_getElem (by simp [LOu, loseL])
  intro j h1 h2
  simp only [LOu, loseL, List.getElem_map, List.getElem_range]
  have : j < ks.length := by simpa [LOu] using h1
  by_cases hj : j = 0
  · rw [if_pos (.inl hj), if_pos hj]
  · rw [if_neg (by omega), if_neg hj]
theorem LOu_set (ks : List keyT.El) {i : Nat} (h : 1 ≤ i) : (LOu ks i).set i ((pl ks i).2 : Int) = LOu ks (i + 1) := by
  apply List.ext_getElem (by simp [LOu])
  intro j h1 h2
  simp only [LOu, List.getElem_set, List.getElem_map, List.getElem_range]
  by_cases hj : i = j
  · subst hj
    rw [if_pos rfl, if_neg (by omega)]
  · rw [if_neg hj]
    by_cases h0 : j = 0 ∨ i ≤ j
    · rw [if_pos h0, if_pos (by omega)]
    · rw [if_neg h0, if_neg (by omega)]
theorem LOu_len (ks : List keyT.El) (i : Nat) : (LOu ks i).length = ks.length := by simp [LOu]
theorem loseL_len (ks : List keyT.El) : (loseL ks).length = ks.length := by simp [loseL]
/-- Players and losers of the nodes above one. -/
def PLd (ks : List keyT.El) (i : Nat) : List Int := (List.range (2 * ks.length)).map fun j => if i < j then ((pl ks j).1 : Int) else 0
def LOd (ks : List keyT.El) (i : Nat) : List Int := (List.range ks.length).map fun j => if i < j then ((pl ks j).2 : Int) else 0
theorem PLd_len (ks : List keyT.El) (i : Nat) : (PLd ks i).length = 2 * ks.length := by simp [PLd]
theorem LOd_len (ks : List keyT.El) (i : Nat) : (LOd ks i).length = ks.length := by simp [LOd]
theorem PLd_get (ks : List keyT.El) {i j : Nat} (h : i < j) (hj : j < 2 * ks.length) : (PLd ks i)[j]? = some ((pl ks j).1 : Int) := by
  simp [PLd, hj, h]
theorem PLd_top (ks : List keyT.El) {i : Nat} (h : 2 * ks.length ≤ i + 1) : PLd ks i = List.replicate (2 * ks.length) 0 := by
  apply List.ext_getElem (by simp [PLd])
  intro j h1 h2
  simp only [PLd, List.getElem_map, List.getElem_range, List.getElem_replicate]
  have : j < 2 * ks.length := by simpa [PLd] using h1
  rw [if_neg (by omega)]
theorem LOd_top (ks : List keyT.El) {i : Nat} (h : ks.length ≤ i + 1) : LOd ks i = List.replicate ks.length 0 := by
  apply List.ext_getElem (by simp [LOd])
  intro j h1 h2
  simp only [LOd, List.getElem_map, List.getElem_range, List.getElem_replicate]
  have : j < ks.length := by simpa [LOd] using h1
  rw [if_neg (by omega)]
theorem PLd_set (ks : List keyT.El) {i : Nat} (h : 1 ≤ i) : (PLd ks i).set i ((pl ks i).1 : Int) = PLd ks (i - 1) := by
  apply List.ext_getElem (by simp [PLd])
  intro j h1 h2
  simp only [PLd, List.getElem_set, List.getElem_map, List.getElem_range]
  by_cases hj : i = j
  · subst hj
    rw [if_pos rfl, if_pos (by omega)]
  · rw [if_neg hj]
    by_cases h0 : i < j
    · rw [if_pos h0, if_pos (by omega)]
    · rw [if_neg h0, if_neg (by omega)]
theorem LOd_set (ks : List keyT.El) {i : Nat} (h : 1 ≤ i) : (LOd ks i).set i ((pl ks i).2 : Int) = LOd ks (i - 1) := by
  apply List.ext_getElem (by simp [LOd])
  intro j h1 h2
  simp only [LOd, List.getElem_set, List.getElem_map, List.getElem_range]
  by_cases hj : i = j
  · subst hj
    rw [if_pos rfl, if_pos (by omega)]
  · rw [if_neg hj]
    by_cases h0 : i < j
    · rw [if_pos h0, if_pos (by omega)]
    · rw [if_neg h0, if_neg (by omega)]
theorem LOd_leaf (ks : List keyT.El) {i : Nat} (h : ks.length ≤ i) : LOd ks i = LOd ks (i - 1) := by
  apply List.ext_getElem (by simp [LOd])
  intro j h1 h2
  simp only [LOd, List.getElem_map, List.getElem_range]
  have : j < ks.length := by simpa [LOd] using h1
  rw [if_neg (by omega), if_neg (by omega)]
theorem LOd_zero (ks : List keyT.El) : LOd ks 0 = loseL ks := by
  apply List.ext_getElem (by simp [LOd, loseL])
  intro j h1 h2
  simp only [LOd, loseL, List.getElem_map, List.getElem_range]
  by_cases hj : j = 0
  · rw [if_neg (by omega), if_pos hj]
  · rw [if_pos (by omega), if_neg hj]
theorem beatE_irr (a : keyT.El) (p : Nat) : beatE a a p p = false := by
  unfold beatE
  rw [if_pos rfl]
  have : sEq a.1 a.1 = true := by simp [sEq]
  rw [if_pos this]
  simp
end Lz
