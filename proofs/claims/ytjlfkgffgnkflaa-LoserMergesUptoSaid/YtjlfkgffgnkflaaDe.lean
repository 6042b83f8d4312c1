/-
  Replacing the winner's key: the games on the way up are those of the new tree.
-/
import Derived.Test.YtjlfkgffgnkflaaDa
import Derived.Test.YtjlfkgffgnkflaaOrd
namespace Lz
open Av

/-! ### The way up -/
theorem way_lt {m v d j e : Nat} (hv : m / 2 ^ d = v) (hj : m / 2 ^ e = j) (h1 : v / 2 < j) (h2 : j < v) : False := by
  rcases Nat.lt_or_ge d e with h | h
  · have : j ≤ v / 2 := by
      rw [← hj, ← hv, Nat.div_div_eq_div_mul, ← Nat.pow_succ]
      exact Nat.div_le_div_left (Nat.pow_le_pow_right (by decide) h) (Nat.pos_of_ne_zero (by simp))
    omega
  · have : v ≤ j := by
      rw [← hj, ← hv]
      exact Nat.div_le_div_left (Nat.pow_le_pow_right (by decide) h) (Nat.pos_of_ne_zero (by simp))
    omega
theorem way_sib {m x y d e : Nat} (hx : m / 2 ^ d = x) (hy : m / 2 ^ e = y) (h : x / 2 = y / 2) (h1 : 1 ≤ x / 2) : x = y := by
  rcases Nat.lt_trichotomy x y with h2 | h2 | h2
  · exact (way_lt hy hx (by omega) h2).elim
  · exact h2
  · exact (way_lt hx hy (by omega) h2).elim
theorem way_up {m v d : Nat} (h : m / 2 ^ d = v) : m / 2 ^ (d + 1) = v / 2 := by
  rw [Nat.pow_succ, ← Nat.div_div_eq_div_mul, h]
theorem game_fst (ks : List keyT.El) (a b : Nat) : (game ks a b).1 = a ∨ (game ks a b).1 = b := by
  rcases game_or ks a b with e | e <;> rw [e]
  · exact .inl rfl
  · exact .inr rfl
theorem pl_desc {ks : List keyT.El} : ∀ (c j : Nat), ks.length - j ≤ c → 1 ≤ j → j < 2 * ks.length → ∃ d, (ks.length + (pl ks j).1) / 2 ^ d = j
  | 0, j, hc, h1, h2 => ⟨0, by rw [pl_leaf (by omega)]; simp only [Nat.pow_zero, Nat.div_one]; omega⟩
  | c + 1, j, hc, h1, h2 => by
    by_cases h : ks.length ≤ j
    · exact ⟨0, by rw [pl_leaf h]; simp only [Nat.pow_zero, Nat.div_one]; omega⟩
    · rw [pl_node h1 (by omega)]
      rcases game_fst ks (pl ks (2 * j)).1 (pl ks (2 * j + 1)).1 with e | e <;> rw [e]
      · obtain ⟨d, hd⟩ := pl_desc (ks := ks) c (2 * j) (by omega) (by omega) (by omega)
        exact ⟨d + 1, by rw [way_up hd]; omega⟩
      · obtain ⟨d, hd⟩ := pl_desc (ks := ks) c (2 * j + 1) (by omega) (by omega) (by omega)
        exact ⟨d + 1, by rw [way_up hd]; omega⟩
theorem winB_other {ks : List keyT.El} {k : keyT.El} {w a b : Nat} (ha : a ≠ w) (hb : b ≠ w) : winB (ks.set w k) a b = winB ks a b := by
  unfold winB
  rw [List.getElem?_set_ne (Ne.symm ha), List.getElem?_set_ne (Ne.symm hb)]
theorem pl_off {ks : List keyT.El} {k : keyT.El} {w : Nat} : ∀ (c j : Nat), ks.length - j ≤ c → 1 ≤ j → j < 2 * ks.length → (∀ d, (ks.length + w) / 2 ^ d ≠ j) → pl (ks.set w k) j = pl ks j
  | 0, j, hc, h1, h2, hw => by rw [pl_leaf (by rw [List.length_set]; omega), pl_leaf (by omega), List.length_set]
  | c + 1, j, hc, h1, h2, hw => by
    by_cases h : ks.length ≤ j
    · rw [pl_leaf (by rw [List.length_set]; omega), pl_leaf h, List.length_set]
    · have hl : ∀ d, (ks.length + w) / 2 ^ d ≠ 2 * j := fun d e => hw (d + 1) (by rw [way_up e]; omega)
      have hr : ∀ d, (ks.length + w) / 2 ^ d ≠ 2 * j + 1 := fun d e => hw (d + 1) (by rw [way_up e]; omega)
      rw [pl_node h1 (by rw [List.length_set]; omega), pl_node h1 (by omega), pl_off (k := k) c (2 * j) (by omega) (by omega) (by omega) hl, pl_off (k := k) c (2 * j + 1) (by omega) (by omega) (by omega) hr]
      have ha : (pl ks (2 * j)).1 ≠ w := by
        intro e
        obtain ⟨d, hd⟩ := pl_desc (ks := ks) _ (2 * j) (Nat.le_refl _) (by omega) (by omega)
        rw [e] at hd
        exact hl d hd
      have hb : (pl ks (2 * j + 1)).1 ≠ w := by
        intro e
        obtain ⟨d, hd⟩ := pl_desc (ks := ks) _ (2 * j + 1) (Nat.le_refl _) (by omega) (by omega)
        rw [e] at hd
        exact hr d hd
      unfold game
      rw [winB_other ha hb]
/-- The winner has won all games on its way. -/
theorem pl_way {ks : List keyT.El} {w : Nat} (hw : (pl ks 1).1 = w) (hn : 1 ≤ ks.length) : ∀ (c v d : Nat), v ≤ c → (ks.length + w) / 2 ^ d = v → 1 ≤ v → (pl ks v).1 = w
  | 0, v, d, hc, _, h1 => by omega
  | c + 1, v, d, hc, hv, h1 => by
    by_cases h : v = 1
    · rw [h]; exact hw
    · have hwl : w < ks.length := by rw [← hw]; exact pl_lt1 (Nat.le_refl _) (by omega)
      have hv2 : v < 2 * ks.length := by
        have := Nat.div_le_self (ks.length + w) (2 ^ d)
        omega
      have hu := pl_way hw hn c (v / 2) (d + 1) (by omega) (way_up hv) (by omega)
      have hg := pl_node (ks := ks) (node := v / 2) (by omega) (by omega)
      rw [hg] at hu
      have key : ∀ x y : Nat, (game ks (pl ks x).1 (pl ks y).1).1 = w → v = x → y / 2 = v / 2 → 1 ≤ y → y < 2 * ks.length → y ≠ v → (pl ks v).1 = w := by
        intro x y hg hx hy hy1 hy2 hne
        subst hx
        rcases game_fst ks (pl ks v).1 (pl ks y).1 with e | e
        · rw [← e]; exact hg
        · rw [e] at hg
          obtain ⟨e', he'⟩ := pl_desc (ks := ks) _ y (Nat.le_refl _) hy1 hy2
          rw [hg] at he'
          exact absurd (way_sib he' hv hy (by omega)) hne
      have key2 : ∀ x y : Nat, (game ks (pl ks x).1 (pl ks y).1).1 = w → v = y → x / 2 = v / 2 → 1 ≤ x → x < 2 * ks.length → x ≠ v → (pl ks v).1 = w := by
        intro x y hg hx hy hy1 hy2 hne
        subst hx
        rcases game_fst ks (pl ks x).1 (pl ks v).1 with e | e
        · rw [e] at hg
          obtain ⟨e', he'⟩ := pl_desc (ks := ks) _ x (Nat.le_refl _) hy1 hy2
          rw [hg] at he'
          exact absurd (way_sib he' hv hy (by omega)) hne
        · rw [← e]; exact hg
      by_cases hev : v = 2 * (v / 2)
      · exact key _ _ hu hev (by omega) (by omega) (by omega) (by omega)
      · exact key2 _ _ hu (by omega) (by omega) (by omega) (by omega) (by omega)
theorem sLt_tri {a b : ByteArray} (h : sEq a b = false) : sLt a b = !sLt b a := by
  have hne : a.data.toList ≠ b.data.toList := by
    intro e
    rw [sEq, e, beq_self_eq_true] at h
    cases h
  unfold sLt
  cases h1 : Go.Op.bytesLess a.data.toList b.data.toList <;> cases h2 : Go.Op.bytesLess b.data.toList a.data.toList
  · exact absurd (Bk.bl_total _ _ h1 h2) hne
  · rfl
  · rfl
  · have := Bk.bl_trans _ _ _ h1 h2
    rw [Bk.bl_irrefl] at this
    cases this
theorem sEq_sym (a b : ByteArray) : sEq a b = sEq b a := by
  unfold sEq
  exact Bool.beq_comm
theorem beat_anti {a b : keyT.El} {p q : Nat} (h : p ≠ q) : beatE a b p q = !beatE b a q p := by
  unfold beatE
  by_cases hd : a.2.1 = b.2.1
  · rw [if_pos hd, if_pos hd.symm, sEq_sym b.1 a.1]
    cases he : sEq a.1 b.1 with
    | true =>
      simp only [if_true]
      rcases Nat.lt_or_gt_of_ne h with h1 | h1
      · rw [decide_eq_true h1, decide_eq_false (by omega)]; rfl
      · rw [decide_eq_false (by omega), decide_eq_true h1]; rfl
    | false =>
      simp only [Bool.false_eq_true, if_false]
      exact sLt_tri he
  · rw [if_neg hd, if_neg (fun e => hd e.symm)]
    cases h1 : a.2.1 <;> cases h2 : b.2.1 <;> simp_all
theorem winB_anti {ks : List keyT.El} {p q : Nat} (hp : p < ks.length) (hq : q < ks.length) (h : p ≠ q) : winB ks p q = !winB ks q p := by
  unfold winB
  rw [List.getElem?_eq_getElem hp, List.getElem?_eq_getElem hq]
  exact beat_anti h
/-! ### One game on the way up -/
theorem way_game {ks : List keyT.El} {k : keyT.El} {w v d : Nat} (hw : (pl ks 1).1 = w) (hn : 1 ≤ ks.length) (hv : (ks.length + w) / 2 ^ d = v) (h2 : 2 ≤ v) :
    pl (ks.set w k) (v / 2) = if winB (ks.set w k) (pl ks (v / 2)).2 (pl (ks.set w k) v).1 = true then ((pl ks (v / 2)).2, (pl (ks.set w k) v).1) else ((pl (ks.set w k) v).1, (pl ks (v / 2)).2) := by
  have hwl : w < ks.length := by rw [← hw]; exact pl_lt1 (Nat.le_refl _) (by omega)
  have hv2 : v < 2 * ks.length := by
    have := Nat.div_le_self (ks.length + w) (2 ^ d)
    omega
  have hlen : (ks.set w k).length = ks.length := List.length_set ..
  have hu := pl_way hw hn _ (v / 2) (d + 1) (Nat.le_refl _) (way_up hv) (by omega)
  have hvw := pl_way hw hn _ v d (Nat.le_refl _) hv (by omega)
  have hg := pl_node (ks := ks) (node := v / 2) (by omega) (by omega)
  have hg' := pl_node (ks := ks.set w k) (node := v / 2) (by omega) (by omega)
  have hnot : ∀ s, s / 2 = v / 2 → s ≠ v → ∀ e, (ks.length + w) / 2 ^ e ≠ s := by
    intro s hs hne e he
    exact hne (way_sib he hv hs (by omega))
  have hlose : ∀ s, s / 2 = v / 2 → s ≠ v → 1 ≤ s → s < 2 * ks.length → pl ks (v / 2) = game ks (pl ks v).1 (pl ks s).1 ∨ pl ks (v / 2) = game ks (pl ks s).1 (pl ks v).1 → (pl ks (v / 2)).2 = (pl ks s).1 := by
    intro s hs hne hs1 hs2 hgs
    rw [hvw] at hgs
    rcases hgs with e | e
    · rcases game_or ks w (pl ks s).1 with e2 | e2
      · rw [e, e2]
      · rw [e, e2] at hu
        rw [e, e2]
        exact hu.symm
    · rcases game_or ks (pl ks s).1 w with e2 | e2
      · rw [e, e2] at hu
        rw [e, e2]
        exact hu.symm
      · rw [e, e2]
  have hdiff : ∀ s, s / 2 = v / 2 → s ≠ v → 1 ≤ s → s < 2 * ks.length → (pl (ks.set w k) v).1 ≠ (pl (ks.set w k) s).1 := by
    intro s hs hne hs1 hs2 e
    obtain ⟨d1, h1⟩ := pl_desc (ks := ks.set w k) _ v (Nat.le_refl _) (by omega) (by omega)
    obtain ⟨d2, h2⟩ := pl_desc (ks := ks.set w k) _ s (Nat.le_refl _) hs1 (by omega)
    rw [← e] at h2
    exact hne (way_sib h2 h1 hs (by omega))
  by_cases hev : v = 2 * (v / 2)
  · obtain ⟨s, hs⟩ : ∃ s, s = 2 * (v / 2) + 1 := ⟨_, rfl⟩
    rw [← hs, ← hev] at hg hg'
    have hoff := pl_off (ks := ks) (k := k) (w := w) _ s (Nat.le_refl _) (by omega) (by omega) (hnot _ (by omega) (by omega))
    have hl := hlose s (by omega) (by omega) (by omega) (by omega) (.inl hg)
    have hdf := hdiff s (by omega) (by omega) (by omega) (by omega)
    rw [hg', hoff, hl]
    rw [hoff] at hdf
    have hA := pl_lt1 (ks := ks.set w k) (node := v) (by omega) (by omega)
    have hB := pl_lt1 (ks := ks) (node := s) (by omega) (by omega)
    rw [game, winB_anti hA (by omega) hdf]
    cases winB (ks.set w k) (pl ks s).1 (pl (ks.set w k) v).1 <;> simp
  · have ev : v = 2 * (v / 2) + 1 := by omega
    obtain ⟨s, hs⟩ : ∃ s, s = 2 * (v / 2) := ⟨_, rfl⟩
    rw [← ev, ← hs] at hg hg'
    have hoff := pl_off (ks := ks) (k := k) (w := w) _ s (Nat.le_refl _) (by omega) (by omega) (hnot _ (by omega) (by omega))
    have hl := hlose s (by omega) (by omega) (by omega) (by omega) (.inr hg)
    rw [hg', hoff, hl, game]
/-! ### The losers on the way up -/
def LOm (ks ks' : List keyT.El) (v : Nat) : List Int := (List.range ks.length).map fun j => if j = 0 then 0 else if v ≤ j then ((pl ks' j).2 : Int) else ((pl ks j).2 : Int)
theorem LOm_len (ks ks' : List keyT.El) (v : Nat) : (LOm ks ks' v).length = ks.length := by simp [LOm]
theorem LOm_top (ks ks' : List keyT.El) {v : Nat} (h : ks.length ≤ v) : LOm ks ks' v = loseL ks := by
  apply List.ext_getElem (by simp [LOm, loseL])
  intro j h1 h2
  simp only [LOm, loseL, List.getElem_map, List.getElem_range]
  have : j < ks.length := by simpa [LOm] using h1
  rw [if_neg (by omega : ¬ v ≤ j)]
theorem LOm_one (ks ks' : List keyT.El) (hl : ks'.length = ks.length) : LOm ks ks' 1 = loseL ks' := by
  apply List.ext_getElem (by simp [LOm, loseL, hl])
  intro j h1 h2
  simp only [LOm, loseL, List.getElem_map, List.getElem_range]
  by_cases h : j = 0
  · rw [if_pos h, if_pos h]
  · rw [if_neg h, if_neg h, if_pos (by omega)]
theorem LOm_get (ks ks' : List keyT.El) {v j : Nat} (h : j < v) (hj : j < ks.length) (h1 : 1 ≤ j) : (LOm ks ks' v)[j]? = some ((pl ks j).2 : Int) := by
  have : (LOm ks ks' v)[j]? = some (if j = 0 then 0 else if v ≤ j then ((pl ks' j).2 : Int) else ((pl ks j).2 : Int)) := by
    simp [LOm, hj]
  rw [this, if_neg (by omega), if_neg (by omega)]
theorem LOm_set {ks : List keyT.El} {k : keyT.El} {w v d : Nat} (hwl : w < ks.length) (hv : (ks.length + w) / 2 ^ d = v) (h2 : 2 ≤ v) : (LOm ks (ks.set w k) v).set (v / 2) ((pl (ks.set w k) (v / 2)).2 : Int) = LOm ks (ks.set w k) (v / 2) := by
  apply List.ext_getElem (by simp [LOm])
  intro j h1 h3
  simp only [LOm, List.getElem_set, List.getElem_map, List.getElem_range]
  have hjn : j < ks.length := by simpa [LOm] using h1
  by_cases hj : v / 2 = j
  · subst hj
    rw [if_pos rfl, if_neg (by omega), if_pos (Nat.le_refl _)]
  · rw [if_neg hj]
    by_cases h0 : j = 0
    · rw [if_pos h0, if_pos h0]
    · rw [if_neg h0, if_neg h0]
      by_cases hjv : v ≤ j
      · rw [if_pos hjv, if_pos (by omega)]
      · rw [if_neg hjv]
        by_cases hju : v / 2 ≤ j
        · rw [if_pos hju, pl_off _ j (Nat.le_refl _) (by omega) (by omega) (fun e he => way_lt hv he (by omega) (by omega))]
        · rw [if_neg hju]
/-! ### How many games -/
def gmF : Nat → Nat → Nat
  | 0, _ => 0
  | f + 1, m => if m / 2 = 0 then 0 else gmF f (m / 2) + 1
def gm (m : Nat) : Nat := gmF m m
theorem gmF_st : ∀ (f f' m : Nat), m ≤ f → m ≤ f' → gmF f m = gmF f' m
  | 0, 0, _, _, _ => rfl
  | 0, f' + 1, m, h, _ => by rw [gmF, gmF, if_pos (by omega)]
  | f + 1, 0, m, _, h => by rw [gmF, gmF, if_pos (by omega)]
  | f + 1, f' + 1, m, h1, h2 => by
    rw [gmF, gmF]
    split
    · rfl
    · rw [gmF_st f f' (m / 2) (by omega) (by omega)]
theorem gm_zero {m : Nat} (h : m / 2 = 0) : gm m = 0 := by
  unfold gm
  cases m with
  | zero => rfl
  | succ m => rw [gmF, if_pos h]
theorem gm_succ {m : Nat} (h : 1 ≤ m / 2) : gm m = gm (m / 2) + 1 := by
  unfold gm
  cases m with
  | zero => simp at h
  | succ m => rw [gmF, if_neg (by omega), gmF_st m ((m + 1) / 2) ((m + 1) / 2) (by omega) (by omega)]
/-- How many games are left at a node. -/
def gmX (i : Nat) : Nat := if i = 0 then 0 else gm i + 1
theorem gmX_half (m : Nat) : gm m = gmX (m / 2) := by
  unfold gmX
  by_cases h : m / 2 = 0
  · rw [if_pos h, gm_zero h]
  · rw [if_neg h, gm_succ (by omega)]
theorem gmX_step {i : Nat} (h : 1 ≤ i) : gmX i = gmX (i / 2) + 1 := by
  rw [gmX, if_neg (by omega), gmX_half]
theorem gm_pow : ∀ (c m : Nat), m ≤ c → 1 ≤ m → 2 ^ gm m ≤ m
  | 0, m, h, h1 => by omega
  | c + 1, m, h, h1 => by
    by_cases h2 : m / 2 = 0
    · rw [gm_zero h2]; simpa using h1
    · rw [gm_succ (by omega), Nat.pow_succ]
      have := gm_pow c (m / 2) (by omega) (by omega)
      omega
end Lz
