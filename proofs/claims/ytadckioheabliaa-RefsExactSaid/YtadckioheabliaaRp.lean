/-
  The table of those that are there: plain laws.
-/
import Derived.Test.YtadckioheabliaaRo
namespace Go.Proofs.Ytadckioheabliaa
open Av

/-- The lists of the referrers that are there. -/
def nowL (l : List (List Int)) (th : List Int) : List (List Int) := th.map fun k => l.getD k.toNat []
/-- They are places of the list. -/
def InR (l : List (List Int)) (th : List Int) : Prop := ∀ k ∈ th, 0 ≤ k ∧ k < l.length
theorem nowL_mem {l : List (List Int)} {th : List Int} (h : InR l th) {ids : List Int} (hm : ids ∈ nowL l th) : ids ∈ l := by
  obtain ⟨k, hk, rfl⟩ := List.mem_map.1 hm
  have h1 := h k hk
  have h2 : k.toNat < l.length := by omega
  rw [List.getD_eq_getElem?_getD, List.getElem?_eq_getElem h2]
  exact List.getElem_mem h2
theorem nowL_append (l : List (List Int)) (a b : List Int) : nowL l (a ++ b) = nowL l a ++ nowL l b := List.map_append
theorem nowL_len (l : List (List Int)) (a : List Int) : (nowL l a).length = a.length := List.length_map _
theorem nowL_snoc {l : List (List Int)} {th : List Int} {j : Nat} {k : Int} {ids : List Int} (h : th[j]? = some k) (hk : l[k.toNat]? = some ids) : nowL l (th.take (j + 1)) = nowL l (th.take j) ++ [ids] := by
  rw [List.take_add_one, h, nowL_append]
  unfold nowL
  simp [List.getD_eq_getElem?_getD, hk]
theorem inR_add {l : List (List Int)} {th : List Int} (h : InR l th) {k : Int} (h0 : 0 ≤ k) (h1 : k < l.length) : InR l (th ++ [k]) := by
  intro x hx
  rcases List.mem_append.1 hx with hx | hx
  · exact h x hx
  · have : x = k := by simpa using hx
    rw [this]; exact ⟨h0, h1⟩
theorem inR_del {l : List (List Int)} {th : List Int} (h : InR l th) (j : Nat) : InR l (th.take j ++ th.drop (j + 1)) := by
  intro x hx
  rcases List.mem_append.1 hx with hx | hx
  · exact h x (List.mem_of_mem_take hx)
  · exact h x (List.mem_of_mem_drop hx)
theorem sup_len2 {a b : List rcT.El} (ha : ascC a ∧ posC a) (hb : ascC b ∧ posC b) (h : ∀ n, countC a n ≠ 0 → countC b n ≠ 0) : a.length ≤ b.length := by
  have h1 := nodup_len_le (asc_nd ha.1) (b := b.map idC) (fun n hn => by
    obtain ⟨x, hx, rfl⟩ := List.mem_map.1 hn
    have h2 := cnt_mem ha.1 hx
    have h3 := ha.2 x hx
    obtain ⟨y, hy, he⟩ := cnt_in (t := b) (n := idC x) (h _ (by omega))
    exact List.mem_map.2 ⟨y, hy, he⟩)
  rw [List.length_map, List.length_map] at h1
  exact h1
/-- What is known of the lists. -/
structure GoodR (l : List (List Int)) : Prop where
  err : ofErr l = 0
  len : (ofT [] l).length ≤ 500
theorem goodR_of {l : List (List Int)} (h : (ofL l).2 = 0) (hl : l.length ≤ 1000) : GoodR l := by
  rcases of_cases hl with ⟨_, e, h1, h2⟩ | ⟨h1, h2, _⟩
  · rw [h1] at h; exact absurd h h2
  · exact ⟨h1, h2⟩
theorem now_err {l : List (List Int)} (hg : GoodR l) {th : List Int} (h : InR l th) : ofErr (nowL l th) = 0 :=
  ofErr_zero.2 (fun ids hi => ofErr_zero.1 hg.err ids (nowL_mem h hi))
theorem now_len {l : List (List Int)} (hg : GoodR l) {th : List Int} (h : InR l th) : (ofT [] (nowL l th)).length ≤ 500 := by
  refine Nat.le_trans (sup_len2 (ofT0 _) (ofT0 l) (fun n hn => ?_)) hg.len
  rw [ofT_cnt0] at hn ⊢
  have h1 : 0 < (nowL l th).countP (fun ids => inI ids n) := by omega
  rw [List.countP_pos_iff] at h1
  obtain ⟨ids, hi, hin⟩ := h1
  have h2 : 0 < l.countP (fun ids => inI ids n) := List.countP_pos_iff.2 ⟨ids, nowL_mem h hi, hin⟩
  omega
theorem now_of {l : List (List Int)} (hg : GoodR l) {th : List Int} (h : InR l th) (hl : th.length ≤ 1000) : ofL (nowL l th) = (ofT [] (nowL l th), 0) := by
  unfold ofL
  rw [if_neg (by rw [nowL_len]; omega), if_neg (fun e => e (now_err hg h)), if_neg (by have := now_len hg h; omega)]
theorem now_ok {l : List (List Int)} (hg : GoodR l) {th : List Int} (h : InR l th) (hl : th.length ≤ 1000) : OkT (ofT [] (nowL l th)) :=
  okT_of0 (now_err hg h) (by rw [nowL_len]; exact hl) (now_len hg h)
theorem getD_mem {l : List (List Int)} {k : Int} {ids : List Int} (hk : l[k.toNat]? = some ids) : ids ∈ l := List.mem_of_getElem? hk
theorem now_add {l : List (List Int)} (hg : GoodR l) {th : List Int} (h : InR l th) (hl : th.length ≤ 999) {k : Int} {ids : List Int} (h0 : 0 ≤ k) (h1 : k < l.length) (hk : l[k.toNat]? = some ids) : addL (ofT [] (nowL l th)) ids = (ofT [] (nowL l (th ++ [k])), 0) := by
  have hb : bmp 1 ids (ofT [] (nowL l th)) ids.length = ofT [] (nowL l (th ++ [k])) := by
    have e : nowL l [k] = [ids] := by unfold nowL; simp [List.getD_eq_getElem?_getD, hk]
    rw [nowL_append, ofT_append, e]; rfl
  have hr := inR_add h h0 h1
  have ho := now_ok hg hr (by rw [List.length_append]; exact Nat.succ_le_of_lt (by omega))
  have ha : askE (ofT [] (nowL l th)) ids = 0 := by
    unfold askE
    rw [(now_ok hg h (by omega)).ck, if_pos rfl]
    exact ofErr_zero.1 hg.err ids (getD_mem hk)
  unfold addL
  rw [if_neg (fun e => e ha), hb, if_neg]
  intro e
  refine e (limE_ok (by have := ho.ln; omega) ?_)
  rw [mostB_iff.2 (fun x hx => (ho.good x hx).2.2)]
  decide
theorem now_del {l : List (List Int)} (hg : GoodR l) {th : List Int} (h : InR l th) (hl : th.length ≤ 1000) {j : Nat} {k : Int} {ids : List Int} (hj : th[j]? = some k) (hk : l[k.toNat]? = some ids) :
    dropL (ofT [] (nowL l th)) ids = (ofT [] (nowL l (th.take j ++ th.drop (j + 1))), (dropL (ofT [] (nowL l th)) ids).2.1, 0) ∧ ∀ n ∈ (dropL (ofT [] (nowL l th)) ids).2.1, inI ids n = true := by
  have ho := now_ok hg h hl
  have ha : askE (ofT [] (nowL l th)) ids = 0 := by
    unfold askE
    rw [ho.ck, if_pos rfl]
    exact ofErr_zero.1 hg.err ids (getD_mem hk)
  have hsp : nowL l th = nowL l (th.take j) ++ ids :: nowL l (th.drop (j + 1)) := by
    conv => lhs; rw [← List.take_append_drop (j + 1) th, nowL_append, nowL_snoc hj hk]
    rw [List.append_assoc]; rfl
  have hc : ∀ n, countC (ofT [] (nowL l th)) n = countC (ofT [] (nowL l (th.take j ++ th.drop (j + 1)))) n + (if n ∈ ids then 1 else 0) := by
    intro n
    rw [ofT_cnt0, ofT_cnt0, hsp, nowL_append, List.countP_append, List.countP_append, List.countP_cons]
    by_cases hn : n ∈ ids
    · rw [if_pos hn, if_pos (inI_iff.2 hn)]; omega
    · rw [if_neg hn, if_neg (fun e => hn (inI_iff.1 e))]; omega
  have h0 : ∀ n, 0 ≤ countC (ofT [] (nowL l (th.take j ++ th.drop (j + 1)))) n := fun n => cnt_nonneg (ofT0 _).1 (ofT0 _).2 n
  have hd : ∀ n ∈ ids, 0 ≤ countC (ofT [] (nowL l th)) n + -1 := fun n hn => by rw [hc, if_pos hn]; have := h0 n; omega
  have hnone : noneB (ofT [] (nowL l th)) ids = false := by
    cases hq : noneB (ofT [] (nowL l th)) ids with
    | false => rfl
    | true =>
      obtain ⟨n, hn, h2⟩ := noneB_iff.1 hq
      have := hd n hn
      omega
  have hb2 := bmp_asc (δ := -1) (ids := ids) ho.asc ho.pos ids.length
  have hb : bmp (-1) ids (ofT [] (nowL l th)) ids.length = ofT [] (nowL l (th.take j ++ th.drop (j + 1))) := by
    refine tab_ext hb2.1 (ofT0 _).1 hb2.2 (ofT0 _).2 (fun n => ?_)
    rw [bmp_cnt ho.asc ho.pos hd, List.take_length, hc]
    split <;> omega
  rw [drop_ok ha hnone, hb]
  refine ⟨rfl, fun n hn => ?_⟩
  simp only at hn
  unfold frdL at hn
  obtain ⟨x, hx, rfl⟩ := List.mem_map.1 hn
  obtain ⟨h2, h3⟩ := List.mem_filter.1 hx
  have h3 := of_decide_eq_true h3
  have h4 := cnt_mem ho.asc h2
  have h5 := ho.pos x h2
  rw [hc, h3] at h4
  by_cases hm : idC x ∈ ids
  · exact inI_iff.2 hm
  · rw [if_neg hm] at h4; omega
theorem now_held {l : List (List Int)} (hg : GoodR l) {th : List Int} (h : InR l th) (hl : th.length ≤ 1000) : heldR (ofT [] (nowL l th)) = ((heldR (ofT [] (nowL l th))).1, 0) ∧ ∀ n, n ∈ (heldR (ofT [] (nowL l th))).1 ↔ ∃ ids ∈ nowL l th, inI ids n = true := by
  have ho := now_ok hg h hl
  have e : heldR (ofT [] (nowL l th)) = ((ofT [] (nowL l th)).map idC, 0) := by
    unfold heldR
    rw [ho.ck, if_neg (fun e => e rfl)]
  rw [e]
  refine ⟨rfl, fun n => ?_⟩
  rw [List.mem_map]
  constructor
  · rintro ⟨x, hx, rfl⟩
    have h1 := cnt_mem ho.asc hx
    have h2 := ho.pos x hx
    rw [ofT_cnt0] at h1
    have h3 : 0 < (nowL l th).countP (fun ids => inI ids (idC x)) := by omega
    exact List.countP_pos_iff.1 h3
  · rintro ⟨ids, hi, hin⟩
    have h3 : 0 < (nowL l th).countP (fun ids => inI ids n) := List.countP_pos_iff.2 ⟨ids, hi, hin⟩
    have h4 := ofT_cnt0 (nowL l th) n
    obtain ⟨x, hx, he⟩ := cnt_in (t := ofT [] (nowL l th)) (n := n) (by omega)
    exact ⟨x, hx, he⟩
end Go.Proofs.Ytadckioheabliaa
