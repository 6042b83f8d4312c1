/-
  Drop undoes Add.
-/
import Derived.Test.YtadckioheabliaaRi
namespace Go.Proofs.Ytadckioheabliaa
open Av

theorem ckGo_ok : ∀ {t : List rcT.El} {i : Int} {pv : Option Int}, (∀ x ∈ t, goodX x) → ascC t → (∀ x ∈ t, ∀ y, pv = some y → y < idC x) → ckGo pv i t = (0, 0)
  | [], _, _, _, _, _ => rfl
  | x :: t, i, pv, hg, ha, hp => by
    have hx := hg x (by simp)
    have ha' := List.pairwise_cons.1 ha
    rw [ckGo, if_neg, if_neg]
    · exact ckGo_ok (fun y hy => hg y (by simp [hy])) ha'.2 (fun y hy z e => by cases e; exact ha'.1 y hy)
    · cases pv with
      | none => exact fun e => e
      | some y => exact Int.not_le.2 (hp x (by simp) y rfl)
    · rintro (h | h | h)
      · rw [hx.1] at h; cases h
      · exact absurd h (Int.not_lt.2 hx.2.1)
      · exact absurd h (Int.not_lt.2 hx.2.2)
theorem ckL_ok {t : List rcT.El} (hl : t.length ≤ 500) (hg : ∀ x ∈ t, goodX x) (ha : ascC t) : ckL t = (0, 0) := by
  unfold ckL
  rw [if_neg (by omega)]
  exact ckGo_ok hg ha (fun x _ y e => by cases e)
/-- Tables that are in order. -/
structure OkT (t : List rcT.El) : Prop where
  ck : ckL t = (0, 0)
  ln : t.length ≤ 500
  good : ∀ x ∈ t, goodX x
  asc : ascC t
theorem okT_of {t : List rcT.El} (h : (ckL t).2 = 0) : OkT t := by
  obtain ⟨h1, h2, h3⟩ := ckL_zero h
  exact ⟨ckL_ok h1 h2 h3, h1, h2, h3⟩
theorem OkT.pos {t : List rcT.El} (h : OkT t) : posC t := good_pos h.good
theorem limE_zero {t : List rcT.El} (h : limE t = 0) : t.length ≤ 500 ∧ ∀ x ∈ t, nC x ≤ 1000000 := by
  unfold limE at h
  split at h
  · exact absurd h (by decide)
  · split at h
    · exact absurd h (by decide)
    · rename_i h1 h2
      refine ⟨by omega, mostB_iff.1 ?_⟩
      cases hc : mostB t with
      | true => rfl
      | false => exact absurd hc h2
theorem okT_bmp {t : List rcT.El} {ids : List Int} (ht : OkT t) (hk : ∀ x ∈ ids, knownI x = true) (hl : limE (bmp 1 ids t ids.length) = 0) : OkT (bmp 1 ids t ids.length) := by
  have hb := bmp_asc (δ := 1) (ids := ids) ht.asc ht.pos ids.length
  obtain ⟨h1, h2⟩ := limE_zero hl
  refine ⟨ckL_ok h1 ?_ hb.1, h1, ?_, hb.1⟩
  all_goals
    intro x hx
    refine ⟨?_, hb.2 x hx, h2 x hx⟩
    have h3 := cnt_mem hb.1 hx
    have h4 := hb.2 x hx
    rw [bmp_cnt1 ⟨ht.asc, ht.pos⟩, List.take_length] at h3
    by_cases hm : idC x ∈ ids
    · exact hk _ hm
    · rw [if_neg hm] at h3
      obtain ⟨y, hy, he⟩ := cnt_in (t := t) (n := idC x) (by omega)
      rw [← he]
      exact (ht.good y hy).1
theorem undo_tab {t : List rcT.El} {ids : List Int} (ht : OkT t) : bmp (-1) ids (bmp 1 ids t ids.length) ids.length = t := by
  have hb := bmp_asc (δ := 1) (ids := ids) ht.asc ht.pos ids.length
  have h1 : ∀ n, countC (bmp 1 ids t ids.length) n = countC t n + (if n ∈ ids then 1 else 0) := fun n => by
    rw [bmp_cnt1 ⟨ht.asc, ht.pos⟩, List.take_length]
  have h0 := fun n => cnt_nonneg ht.asc ht.pos n
  have hd : ∀ n ∈ ids, 0 ≤ countC (bmp 1 ids t ids.length) n + -1 := fun n hn => by
    rw [h1, if_pos hn]; have := h0 n; omega
  have hb2 := bmp_asc (δ := -1) (ids := ids) hb.1 hb.2 ids.length
  refine tab_ext hb2.1 ht.asc hb2.2 ht.pos (fun n => ?_)
  rw [bmp_cnt hb.1 hb.2 hd, List.take_length, h1]
  split <;> omega
theorem undo_none {t : List rcT.El} {ids : List Int} (ht : OkT t) : noneB (bmp 1 ids t ids.length) ids = false := by
  cases hc : noneB (bmp 1 ids t ids.length) ids with
  | false => rfl
  | true =>
    obtain ⟨n, hn, h⟩ := noneB_iff.1 hc
    rw [bmp_cnt1 ⟨ht.asc, ht.pos⟩, List.take_length, if_pos hn] at h
    have := cnt_nonneg ht.asc ht.pos n
    omega
theorem undo {t : List rcT.El} {ids : List Int} (ht : OkT t) (hls : lsE ids = 0) (hl : limE (bmp 1 ids t ids.length) = 0) : dropL (bmp 1 ids t ids.length) ids = (t, frdL (bmp 1 ids t ids.length) t, 0) := by
  have hu := okT_bmp ht (lsE_zero hls).2 hl
  have ha : askE (bmp 1 ids t ids.length) ids = 0 := by unfold askE; rw [hu.ck, if_pos rfl]; exact hls
  rw [drop_ok ha (undo_none ht), undo_tab ht]
theorem frd_up {t u : List rcT.El} (hu : ascC u) : (frdL u t).Pairwise (fun x y => x < y) := by
  unfold frdL
  refine List.pairwise_map.2 ?_
  exact (List.Pairwise.sublist (List.filter_sublist) hu)
theorem undo_frd {t : List rcT.El} {ids : List Int} (ht : OkT t) (n : Int) : n ∈ frdL (bmp 1 ids t ids.length) t ↔ n ∈ ids ∧ countC t n = 0 := by
  have hb := bmp_asc (δ := 1) (ids := ids) ht.asc ht.pos ids.length
  have h1 : ∀ n, countC (bmp 1 ids t ids.length) n = countC t n + (if n ∈ ids then 1 else 0) := fun n => by
    rw [bmp_cnt1 ⟨ht.asc, ht.pos⟩, List.take_length]
  unfold frdL
  rw [List.mem_map]
  constructor
  · rintro ⟨x, hx, rfl⟩
    obtain ⟨h2, h3⟩ := List.mem_filter.1 hx
    have h3 := of_decide_eq_true h3
    refine ⟨?_, h3⟩
    have h4 := cnt_mem hb.1 h2
    have h5 := hb.2 x h2
    rw [h1, h3] at h4
    by_cases hm : idC x ∈ ids
    · exact hm
    · rw [if_neg hm] at h4; omega
  · rintro ⟨h2, h3⟩
    obtain ⟨x, hx, he⟩ := cnt_in (t := bmp 1 ids t ids.length) (n := n) (by rw [h1, if_pos h2, h3]; decide)
    refine ⟨x, List.mem_filter.2 ⟨hx, decide_eq_true ?_⟩, he⟩
    rw [he]; exact h3
theorem add_cases (t : List rcT.El) (ids : List Int) : (∃ e, addL t ids = ([], e) ∧ e ≠ 0) ∨ (OkT t ∧ lsE ids = 0 ∧ limE (bmp 1 ids t ids.length) = 0 ∧ addL t ids = (bmp 1 ids t ids.length, 0)) := by
  unfold addL
  by_cases h : askE t ids = 0
  · rw [if_neg (fun e => e h)]
    obtain ⟨h1, h2⟩ := ask_zero h
    by_cases h3 : limE (bmp 1 ids t ids.length) = 0
    · rw [if_neg (fun e => e h3)]
      exact .inr ⟨okT_of h1, h2, h3, rfl⟩
    · rw [if_pos h3]
      exact .inl ⟨_, rfl, h3⟩
  · rw [if_pos h]
    exact .inl ⟨_, rfl, h⟩
set_option maxRecDepth 100000 in
theorem fnOk_lUn : FnOk Try.prog 5 Try.f5 := ⟨by rfl, by kernel_rfl, by
  show okCode _ _ = true ∧ drawsOk _ = true
  exact ⟨by kernel_rfl, by kernel_rfl⟩⟩
noncomputable abbrev lUn_C : Cx := lw_C
abbrev lUn_D := lw_D
theorem lUn_F : FnsOk Try.prog lUn_C.fns := FnsOk.nil
abbrev lUn_N : Nat := 0
abbrev lUn_T : List Ty := [.sl rcT, .sl (.int .i64)]
abbrev lUn_FN := fnOk_lUn
set_option maxRecDepth 100000 in
set_option maxHeartbeats 8000000 in
theorem lUn' (t : List rcT.El) (l : List Int) : bodyA lUn_C (callN lUn_C lUn_N) Try.f5 [.lst rcT t, .lst (.int .i64) l] [] (fun v _ => v = .bool true) := by
  cases hf : farB t.length l.length with
  | true =>
    conv => whnf
    repeat' first
      | ((first | refine idx_kn (by assumption) ?_ | refine idx_ki (by assumption) (by omega) ?_ | refine br_true (by first | with_reducible exact rfl | assumption | decide) ?_ | refine br_false (by first | with_reducible exact rfl | assumption | decide) ?_ | with_reducible first | refine br_kt (by assumption) ?_ | refine br_kf (by assumption) ?_ | refine br_nt (by assumption) ?_ | refine br_nf (by assumption) ?_ | refine br_et (by assumption) ?_ | refine br_ef (by assumption) ?_); conv => whnf)
      | ((with_reducible first | refine br_dec (fun h => ?_) (fun h => ?_) | refine br_ndec (fun h => ?_) (fun h => ?_) | refine br_ne (fun h => ?_) (fun h => ?_) | refine br_eq (fun h => ?_) (fun h => ?_)) <;> first | (exfalso; omega) | conv => whnf)
      | (refine br_intro (fun h => ?_) (fun h => ?_) <;> conv => whnf)
      | ((first | refine need_in (by first | exact trivial | assumption | exact ⟨rfl, Nat.le_refl _⟩ | exact ⟨rfl, rfl⟩ | (simp only [inR]; omega) | omega | (simp only [roomP, true_and, and_true, List.length_take, List.length_drop, List.length_append, List.length_cons, List.length_nil, List.length_set, List.length_replicate]; omega) | (refine ⟨by first | exact trivial | rfl, by first | exact Nat.le_refl _ | omega | (simp; omega), ?_⟩; change roomP _ _ 1; simp only [roomP]; omega) | (change roomP _ _ 1; simp only [roomP]; omega) | (simp; omega) | (simp [inR]; omega) | (simp [inR]; done) | decide | (simp; done)) ?_ | refine idx_nat (by omega) (fun x hx => ?_) | refine frz_auto ?_ | refine draw_plain ?_ | refine idx_intro (by first | omega | (simp; omega) | (simp; done)) (by first | omega | (simp; omega) | (simp; done)) (fun x hx => ?_)); conv => whnf)
  | false =>
    have hl := farB_len hf
    rcases add_cases t l with ⟨e, hadd, he⟩ | ⟨hok, hls, hlim, hadd⟩
    · have hq : (addL t l).2 ≠ 0 := by rw [hadd]; exact he
      have hq1 : (addL t l).1.length = 0 := by rw [hadd]; rfl
      conv => whnf
      repeat' first
        | ((first | refine idx_kn (by assumption) ?_ | refine idx_ki (by assumption) (by omega) ?_ | refine br_true (by first | with_reducible exact rfl | assumption | decide) ?_ | refine br_false (by first | with_reducible exact rfl | assumption | decide) ?_ | with_reducible first | refine br_kt (by assumption) ?_ | refine br_kf (by assumption) ?_ | refine br_nt (by assumption) ?_ | refine br_nf (by assumption) ?_ | refine br_et (by assumption) ?_ | refine br_ef (by assumption) ?_); conv => whnf)
        | ((with_reducible first | refine br_dec (fun h => ?_) (fun h => ?_) | refine br_ndec (fun h => ?_) (fun h => ?_) | refine br_ne (fun h => ?_) (fun h => ?_) | refine br_eq (fun h => ?_) (fun h => ?_)) <;> first | (exfalso; omega) | conv => whnf)
        | (refine br_intro (fun h => ?_) (fun h => ?_) <;> conv => whnf)
        | ((first | refine need_in (by first | exact trivial | assumption | exact ⟨rfl, Nat.le_refl _⟩ | exact ⟨rfl, rfl⟩ | (simp only [inR]; omega) | omega | (simp only [roomP, true_and, and_true, List.length_take, List.length_drop, List.length_append, List.length_cons, List.length_nil, List.length_set, List.length_replicate]; omega) | (refine ⟨by first | exact trivial | rfl, by first | exact Nat.le_refl _ | omega | (simp; omega), ?_⟩; change roomP _ _ 1; simp only [roomP]; omega) | (change roomP _ _ 1; simp only [roomP]; omega) | (simp; omega) | (simp [inR]; omega) | (simp [inR]; done) | decide | (simp; done)) ?_ | refine idx_nat (by omega) (fun x hx => ?_) | refine frz_auto ?_ | refine draw_plain ?_ | refine idx_intro (by first | omega | (simp; omega) | (simp; done)) (by first | omega | (simp; omega) | (simp; done)) (fun x hx => ?_)); conv => whnf)
    · have hq : (addL t l).2 = 0 := by rw [hadd]
      have hA : (addL t l).1 = bmp 1 l t l.length := by rw [hadd]
      have hud := undo hok hls hlim
      rw [← hA] at hud
      have hd1 : (dropL (addL t l).1 l).1 = t := by rw [hud]
      have hd2 : (dropL (addL t l).1 l).2.2 = 0 := by rw [hud]
      have hd3 : (dropL (addL t l).1 l).2.1 = frdL (bmp 1 l t l.length) t := by rw [hud]; exact congrArg (fun u => frdL u t) hA
      have hs : sameL rcT (dropL (addL t l).1 l).1 t = true := by rw [hd1]; exact sameC_refl t
      have hs' : (!sameL rcT (dropL (addL t l).1 l).1 t) = false := by rw [hs]; rfl
      have hal := add_len t l
      have hdl := drop_len (addL t l).1 l
      have hfi := undo_frd (ids := l) hok
      have hup := frd_up (t := t) (bmp_asc (δ := 1) (ids := l) hok.asc hok.pos l.length).1
      rw [← hd3] at hfi hup
      clear hud hd3
      conv => whnf
      repeat' first
        | ((first | refine idx_kn (by assumption) ?_ | refine idx_ki (by assumption) (by omega) ?_ | refine br_true (by first | with_reducible exact rfl | assumption | decide) ?_ | refine br_false (by first | with_reducible exact rfl | assumption | decide) ?_ | with_reducible first | refine br_kt (by assumption) ?_ | refine br_kf (by assumption) ?_ | refine br_nt (by assumption) ?_ | refine br_nf (by assumption) ?_ | refine br_et (by assumption) ?_ | refine br_ef (by assumption) ?_); conv => whnf)
        | ((with_reducible first | refine br_dec (fun h => ?_) (fun h => ?_) | refine br_ndec (fun h => ?_) (fun h => ?_) | refine br_ne (fun h => ?_) (fun h => ?_) | refine br_eq (fun h => ?_) (fun h => ?_)) <;> first | (exfalso; omega) | conv => whnf)
        | (refine br_intro (fun h => ?_) (fun h => ?_) <;> conv => whnf)
        | ((first | refine need_in (by first | exact trivial | assumption | exact ⟨rfl, Nat.le_refl _⟩ | exact ⟨rfl, rfl⟩ | (simp only [inR]; omega) | omega | (simp only [roomP, true_and, and_true, List.length_take, List.length_drop, List.length_append, List.length_cons, List.length_nil, List.length_set, List.length_replicate]; omega) | (refine ⟨by first | exact trivial | rfl, by first | exact Nat.le_refl _ | omega | (simp; omega), ?_⟩; change roomP _ _ 1; simp only [roomP]; omega) | (change roomP _ _ 1; simp only [roomP]; omega) | (simp; omega) | (simp [inR]; omega) | (simp [inR]; done) | decide | (simp; done)) ?_ | refine idx_nat (by omega) (fun x hx => ?_) | refine frz_auto ?_ | refine draw_plain ?_ | refine idx_intro (by first | omega | (simp; omega) | (simp; done)) (by first | omega | (simp; omega) | (simp; done)) (fun x hx => ?_)); conv => whnf)
      refine loop_inv [] [10] (fun vs h => ∃ i : Nat, vs = [.int .i64 (i : Int)] ∧ h = [] ∧ i ≤ l.length) (fun vs _ => match vs with | [.int _ k] => l.length - k.toNat | _ => 0) ?_
      refine ⟨⟨0, rfl, rfl, Nat.zero_le _⟩, ?_⟩
      rintro vs h' - ⟨i, rfl, rfl, hi⟩
      by_cases hil : i < l.length
      · obtain ⟨x, hx⟩ : ∃ x : Int, (l : List Int)[i]? = some x := ⟨_, List.getElem?_eq_getElem hil⟩
        have hxl := List.mem_of_getElem? hx
        have hcr : cntR t x = (countC t x, 0) := by
          unfold cntR
          rw [hok.ck, if_neg (fun e => e rfl), if_neg (by rw [(lsE_zero hls).2 x hxl]; decide)]
        have hc2 : (cntR t x).2 = 0 := by rw [hcr]
        have hc1 : ((cntR t x).1 == 0) = inI (dropL (addL t l).1 l).2.1 x := by
          rw [hcr]
          show (countC t x == 0) = _
          rw [Bool.eq_iff_iff, beq_iff_eq, inI_iff, hfi]
          exact ⟨fun h => ⟨hxl, h⟩, fun h => h.2⟩
        have hc3 : (((cntR t x).1 == 0) != inI (dropL (addL t l).1 l).2.1 x) = false := by rw [hc1]; simp
        conv => whnf
        repeat' first
          | ((first | refine idx_kn (by assumption) ?_ | refine idx_ki (by assumption) (by omega) ?_ | refine br_true (by first | with_reducible exact rfl | assumption | decide) ?_ | refine br_false (by first | with_reducible exact rfl | assumption | decide) ?_ | with_reducible first | refine br_kt (by assumption) ?_ | refine br_kf (by assumption) ?_ | refine br_nt (by assumption) ?_ | refine br_nf (by assumption) ?_ | refine br_et (by assumption) ?_ | refine br_ef (by assumption) ?_); conv => whnf)
          | ((with_reducible first | refine br_dec (fun h => ?_) (fun h => ?_) | refine br_ndec (fun h => ?_) (fun h => ?_) | refine br_ne (fun h => ?_) (fun h => ?_) | refine br_eq (fun h => ?_) (fun h => ?_)) <;> first | (exfalso; omega) | conv => whnf)
          | (refine br_intro (fun h => ?_) (fun h => ?_) <;> conv => whnf)
          | ((first | refine need_in (by first | exact trivial | assumption | exact ⟨rfl, Nat.le_refl _⟩ | exact ⟨rfl, rfl⟩ | (simp only [inR]; omega) | omega | (simp only [roomP, true_and, and_true, List.length_take, List.length_drop, List.length_append, List.length_cons, List.length_nil, List.length_set, List.length_replicate]; omega) | (refine ⟨by first | exact trivial | rfl, by first | exact Nat.le_refl _ | omega | (simp; omega), ?_⟩; change roomP _ _ 1; simp only [roomP]; omega) | (change roomP _ _ 1; simp only [roomP]; omega) | (simp; omega) | (simp [inR]; omega) | (simp [inR]; done) | decide | (simp; done)) ?_ | refine idx_nat (by omega) (fun x hx => ?_) | refine frz_auto ?_ | refine draw_plain ?_ | refine idx_intro (by first | omega | (simp; omega) | (simp; done)) (by first | omega | (simp; omega) | (simp; done)) (fun x hx => ?_)); conv => whnf)
        refine back_intro (by conv => whnf) rfl ⟨i + 1, rfl, rfl, by omega⟩ ?_
        show l.length - ((i : Int) + 1).toNat < l.length - (i : Int).toNat
        omega
      · conv => whnf
        repeat' first
          | ((first | refine idx_kn (by assumption) ?_ | refine idx_ki (by assumption) (by omega) ?_ | refine br_true (by first | with_reducible exact rfl | assumption | decide) ?_ | refine br_false (by first | with_reducible exact rfl | assumption | decide) ?_ | with_reducible first | refine br_kt (by assumption) ?_ | refine br_kf (by assumption) ?_ | refine br_nt (by assumption) ?_ | refine br_nf (by assumption) ?_ | refine br_et (by assumption) ?_ | refine br_ef (by assumption) ?_); conv => whnf)
          | ((with_reducible first | refine br_dec (fun h => ?_) (fun h => ?_) | refine br_ndec (fun h => ?_) (fun h => ?_) | refine br_ne (fun h => ?_) (fun h => ?_) | refine br_eq (fun h => ?_) (fun h => ?_)) <;> first | (exfalso; omega) | conv => whnf)
          | (refine br_intro (fun h => ?_) (fun h => ?_) <;> conv => whnf)
          | ((first | refine need_in (by first | exact trivial | assumption | exact ⟨rfl, Nat.le_refl _⟩ | exact ⟨rfl, rfl⟩ | (simp only [inR]; omega) | omega | (simp only [roomP, true_and, and_true, List.length_take, List.length_drop, List.length_append, List.length_cons, List.length_nil, List.length_set, List.length_replicate]; omega) | (refine ⟨by first | exact trivial | rfl, by first | exact Nat.le_refl _ | omega | (simp; omega), ?_⟩; change roomP _ _ 1; simp only [roomP]; omega) | (change roomP _ _ 1; simp only [roomP]; omega) | (simp; omega) | (simp [inR]; omega) | (simp [inR]; done) | decide | (simp; done)) ?_ | refine idx_nat (by omega) (fun x hx => ?_) | refine frz_auto ?_ | refine draw_plain ?_ | refine idx_intro (by first | omega | (simp; omega) | (simp; done)) (by first | omega | (simp; omega) | (simp; done)) (fun x hx => ?_)); conv => whnf)
        refine loop_inv [] [13] (fun vs h => ∃ i : Nat, vs = [.int .i64 (i : Int)] ∧ h = [] ∧ i ≤ (dropL (addL t l).1 l).2.1.length) (fun vs _ => match vs with | [.int _ k] => (dropL (addL t l).1 l).2.1.length - k.toNat | _ => 0) ?_
        refine ⟨⟨0, rfl, rfl, Nat.zero_le _⟩, ?_⟩
        rintro vs h' - ⟨k, rfl, rfl, hk⟩
        by_cases hkl : k < (dropL (addL t l).1 l).2.1.length
        · obtain ⟨x, hx⟩ : ∃ x : Int, ((dropL (addL t l).1 l).2.1 : List Int)[k]? = some x := ⟨_, List.getElem?_eq_getElem hkl⟩
          have hxl : inI l x = true := inI_iff.2 ((hfi x).1 (List.mem_of_getElem? hx)).1
          have hxl' : (!inI l x) = false := by rw [hxl]; rfl
          cases k with
          | zero =>
            conv => whnf
            repeat' first
              | ((first | refine idx_kn (by assumption) ?_ | refine idx_ki (by assumption) (by omega) ?_ | refine br_true (by first | with_reducible exact rfl | assumption | decide) ?_ | refine br_false (by first | with_reducible exact rfl | assumption | decide) ?_ | with_reducible first | refine br_kt (by assumption) ?_ | refine br_kf (by assumption) ?_ | refine br_nt (by assumption) ?_ | refine br_nf (by assumption) ?_ | refine br_et (by assumption) ?_ | refine br_ef (by assumption) ?_); conv => whnf)
              | ((with_reducible first | refine br_dec (fun h => ?_) (fun h => ?_) | refine br_ndec (fun h => ?_) (fun h => ?_) | refine br_ne (fun h => ?_) (fun h => ?_) | refine br_eq (fun h => ?_) (fun h => ?_)) <;> first | (exfalso; omega) | conv => whnf)
              | (refine br_intro (fun h => ?_) (fun h => ?_) <;> conv => whnf)
              | ((first | refine need_in (by first | exact trivial | assumption | exact ⟨rfl, Nat.le_refl _⟩ | exact ⟨rfl, rfl⟩ | (simp only [inR]; omega) | omega | (simp only [roomP, true_and, and_true, List.length_take, List.length_drop, List.length_append, List.length_cons, List.length_nil, List.length_set, List.length_replicate]; omega) | (refine ⟨by first | exact trivial | rfl, by first | exact Nat.le_refl _ | omega | (simp; omega), ?_⟩; change roomP _ _ 1; simp only [roomP]; omega) | (change roomP _ _ 1; simp only [roomP]; omega) | (simp; omega) | (simp [inR]; omega) | (simp [inR]; done) | decide | (simp; done)) ?_ | refine idx_nat (by omega) (fun x hx => ?_) | refine frz_auto ?_ | refine draw_plain ?_ | refine idx_intro (by first | omega | (simp; omega) | (simp; done)) (by first | omega | (simp; omega) | (simp; done)) (fun x hx => ?_)); conv => whnf)
            refine back_intro (by conv => whnf) rfl ⟨1, rfl, rfl, by omega⟩ ?_
            show (dropL (addL t l).1 l).2.1.length - ((0 : Int) + 1).toNat < (dropL (addL t l).1 l).2.1.length - (0 : Int).toNat
            omega
          | succ j =>
            obtain ⟨y, hy⟩ : ∃ y : Int, ((dropL (addL t l).1 l).2.1 : List Int)[j]? = some y := ⟨_, List.getElem?_eq_getElem (by omega)⟩
            have hy' : ((dropL (addL t l).1 l).2.1 : List Int)[(((j + 1 : Nat) : Int) - 1).toNat]? = some y := by rw [show (((j + 1 : Nat) : Int) - 1).toNat = j by omega]; exact hy
            have hyx : y < x := by
              have h3 := List.pairwise_iff_getElem.1 hup j (j + 1) (by omega) hkl (by omega)
              rw [(List.getElem?_eq_some_iff.1 hy).2, (List.getElem?_eq_some_iff.1 hx).2] at h3
              exact h3
            have hxy : ¬ x ≤ y := Int.not_le.2 hyx
            conv => whnf
            repeat' first
              | ((first | refine idx_kn (by assumption) ?_ | refine idx_ki (by assumption) (by omega) ?_ | refine br_true (by first | with_reducible exact rfl | assumption | decide) ?_ | refine br_false (by first | with_reducible exact rfl | assumption | decide) ?_ | with_reducible first | refine br_kt (by assumption) ?_ | refine br_kf (by assumption) ?_ | refine br_nt (by assumption) ?_ | refine br_nf (by assumption) ?_ | refine br_et (by assumption) ?_ | refine br_ef (by assumption) ?_); conv => whnf)
              | ((with_reducible first | refine br_dec (fun h => ?_) (fun h => ?_) | refine br_ndec (fun h => ?_) (fun h => ?_) | refine br_ne (fun h => ?_) (fun h => ?_) | refine br_eq (fun h => ?_) (fun h => ?_)) <;> first | (exfalso; omega) | conv => whnf)
              | (refine br_intro (fun h => ?_) (fun h => ?_) <;> conv => whnf)
              | ((first | refine need_in (by first | exact trivial | assumption | exact ⟨rfl, Nat.le_refl _⟩ | exact ⟨rfl, rfl⟩ | (simp only [inR]; omega) | omega | (simp only [roomP, true_and, and_true, List.length_take, List.length_drop, List.length_append, List.length_cons, List.length_nil, List.length_set, List.length_replicate]; omega) | (refine ⟨by first | exact trivial | rfl, by first | exact Nat.le_refl _ | omega | (simp; omega), ?_⟩; change roomP _ _ 1; simp only [roomP]; omega) | (change roomP _ _ 1; simp only [roomP]; omega) | (simp; omega) | (simp [inR]; omega) | (simp [inR]; done) | decide | (simp; done)) ?_ | refine idx_nat (by omega) (fun x hx => ?_) | refine frz_auto ?_ | refine draw_plain ?_ | refine idx_intro (by first | omega | (simp; omega) | (simp; done)) (by first | omega | (simp; omega) | (simp; done)) (fun x hx => ?_)); conv => whnf)
            refine back_intro (by conv => whnf) rfl ⟨j + 2, rfl, rfl, by omega⟩ ?_
            show (dropL (addL t l).1 l).2.1.length - (((j + 1 : Nat) : Int) + 1).toNat < (dropL (addL t l).1 l).2.1.length - ((j + 1 : Nat) : Int).toNat
            omega
        · conv => whnf
          repeat' first
            | ((first | refine idx_kn (by assumption) ?_ | refine idx_ki (by assumption) (by omega) ?_ | refine br_true (by first | with_reducible exact rfl | assumption | decide) ?_ | refine br_false (by first | with_reducible exact rfl | assumption | decide) ?_ | with_reducible first | refine br_kt (by assumption) ?_ | refine br_kf (by assumption) ?_ | refine br_nt (by assumption) ?_ | refine br_nf (by assumption) ?_ | refine br_et (by assumption) ?_ | refine br_ef (by assumption) ?_); conv => whnf)
            | ((with_reducible first | refine br_dec (fun h => ?_) (fun h => ?_) | refine br_ndec (fun h => ?_) (fun h => ?_) | refine br_ne (fun h => ?_) (fun h => ?_) | refine br_eq (fun h => ?_) (fun h => ?_)) <;> first | (exfalso; omega) | conv => whnf)
            | (refine br_intro (fun h => ?_) (fun h => ?_) <;> conv => whnf)
            | ((first | refine need_in (by first | exact trivial | assumption | exact ⟨rfl, Nat.le_refl _⟩ | exact ⟨rfl, rfl⟩ | (simp only [inR]; omega) | omega | (simp only [roomP, true_and, and_true, List.length_take, List.length_drop, List.length_append, List.length_cons, List.length_nil, List.length_set, List.length_replicate]; omega) | (refine ⟨by first | exact trivial | rfl, by first | exact Nat.le_refl _ | omega | (simp; omega), ?_⟩; change roomP _ _ 1; simp only [roomP]; omega) | (change roomP _ _ 1; simp only [roomP]; omega) | (simp; omega) | (simp [inR]; omega) | (simp [inR]; done) | decide | (simp; done)) ?_ | refine idx_nat (by omega) (fun x hx => ?_) | refine frz_auto ?_ | refine draw_plain ?_ | refine idx_intro (by first | omega | (simp; omega) | (simp; done)) (by first | omega | (simp; omega) | (simp; done)) (fun x hx => ?_)); conv => whnf)
theorem lUn : ∀ es : Ty.Els lUn_T, tyOks lUn_T es → bodyA lUn_C (callN lUn_C lUn_N) Try.f5 (avTs lUn_T es) [] (fun v _ => v = .bool true) := by
  rintro ⟨t, l, _⟩ _
  exact lUn' t l
end Go.Proofs.Ytadckioheabliaa
