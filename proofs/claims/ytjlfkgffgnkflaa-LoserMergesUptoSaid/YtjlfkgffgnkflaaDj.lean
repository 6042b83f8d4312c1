/-
  The law of the least and of the order.
-/
import Derived.Test.YtjlfkgffgnkflaaDh
namespace Lz
open Av
theorem way_one : ∀ (c m : Nat), m ≤ c → 1 ≤ m → ∃ d, m / 2 ^ d = 1
  | 0, m, h, h1 => by omega
  | c + 1, m, h, h1 => by
    by_cases h2 : m = 1
    · exact ⟨0, by simp [h2]⟩
    · obtain ⟨d, hd⟩ := way_one c (m / 2) (by omega) (by omega)
      refine ⟨d + 1, ?_⟩
      rw [Nat.pow_succ, Nat.mul_comm, ← Nat.div_div_eq_div_mul]
      exact hd
theorem pl_best {ks : List keyT.El} : ∀ (c v : Nat), ks.length - v ≤ c → 1 ≤ v → v < 2 * ks.length → ∀ p d, p < ks.length → (ks.length + p) / 2 ^ d = v → p = (pl ks v).1 ∨ winB ks (pl ks v).1 p = true := by
  have leaf : ∀ v, ks.length ≤ v → ∀ p d, p < ks.length → (ks.length + p) / 2 ^ d = v → p = (pl ks v).1 := by
    intro v hv p d hp hd
    rw [pl_leaf hv]
    cases d with
    | zero =>
      rw [Nat.pow_zero, Nat.div_one] at hd
      show p = v - ks.length
      omega
    | succ d =>
      exfalso
      rw [Nat.pow_succ, Nat.mul_comm, ← Nat.div_div_eq_div_mul] at hd
      have : (ks.length + p) / 2 / 2 ^ d ≤ (ks.length + p) / 2 := Nat.div_le_self _ _
      omega
  intro c
  induction c with
  | zero => intro v h0 h1 h2 p d hp hd; exact .inl (leaf v (by omega) p d hp hd)
  | succ c ih =>
    intro v h0 h1 h2 p d hp hd
    by_cases hv : ks.length ≤ v
    · exact .inl (leaf v hv p d hp hd)
    · obtain ⟨d', rfl⟩ : ∃ d', d = d' + 1 := by
        cases d with
        | zero =>
          rw [Nat.pow_zero, Nat.div_one] at hd
          omega
        | succ d' => exact ⟨d', rfl⟩
      have hu : (ks.length + p) / 2 ^ d' / 2 = v := by
        rw [Nat.div_div_eq_div_mul, ← Nat.pow_succ]
        exact hd
      generalize hue : (ks.length + p) / 2 ^ d' = u at hu
      have hr := ih u (by omega) (by omega) (by omega) p d' hp hue
      obtain ⟨da, hda⟩ := pl_desc (ks := ks) _ (2 * v) (Nat.le_refl _) (by omega) (by omega)
      obtain ⟨db, hdb⟩ := pl_desc (ks := ks) _ (2 * v + 1) (Nat.le_refl _) (by omega) (by omega)
      have hal := pl_lt1 (ks := ks) (node := 2 * v) (by omega) (by omega)
      have hbl := pl_lt1 (ks := ks) (node := 2 * v + 1) (by omega) (by omega)
      have hne : (pl ks (2 * v)).1 ≠ (pl ks (2 * v + 1)).1 := by
        intro e
        rw [e] at hda
        have := way_sib hda hdb (by omega) (by omega)
        omega
      rw [pl_node h1 (by omega), game]
      by_cases hw : winB ks (pl ks (2 * v)).1 (pl ks (2 * v + 1)).1 = true
      · rw [if_pos hw]
        show p = (pl ks (2 * v)).1 ∨ winB ks (pl ks (2 * v)).1 p = true
        rcases (show u = 2 * v ∨ u = 2 * v + 1 by omega) with e | e
        · rw [e] at hr; exact hr
        · rw [e] at hr
          rcases hr with hr | hr
          · rw [hr]; exact .inr hw
          · exact .inr (winB_trans hw hr)
      · have hw2 : winB ks (pl ks (2 * v + 1)).1 (pl ks (2 * v)).1 = true := by
          rw [winB_anti hbl hal (Ne.symm hne)]
          simpa using hw
        rw [if_neg hw]
        show p = (pl ks (2 * v + 1)).1 ∨ winB ks (pl ks (2 * v + 1)).1 p = true
        rcases (show u = 2 * v ∨ u = 2 * v + 1 by omega) with e | e
        · rw [e] at hr
          rcases hr with hr | hr
          · rw [hr]; exact .inr hw2
          · exact .inr (winB_trans hw2 hr)
        · rw [e] at hr; exact hr
theorem win_best {ks : List keyT.El} {p : Nat} (hp : p < ks.length) : p = (pl ks 1).1 ∨ winB ks (pl ks 1).1 p = true := by
  obtain ⟨d, hd⟩ := way_one _ (ks.length + p) (Nat.le_refl _) (by omega)
  exact pl_best _ 1 (Nat.le_refl _) (Nat.le_refl _) (by omega) p d hp hd
theorem ord_win {ks : List keyT.El} (h1 : 1 ≤ ks.length) : ordN ks 0 = (pl ks 1).1 := by
  have hw := pl_lt1 (ks := ks) (node := 1) (Nat.le_refl _) (by omega)
  have h0 : plc ks (pl ks 1).1 = 0 := by
    unfold plc pcT
    rw [List.length_eq_zero_iff, List.filter_eq_nil_iff]
    intro q hq hb
    rcases win_best (List.mem_range.1 hq) with e | e
    · rw [e, winB_irr] at hb; cases hb
    · have := winB_trans e hb
      rw [winB_irr] at this
      cases this
  rw [← h0]
  exact ord_plc hw
theorem ord_next {ks : List keyT.El} {i j : Nat} (h : i < j) (hj : j < ks.length) : winB ks (ordN ks i) (ordN ks j) = true := by
  obtain ⟨s, hs⟩ := Sd.ex ks
  have hl := hs.len
  rw [hs.ord (show i < s.length by omega), hs.ord (show j < s.length by omega)]
  exact List.pairwise_iff_getElem.1 hs.win i j _ _ h
def MTb (ks : List keyT.El) (i : Nat) : List Bool := (List.range ks.length).map fun j => decide (plc ks j < i)
theorem MTb_len (ks : List keyT.El) (i : Nat) : (MTb ks i).length = ks.length := by simp [MTb]
theorem MTb_zero (ks : List keyT.El) : MTb ks 0 = List.replicate ks.length false := by
  apply List.ext_getElem (by simp [MTb])
  intro j h1 h2
  simp [MTb]
theorem MTb_get (ks : List keyT.El) {i : Nat} (hi : i < ks.length) : (MTb ks i)[ordN ks i]? = some false := by
  have h := ordN_lt hi
  simp [MTb, h, plc_ord hi]
theorem MTb_set (ks : List keyT.El) {i : Nat} (hi : i < ks.length) : (MTb ks i).set (ordN ks i) true = MTb ks (i + 1) := by
  apply List.ext_getElem (by simp [MTb])
  intro j h1 h2
  have hj : j < ks.length := by simpa [MTb] using h1
  simp only [MTb, List.getElem_set, List.getElem_map, List.getElem_range]
  by_cases hp : ordN ks i = j
  · rw [if_pos hp, ← hp, plc_ord hi]
    simp
  · rw [if_neg hp]
    have hne : plc ks j ≠ i := by
      intro e
      exact hp (by rw [← e, ord_plc hj])
    have : (plc ks j < i) ↔ (plc ks j < i + 1) := by omega
    simp only [this]
theorem ordL_get (ks : List keyT.El) {i : Nat} (hi : i < ks.length) : (ordL ks)[i]? = some ((ordN ks i : Nat) : Int) := by
  simp [ordL, hi]
end Lz
namespace Go.Proofs.Ytjlfkgffgnkflaa
open Av Lz

theorem fnOk_beats_ : FnOk Try.prog 23 Try.f23 := ⟨by rfl, by kernel_rfl, by
  show okCode _ _ = true ∧ drawsOk _ = true
  exact ⟨by kernel_rfl, by kernel_rfl⟩⟩
set_option maxRecDepth 100000 in
set_option maxHeartbeats 2000000 in
theorem beats_ok : SpecOk Try.prog 23 spWins := by
  refine spec_body (C := cx0) mixed tbOk SpecsOk.nil (callN_ok (C := cx0) mixed tbOk SpecsOk.nil FnsOk.nil 0) fnOk_beats_ ?_
  intro ys p r h hp
  unfold spWins at h
  split at h
  · rename_i ks p q
    cases h
    obtain ⟨hk, h1, h2, h3, h4⟩ := hp
    obtain ⟨p, rfl⟩ := Int.eq_ofNat_of_zero_le h1
    obtain ⟨q, rfl⟩ := Int.eq_ofNat_of_zero_le h3
    obtain ⟨x, hx⟩ : ∃ x, ks[p]? = some x := ⟨_, List.getElem?_eq_getElem (by omega)⟩
    obtain ⟨y, hy⟩ : ∃ y, ks[q]? = some y := ⟨_, List.getElem?_eq_getElem (by omega)⟩
    have hkx := hk x (List.mem_of_getElem? hx)
    have hky := hk y (List.mem_of_getElem? hy)
    have hw : winB ks (p : Int).toNat (q : Int).toNat = beatE x y p q := by
      simp only [Int.toNat_natCast, winB, hx, hy]
    rw [hw]
    conv => whnf
    repeat' first
      | (refine idx_kn (by assumption) ?_; conv => whnf)
      | (refine idx_ki (by assumption) (by omega) ?_; conv => whnf)
      | (refine br_true (by first | with_reducible exact rfl | assumption | decide) ?_; conv => whnf)
      | (refine br_false (by first | with_reducible exact rfl | assumption | decide) ?_; conv => whnf)
      | ((with_reducible refine br_kt (by assumption) ?_); conv => whnf)
      | ((with_reducible refine br_kf (by assumption) ?_); conv => whnf)
      | ((with_reducible refine br_nt (by assumption) ?_); conv => whnf)
      | ((with_reducible refine br_nf (by assumption) ?_); conv => whnf)
      | ((with_reducible refine br_et (by assumption) ?_); conv => whnf)
      | ((with_reducible refine br_ef (by assumption) ?_); conv => whnf)
      | ((with_reducible refine br_dec (fun h => ?_) (fun h => ?_)) <;> first | (exfalso; omega) | conv => whnf)
      | ((with_reducible refine br_ndec (fun h => ?_) (fun h => ?_)) <;> first | (exfalso; omega) | conv => whnf)
      | ((with_reducible refine br_ne (fun h => ?_) (fun h => ?_)) <;> first | (exfalso; omega) | conv => whnf)
      | ((with_reducible refine br_eq (fun h => ?_) (fun h => ?_)) <;> first | (exfalso; omega) | conv => whnf)
      | (refine br_intro (fun h => ?_) (fun h => ?_) <;> conv => whnf)
      | (refine need_in (by first | exact trivial | assumption | exact ⟨rfl, Nat.le_refl _⟩ | exact ⟨rfl, rfl⟩ | (simp only [inR]; omega) | omega | (simp only [roomP, true_and, and_true, List.length_take, List.length_drop, List.length_append, List.length_cons, List.length_nil, List.length_set, List.length_replicate]; omega) | (refine ⟨by first | exact trivial | rfl, by first | exact Nat.le_refl _ | omega | (simp; omega), ?_⟩; change roomP _ _ 1; simp only [roomP]; omega) | (change roomP _ _ 1; simp only [roomP]; omega) | (simp; omega) | (simp [inR]; omega) | (simp [inR]; done) | decide | (simp; done)) ?_; conv => whnf)
      | (refine idx_nat (by omega) (fun x hx => ?_); conv => whnf)
      | (refine frz_auto ?_; conv => whnf)
      | (refine draw_plain ?_; conv => whnf)
      | (refine idx_intro (by omega) (by omega) (fun x hx => ?_); conv => whnf)
      | (refine idx_intro (by first | omega | (simp; omega) | (simp; done)) (by first | omega | (simp; omega) | (simp; done)) (fun x hx => ?_); conv => whnf)
      | fail
    all_goals
      refine congrArg AV.bool ?_
      have hpq : decide ((p : Int) < (q : Int)) = decide (p < q) := by simp
      unfold okK at hkx hky
      have hnil := @sEq_nil x.1 y.1
      have hlt : sLt x.1 y.1 = true → sEq x.1 y.1 = false := by
        intro hl
        refine sEq_f fun e => ?_
        rw [e, sLt_irr] at hl
        cases hl
      rw [beatE]
      try rw [hpq]
      cases hx1 : x.2.1 <;> cases hy1 : y.2.1 <;> simp_all
  · cases h
theorem fnOk_lLe : FnOk Try.prog 7 Try.f7 := ⟨by rfl, by kernel_rfl, by
  show okCode _ _ = true ∧ drawsOk _ = true
  exact ⟨by kernel_rfl, by kernel_rfl⟩⟩
noncomputable def lLe_C (F : LzF) : Cx := ⟨tb, [], [(9, spFar), (10, spAwake), (11, spB F), (14, spC F), (16, spO F), (19, spW F), (23, spWins)]⟩
theorem lLe_D {F : LzF} (h : F = stdF) : SpecsOk Try.prog (lLe_C F).specs := .cons lFar_ok (.cons awake_ok (.cons (spB_ok h) (.cons (spC_ok h) (.cons (spO_ok h) (.cons (spW_ok h) (.cons beats_ok .nil))))))
abbrev lLe_T : List Ty := [.sl keyT]
abbrev lLe_FN := fnOk_lLe
theorem rightE_nil {ks : List keyT.El} (h : ¬ rightE ks = 0) : bK ks = [] := if_neg h
def hpL (F : LzF) (ks : List keyT.El) (mt : List Bool) : Hp := [.cells 27 [.lst keyT (F.bK ks), .lst intT (F.bL ks), .int .i64 (F.bW ks)], .arr 4 .bool mt true 0]
set_option maxRecDepth 100000 in
set_option maxHeartbeats 8000000 in
theorem lLe : ∀ es : Ty.Els lLe_T, tyOks lLe_T es → WalkOk Try.prog Try.f7 (avTs lLe_T es) := by
  rintro ⟨ks, _⟩ -
  obtain ⟨F, hstd⟩ : ∃ F, F = stdF := ⟨_, rfl⟩
  refine ⟨lLe_C F, callN (lLe_C F) 0, tbOk, lLe_D hstd, callN_ok mixed tbOk (lLe_D hstd) FnsOk.nil 0, ?_⟩
  show bodyA _ _ _ [.lst keyT ks] [] _
  cases hF : farL ks with
  | true =>
    conv => whnf
    repeat' first
      | (refine idx_kn (by assumption) ?_; conv => whnf)
      | (refine idx_ki (by assumption) (by omega) ?_; conv => whnf)
      | (refine br_true (by first | with_reducible exact rfl | assumption | decide) ?_; conv => whnf)
      | (refine br_false (by first | with_reducible exact rfl | assumption | decide) ?_; conv => whnf)
      | ((with_reducible refine br_kt (by assumption) ?_); conv => whnf)
      | ((with_reducible refine br_kf (by assumption) ?_); conv => whnf)
      | ((with_reducible refine br_nt (by assumption) ?_); conv => whnf)
      | ((with_reducible refine br_nf (by assumption) ?_); conv => whnf)
      | ((with_reducible refine br_et (by assumption) ?_); conv => whnf)
      | ((with_reducible refine br_ef (by assumption) ?_); conv => whnf)
      | ((with_reducible refine br_dec (fun h => ?_) (fun h => ?_)) <;> first | (exfalso; omega) | conv => whnf)
      | ((with_reducible refine br_ndec (fun h => ?_) (fun h => ?_)) <;> first | (exfalso; omega) | conv => whnf)
      | ((with_reducible refine br_ne (fun h => ?_) (fun h => ?_)) <;> first | (exfalso; omega) | conv => whnf)
      | ((with_reducible refine br_eq (fun h => ?_) (fun h => ?_)) <;> first | (exfalso; omega) | conv => whnf)
      | (refine br_intro (fun h => ?_) (fun h => ?_) <;> conv => whnf)
      | (refine need_in (by first | exact trivial | assumption | exact ⟨rfl, Nat.le_refl _⟩ | exact ⟨rfl, rfl⟩ | (simp only [inR]; omega) | omega | (simp only [roomP, true_and, and_true, List.length_take, List.length_drop, List.length_append, List.length_cons, List.length_nil, List.length_set, List.length_replicate]; omega) | (refine ⟨by first | exact trivial | rfl, by first | exact Nat.le_refl _ | omega | (simp; omega), ?_⟩; change roomP _ _ 1; simp only [roomP]; omega) | (change roomP _ _ 1; simp only [roomP]; omega) | (simp; omega) | (simp [inR]; omega) | (simp [inR]; done) | decide | (simp; done)) ?_; conv => whnf)
      | (refine idx_nat (by omega) (fun x hx => ?_); conv => whnf)
      | (refine frz_auto ?_; conv => whnf)
      | (refine draw_plain ?_; conv => whnf)
      | (refine idx_intro (by omega) (by omega) (fun x hx => ?_); conv => whnf)
      | (refine idx_intro (by first | omega | (simp; omega) | (simp; done)) (by first | omega | (simp; omega) | (simp; done)) (fun x hx => ?_); conv => whnf)
      | fail
  | false =>
    by_cases hr : F.bE ks = 0
    · have hr0 : rightE ks = 0 := by rw [hstd] at hr; exact hr
      obtain ⟨n1, n2, hok⟩ := rightE_ok hr0
      have e1 : F.bK ks = ks := by rw [hstd]; exact bK_ok hr0
      have e2 : F.bL ks = loseL ks := by rw [hstd]; exact bL_ok hr0
      have e3 : F.bW ks = winI ks := by rw [hstd]; exact bW_ok hr0
      have ct := chk_tree hr0
      have e4 : F.cN (F.bK ks) (F.bL ks) (F.bW ks) = 0 := by rw [e1, e2, e3, hstd]; show (chkE ks (loseL ks) (winI ks)).1 = 0; rw [ct]
      have e5 : F.cE (F.bK ks) (F.bL ks) (F.bW ks) = 0 := by rw [e1, e2, e3, hstd]; show (chkE ks (loseL ks) (winI ks)).2 = 0; rw [ct]
      have e6 : F.oL (F.bK ks) (F.bL ks) (F.bW ks) = ordL ks := by
        rw [e1, e2, e3, hstd]
        show rep0 (chkE ks (loseL ks) (winI ks)).2 (ordL ks) [] = ordL ks
        rw [ct]; rfl
      have hb1 : (F.bK ks).length = ks.length := by rw [e1]
      have hb2 : (F.oL (F.bK ks) (F.bL ks) (F.bW ks)).length = ks.length := by rw [e6, ordL_len]
      have hw : F.bW ks = ((pl ks 1).1 : Int) := e3
      have hg0 : (F.oL (F.bK ks) (F.bL ks) (F.bW ks))[0]? = some ((pl ks 1).1 : Int) := by
        rw [e6, ordL_get ks (by omega), ord_win n1]
      have hwl := pl_lt1 (ks := ks) (node := 1) (Nat.le_refl _) (by omega)
      obtain ⟨z, hz⟩ : ∃ z, ks[(pl ks 1).1]? = some z := ⟨_, List.getElem?_eq_getElem hwl⟩
      have hop : F.wE (F.bK ks) (F.bL ks) (F.bW ks) = if z.2.1 = true then 12 else 0 := by
        rw [e1, e2, e3, hstd]
        show opE ks (loseL ks) (winI ks) = _
        rw [opE, ct, if_neg (by decide), show winI ks = ((pl ks 1).1 : Int) from rfl, keyAt_get hz]
      have hwk : F.wE (F.bK ks) (F.bL ks) (F.bW ks) = 0 → F.wK (F.bK ks) (F.bL ks) (F.bW ks) = z.1 := by
        rw [e1, e2, e3, hstd]
        show opE ks (loseL ks) (winI ks) = 0 → wK ks (loseL ks) (winI ks) = z.1
        intro h0
        rw [wK, if_pos h0, show winI ks = ((pl ks 1).1 : Int) from rfl, keyAt_get hz]
      conv => whnf
      repeat' first
        | (refine idx_kn (by assumption) ?_; conv => whnf)
        | (refine idx_ki (by assumption) (by omega) ?_; conv => whnf)
        | (refine br_true (by first | with_reducible exact rfl | assumption | decide) ?_; conv => whnf)
        | (refine br_false (by first | with_reducible exact rfl | assumption | decide) ?_; conv => whnf)
        | ((with_reducible refine br_kt (by assumption) ?_); conv => whnf)
        | ((with_reducible refine br_kf (by assumption) ?_); conv => whnf)
        | ((with_reducible refine br_nt (by assumption) ?_); conv => whnf)
        | ((with_reducible refine br_nf (by assumption) ?_); conv => whnf)
        | ((with_reducible refine br_et (by assumption) ?_); conv => whnf)
        | ((with_reducible refine br_ef (by assumption) ?_); conv => whnf)
        | ((with_reducible refine br_dec (fun h => ?_) (fun h => ?_)) <;> first | (exfalso; omega) | conv => whnf)
        | ((with_reducible refine br_ndec (fun h => ?_) (fun h => ?_)) <;> first | (exfalso; omega) | conv => whnf)
        | ((with_reducible refine br_ne (fun h => ?_) (fun h => ?_)) <;> first | (exfalso; omega) | conv => whnf)
        | ((with_reducible refine br_eq (fun h => ?_) (fun h => ?_)) <;> first | (exfalso; omega) | conv => whnf)
        | (refine br_intro (fun h => ?_) (fun h => ?_) <;> conv => whnf)
        | (refine need_in (by first | exact trivial | assumption | exact ⟨rfl, Nat.le_refl _⟩ | exact ⟨rfl, rfl⟩ | (simp only [inR]; omega) | omega | (simp only [roomP, true_and, and_true, List.length_take, List.length_drop, List.length_append, List.length_cons, List.length_nil, List.length_set, List.length_replicate]; omega) | (refine ⟨by first | exact trivial | rfl, by first | exact Nat.le_refl _ | omega | (simp; omega), ?_⟩; change roomP _ _ 1; simp only [roomP]; omega) | (change roomP _ _ 1; simp only [roomP]; omega) | (simp; omega) | (simp [inR]; omega) | (simp [inR]; done) | decide | (simp; done)) ?_; conv => whnf)
        | (refine idx_nat (by omega) (fun x hx => ?_); conv => whnf)
        | (refine frz_auto ?_; conv => whnf)
        | (refine draw_plain ?_; conv => whnf)
        | (refine idx_intro (by omega) (by omega) (fun x hx => ?_); conv => whnf)
        | (refine idx_intro (by first | omega | (simp; omega) | (simp; done)) (by first | omega | (simp; omega) | (simp; done)) (fun x hx => ?_); conv => whnf)
        | fail
      refine loop_inv [] [10] (fun vs h => ∃ i : Nat, vs = [.int .i64 (i : Int)] ∧ h = hpL F ks (MTb ks i) ∧ i ≤ ks.length) (fun vs _ => match vs with | [.int _ j] => ks.length - j.toNat | _ => 0) ?_
      refine ⟨⟨0, rfl, ?_, Nat.zero_le _⟩, ?_⟩
      · rw [MTb_zero]
        rfl
      rintro vs h' - ⟨i, rfl, rfl, hi⟩
      unfold hpL
      have hml := MTb_len ks i
      conv => whnf
      by_cases hil : i < ks.length
      · have hoi := ordN_lt hil
        have hgi : (F.oL (F.bK ks) (F.bL ks) (F.bW ks))[i]? = some ((ordN ks i : Nat) : Int) := by rw [e6, ordL_get ks hil]
        have hmg := MTb_get ks hil
        have hms := MTb_set ks hil
        obtain ⟨x, hx⟩ : ∃ x, ks[i]? = some x := ⟨_, List.getElem?_eq_getElem hil⟩
        have hx2 : (F.bK ks)[i]? = some x := by rw [e1]; exact hx
        have fin : hpL F ks ((MTb ks i).set (ordN ks i) true) = hpL F ks (MTb ks (i + 1)) := by rw [hms]
        by_cases hi0 : i = 0
        · skip
          repeat' first
            | (refine idx_kn (by assumption) ?_; conv => whnf)
            | (refine idx_ki (by assumption) (by omega) ?_; conv => whnf)
            | (refine br_true (by first | with_reducible exact rfl | assumption | decide) ?_; conv => whnf)
            | (refine br_false (by first | with_reducible exact rfl | assumption | decide) ?_; conv => whnf)
            | ((with_reducible refine br_kt (by assumption) ?_); conv => whnf)
            | ((with_reducible refine br_kf (by assumption) ?_); conv => whnf)
            | ((with_reducible refine br_nt (by assumption) ?_); conv => whnf)
            | ((with_reducible refine br_nf (by assumption) ?_); conv => whnf)
            | ((with_reducible refine br_et (by assumption) ?_); conv => whnf)
            | ((with_reducible refine br_ef (by assumption) ?_); conv => whnf)
            | ((with_reducible refine br_dec (fun h => ?_) (fun h => ?_)) <;> first | (exfalso; omega) | conv => whnf)
            | ((with_reducible refine br_ndec (fun h => ?_) (fun h => ?_)) <;> first | (exfalso; omega) | conv => whnf)
            | ((with_reducible refine br_ne (fun h => ?_) (fun h => ?_)) <;> first | (exfalso; omega) | conv => whnf)
            | ((with_reducible refine br_eq (fun h => ?_) (fun h => ?_)) <;> first | (exfalso; omega) | conv => whnf)
            | (refine br_intro (fun h => ?_) (fun h => ?_) <;> conv => whnf)
            | (refine need_in (by first | exact trivial | assumption | exact ⟨rfl, Nat.le_refl _⟩ | exact ⟨rfl, rfl⟩ | (simp only [inR]; omega) | omega | (simp only [roomP, true_and, and_true, List.length_take, List.length_drop, List.length_append, List.length_cons, List.length_nil, List.length_set, List.length_replicate]; omega) | (refine ⟨by first | exact trivial | rfl, by first | exact Nat.le_refl _ | omega | (simp; omega), ?_⟩; change roomP _ _ 1; simp only [roomP]; omega) | (change roomP _ _ 1; simp only [roomP]; omega) | (simp; omega) | (simp [inR]; omega) | (simp [inR]; done) | decide | (simp; done)) ?_; conv => whnf)
            | (refine idx_nat (by omega) (fun x hx => ?_); conv => whnf)
            | (refine frz_auto ?_; conv => whnf)
            | (refine draw_plain ?_; conv => whnf)
            | (refine idx_intro (by omega) (by omega) (fun x hx => ?_); conv => whnf)
            | (refine idx_intro (by first | omega | (simp; omega) | (simp; done)) (by first | omega | (simp; omega) | (simp; done)) (fun x hx => ?_); conv => whnf)
            | fail
          · exact absurd rfl (eqK_ne (by simpa using h))
          · refine back_intro (by conv => whnf) rfl ⟨i + 1, rfl, fin, by omega⟩ ?_
            show ks.length - ((i : Int) + 1).toNat < ks.length - (i : Int).toNat
            omega
        · have hg1 : (F.oL (F.bK ks) (F.bL ks) (F.bW ks))[i - 1]? = some ((ordN ks (i - 1) : Nat) : Int) := by rw [e6, ordL_get ks (by omega)]
          have hnx := ord_next (ks := ks) (i := i - 1) (j := i) (by omega) hil
          have ho1 := ordN_lt (ks := ks) (i := i - 1) (by omega)
          have hg2 : (F.oL (F.bK ks) (F.bL ks) (F.bW ks))[((i : Int) - 1).toNat]? = some ((ordN ks (i - 1) : Nat) : Int) := by
            rw [show ((i : Int) - 1).toNat = i - 1 by omega]; exact hg1
          have p3 : okKs ks ∧ 0 ≤ ((ordN ks (i - 1) : Nat) : Int) ∧ ((ordN ks (i - 1) : Nat) : Int) < ks.length ∧ 0 ≤ ((ordN ks i : Nat) : Int) ∧ ((ordN ks i : Nat) : Int) < ks.length := ⟨hok, by omega, by omega, by omega, by omega⟩
          have hnx2 : winB ks ((ordN ks (i - 1) : Nat) : Int).toNat ((ordN ks i : Nat) : Int).toNat = true := hnx
          repeat' first
            | (refine idx_kn (by assumption) ?_; conv => whnf)
            | (refine idx_ki (by assumption) (by omega) ?_; conv => whnf)
            | (refine br_true (by first | with_reducible exact rfl | assumption | decide) ?_; conv => whnf)
            | (refine br_false (by first | with_reducible exact rfl | assumption | decide) ?_; conv => whnf)
            | ((with_reducible refine br_kt (by assumption) ?_); conv => whnf)
            | ((with_reducible refine br_kf (by assumption) ?_); conv => whnf)
            | ((with_reducible refine br_nt (by assumption) ?_); conv => whnf)
            | ((with_reducible refine br_nf (by assumption) ?_); conv => whnf)
            | ((with_reducible refine br_et (by assumption) ?_); conv => whnf)
            | ((with_reducible refine br_ef (by assumption) ?_); conv => whnf)
            | ((with_reducible refine br_dec (fun h => ?_) (fun h => ?_)) <;> first | (exfalso; omega) | conv => whnf)
            | ((with_reducible refine br_ndec (fun h => ?_) (fun h => ?_)) <;> first | (exfalso; omega) | conv => whnf)
            | ((with_reducible refine br_ne (fun h => ?_) (fun h => ?_)) <;> first | (exfalso; omega) | conv => whnf)
            | ((with_reducible refine br_eq (fun h => ?_) (fun h => ?_)) <;> first | (exfalso; omega) | conv => whnf)
            | (refine br_intro (fun h => ?_) (fun h => ?_) <;> conv => whnf)
            | (refine need_in (by first | exact trivial | assumption | exact ⟨rfl, Nat.le_refl _⟩ | exact ⟨rfl, rfl⟩ | (simp only [inR]; omega) | omega | (simp only [roomP, true_and, and_true, List.length_take, List.length_drop, List.length_append, List.length_cons, List.length_nil, List.length_set, List.length_replicate]; omega) | (refine ⟨by first | exact trivial | rfl, by first | exact Nat.le_refl _ | omega | (simp; omega), ?_⟩; change roomP _ _ 1; simp only [roomP]; omega) | (change roomP _ _ 1; simp only [roomP]; omega) | (simp; omega) | (simp [inR]; omega) | (simp [inR]; done) | decide | (simp; done)) ?_; conv => whnf)
            | (refine idx_nat (by omega) (fun x hx => ?_); conv => whnf)
            | (refine frz_auto ?_; conv => whnf)
            | (refine draw_plain ?_; conv => whnf)
            | (refine idx_intro (by omega) (by omega) (fun x hx => ?_); conv => whnf)
            | (refine idx_intro (by first | omega | (simp; omega) | (simp; done)) (by first | omega | (simp; omega) | (simp; done)) (fun x hx => ?_); conv => whnf)
            | fail
          · exact absurd rfl (eqK_ne (by simpa using h))
          · rw [hnx2] at h
            cases h
          · refine back_intro (by conv => whnf) rfl ⟨i + 1, rfl, fin, by omega⟩ ?_
            show ks.length - ((i : Int) + 1).toNat < ks.length - (i : Int).toNat
            omega
      · have hie : i = ks.length := by omega
        subst hie
        cases hzd : z.2.1 with
        | true =>
          rw [hzd, if_pos rfl] at hop
          repeat' first
            | (refine idx_kn (by assumption) ?_; conv => whnf)
            | (refine idx_ki (by assumption) (by omega) ?_; conv => whnf)
            | (refine br_true (by first | with_reducible exact rfl | assumption | decide) ?_; conv => whnf)
            | (refine br_false (by first | with_reducible exact rfl | assumption | decide) ?_; conv => whnf)
            | ((with_reducible refine br_kt (by assumption) ?_); conv => whnf)
            | ((with_reducible refine br_kf (by assumption) ?_); conv => whnf)
            | ((with_reducible refine br_nt (by assumption) ?_); conv => whnf)
            | ((with_reducible refine br_nf (by assumption) ?_); conv => whnf)
            | ((with_reducible refine br_et (by assumption) ?_); conv => whnf)
            | ((with_reducible refine br_ef (by assumption) ?_); conv => whnf)
            | ((with_reducible refine br_dec (fun h => ?_) (fun h => ?_)) <;> first | (exfalso; omega) | conv => whnf)
            | ((with_reducible refine br_ndec (fun h => ?_) (fun h => ?_)) <;> first | (exfalso; omega) | conv => whnf)
            | ((with_reducible refine br_ne (fun h => ?_) (fun h => ?_)) <;> first | (exfalso; omega) | conv => whnf)
            | ((with_reducible refine br_eq (fun h => ?_) (fun h => ?_)) <;> first | (exfalso; omega) | conv => whnf)
            | (refine br_intro (fun h => ?_) (fun h => ?_) <;> conv => whnf)
            | (refine need_in (by first | exact trivial | assumption | exact ⟨rfl, Nat.le_refl _⟩ | exact ⟨rfl, rfl⟩ | (simp only [inR]; omega) | omega | (simp only [roomP, true_and, and_true, List.length_take, List.length_drop, List.length_append, List.length_cons, List.length_nil, List.length_set, List.length_replicate]; omega) | (refine ⟨by first | exact trivial | rfl, by first | exact Nat.le_refl _ | omega | (simp; omega), ?_⟩; change roomP _ _ 1; simp only [roomP]; omega) | (change roomP _ _ 1; simp only [roomP]; omega) | (simp; omega) | (simp [inR]; omega) | (simp [inR]; done) | decide | (simp; done)) ?_; conv => whnf)
            | (refine idx_nat (by omega) (fun x hx => ?_); conv => whnf)
            | (refine frz_auto ?_; conv => whnf)
            | (refine draw_plain ?_; conv => whnf)
            | (refine idx_intro (by omega) (by omega) (fun x hx => ?_); conv => whnf)
            | (refine idx_intro (by first | omega | (simp; omega) | (simp; done)) (by first | omega | (simp; omega) | (simp; done)) (fun x hx => ?_); conv => whnf)
            | fail
          rw [hop, hzd] at h
          cases h
        | false =>
          rw [hzd, if_neg (by decide)] at hop
          have hwk := hwk hop
          repeat' first
            | (refine idx_kn (by assumption) ?_; conv => whnf)
            | (refine idx_ki (by assumption) (by omega) ?_; conv => whnf)
            | (refine br_true (by first | with_reducible exact rfl | assumption | decide) ?_; conv => whnf)
            | (refine br_false (by first | with_reducible exact rfl | assumption | decide) ?_; conv => whnf)
            | ((with_reducible refine br_kt (by assumption) ?_); conv => whnf)
            | ((with_reducible refine br_kf (by assumption) ?_); conv => whnf)
            | ((with_reducible refine br_nt (by assumption) ?_); conv => whnf)
            | ((with_reducible refine br_nf (by assumption) ?_); conv => whnf)
            | ((with_reducible refine br_et (by assumption) ?_); conv => whnf)
            | ((with_reducible refine br_ef (by assumption) ?_); conv => whnf)
            | ((with_reducible refine br_dec (fun h => ?_) (fun h => ?_)) <;> first | (exfalso; omega) | conv => whnf)
            | ((with_reducible refine br_ndec (fun h => ?_) (fun h => ?_)) <;> first | (exfalso; omega) | conv => whnf)
            | ((with_reducible refine br_ne (fun h => ?_) (fun h => ?_)) <;> first | (exfalso; omega) | conv => whnf)
            | ((with_reducible refine br_eq (fun h => ?_) (fun h => ?_)) <;> first | (exfalso; omega) | conv => whnf)
            | (refine br_intro (fun h => ?_) (fun h => ?_) <;> conv => whnf)
            | (refine need_in (by first | exact trivial | assumption | exact ⟨rfl, Nat.le_refl _⟩ | exact ⟨rfl, rfl⟩ | (simp only [inR]; omega) | omega | (simp only [roomP, true_and, and_true, List.length_take, List.length_drop, List.length_append, List.length_cons, List.length_nil, List.length_set, List.length_replicate]; omega) | (refine ⟨by first | exact trivial | rfl, by first | exact Nat.le_refl _ | omega | (simp; omega), ?_⟩; change roomP _ _ 1; simp only [roomP]; omega) | (change roomP _ _ 1; simp only [roomP]; omega) | (simp; omega) | (simp [inR]; omega) | (simp [inR]; done) | decide | (simp; done)) ?_; conv => whnf)
            | (refine idx_nat (by omega) (fun x hx => ?_); conv => whnf)
            | (refine frz_auto ?_; conv => whnf)
            | (refine draw_plain ?_; conv => whnf)
            | (refine idx_intro (by omega) (by omega) (fun x hx => ?_); conv => whnf)
            | (refine idx_intro (by first | omega | (simp; omega) | (simp; done)) (by first | omega | (simp; omega) | (simp; done)) (fun x hx => ?_); conv => whnf)
            | fail
          · rw [hwk, sEq_t] at h
            cases h
          · rw [hop, hzd] at h
            cases h
    · have hk0 : F.bK ks = [] := by rw [hstd] at hr ⊢; exact rightE_nil hr
      conv => whnf
      repeat' first
        | (refine idx_kn (by assumption) ?_; conv => whnf)
        | (refine idx_ki (by assumption) (by omega) ?_; conv => whnf)
        | (refine br_true (by first | with_reducible exact rfl | assumption | decide) ?_; conv => whnf)
        | (refine br_false (by first | with_reducible exact rfl | assumption | decide) ?_; conv => whnf)
        | ((with_reducible refine br_kt (by assumption) ?_); conv => whnf)
        | ((with_reducible refine br_kf (by assumption) ?_); conv => whnf)
        | ((with_reducible refine br_nt (by assumption) ?_); conv => whnf)
        | ((with_reducible refine br_nf (by assumption) ?_); conv => whnf)
        | ((with_reducible refine br_et (by assumption) ?_); conv => whnf)
        | ((with_reducible refine br_ef (by assumption) ?_); conv => whnf)
        | ((with_reducible refine br_dec (fun h => ?_) (fun h => ?_)) <;> first | (exfalso; omega) | conv => whnf)
        | ((with_reducible refine br_ndec (fun h => ?_) (fun h => ?_)) <;> first | (exfalso; omega) | conv => whnf)
        | ((with_reducible refine br_ne (fun h => ?_) (fun h => ?_)) <;> first | (exfalso; omega) | conv => whnf)
        | ((with_reducible refine br_eq (fun h => ?_) (fun h => ?_)) <;> first | (exfalso; omega) | conv => whnf)
        | (refine br_intro (fun h => ?_) (fun h => ?_) <;> conv => whnf)
        | (refine need_in (by first | exact trivial | assumption | exact ⟨rfl, Nat.le_refl _⟩ | exact ⟨rfl, rfl⟩ | (simp only [inR]; omega) | omega | (simp only [roomP, true_and, and_true, List.length_take, List.length_drop, List.length_append, List.length_cons, List.length_nil, List.length_set, List.length_replicate]; omega) | (refine ⟨by first | exact trivial | rfl, by first | exact Nat.le_refl _ | omega | (simp; omega), ?_⟩; change roomP _ _ 1; simp only [roomP]; omega) | (change roomP _ _ 1; simp only [roomP]; omega) | (simp; omega) | (simp [inR]; omega) | (simp [inR]; done) | decide | (simp; done)) ?_; conv => whnf)
        | (refine idx_nat (by omega) (fun x hx => ?_); conv => whnf)
        | (refine frz_auto ?_; conv => whnf)
        | (refine draw_plain ?_; conv => whnf)
        | (refine idx_intro (by omega) (by omega) (fun x hx => ?_); conv => whnf)
        | (refine idx_intro (by first | omega | (simp; omega) | (simp; done)) (by first | omega | (simp; omega) | (simp; done)) (fun x hx => ?_); conv => whnf)
        | fail
      rw [hk0] at h
      exact absurd rfl h
end Go.Proofs.Ytjlfkgffgnkflaa
