/-
  Where a cursor stands behind a move: plain Lean.
  The law of turns.
-/
import Derived.Test.YtfknchngldknnaaMg
namespace Go.Proofs.Ytfknchngldknnaa
open Av Bk

theorem rgL_at (b : List entT.El) (rs : List runT.El) (s : Cu) (k : ByteArray) (af : Bool) : rgL b rs (atS s k af) = rgL b rs s := rfl
theorem asc_lt {l : List pairT.El} (ha : ascP l) {i j : Nat} {x y : pairT.El} (hx : l[i]? = some x) (hy : l[j]? = some y) (h : i < j) : sLt x.1 y.1 = true := by
  have h1 := List.getElem?_eq_some_iff.1 hx
  have h2 := List.getElem?_eq_some_iff.1 hy
  have := List.pairwise_iff_getElem.1 ha _ _ h1.1 h2.1 h
  rw [h1.2, h2.2] at this
  exact this
theorem take_mem {l : List pairT.El} {i : Nat} {p : pairT.El} (h : p ∈ l.take i) : ∃ j, j < i ∧ l[j]? = some p := by
  obtain ⟨j, hj⟩ := List.mem_iff_getElem?.1 h
  rw [List.getElem?_take] at hj
  split at hj
  · exact ⟨j, by assumption, hj⟩
  · cases hj
theorem pos_at {l : List pairT.El} (ha : ascP l) (s : Cu) {i : Nat} {x : pairT.El} (hx : l[i]? = some x) (af : Bool) : nP (befB (atS s x.1 af)) l = if af = true then i + 1 else i := by
  have hi := (List.getElem?_eq_some_iff.1 hx).1
  have hb : ∀ p : pairT.El, befB (atS s x.1 af) p = (sLt p.1 x.1 || (af && sEq p.1 x.1)) := fun p => rfl
  cases af with
  | true =>
    rw [if_pos rfl]
    refine nP_at (fun p hp => ?_) (by omega) ?_
    · obtain ⟨j, hj, hq⟩ := take_mem hp
      rw [hb]
      by_cases hji : j = i
      · subst hji
        rw [hx] at hq
        cases hq
        rw [sEq_refl]
        simp
      · rw [asc_lt ha hq hx (by omega)]; rfl
    · by_cases he : i + 1 = l.length
      · exact .inl he
      · obtain ⟨y, hy⟩ : ∃ y, l[i + 1]? = some y := ⟨_, List.getElem?_eq_getElem (by omega)⟩
        refine .inr ⟨y, hy, ?_⟩
        have h1 := asc_lt ha hx hy (by omega)
        rw [hb, sLt_asym h1, sEq_no.2 (fun e => sLt_ne h1 e.symm)]
        rfl
  | false =>
    rw [if_neg (by decide)]
    refine nP_at (fun p hp => ?_) (by omega) (.inr ⟨x, hx, ?_⟩)
    · obtain ⟨j, hj, hq⟩ := take_mem hp
      rw [hb, asc_lt ha hq hx hj]; rfl
    · rw [hb, sLt_irrefl]; rfl
theorem cuE_at {b : List entT.El} {rs : List runT.El} {s : Cu} (h : cuE b rs s = 0) {x : pairT.El} (hx : x ∈ rgL b rs s) (af : Bool) : cuE b rs (atS s x.1 af) = 0 := by
  obtain ⟨h1, h2, _, _⟩ := cuE_zero h
  have hm := List.mem_filter.1 hx
  have hk : keyE x.1 = 0 := mapL_key (vcL_zero h1) hm.1
  have hr : riE b rs s.lo s.hi s.bd = 0 := cuE_ri h
  have hb : badS (atS s x.1 af) = false := by
    show ((!true && !sEq x.1 ⟨#[]⟩) || (true && !hasB s.lo s.hi s.bd x.1)) = false
    rw [show hasB s.lo s.hi s.bd x.1 = true from hm.2]
    rfl
  unfold cuE
  rw [if_neg (show ¬ riE b rs (atS s x.1 af).lo (atS s x.1 af).hi (atS s x.1 af).bd ≠ 0 from fun e => e hr), if_neg (show ¬ keyE (atS s x.1 af).key ≠ 0 from fun e => e hk), if_neg (by rw [hb]; decide)]
/-- Where a cursor stands. -/
def at' (b : List entT.El) (rs : List runT.El) (s : Cu) : Nat := nP (befB s) (rgL b rs s)
theorem at_le (b : List entT.El) (rs : List runT.El) (s : Cu) : at' b rs s ≤ (rgL b rs s).length := nP_le _ _
theorem left_at {b : List entT.El} {rs : List runT.El} {s : Cu} (h : cuE b rs s = 0) : leftR b rs s = ⟨at' b rs s, (rgL b rs s).length - at' b rs s, 0⟩ := left_ok h
theorem next_at {b : List entT.El} {rs : List runT.El} {s : Cu} (h : cuE b rs s = 0) : mvR b rs s true = match (rgL b rs s)[at' b rs s]? with | some x => ⟨x, atS s x.1 true, 0⟩ | none => ⟨zP, zCu, 12⟩ := by
  rw [mv_ok h, show nbO true (rgL b rs s) s = (rgL b rs s)[at' b rs s]? from (nP_find _ _).symm]
  cases (rgL b rs s)[at' b rs s]? <;> rfl
theorem prev_at {b : List entT.El} {rs : List runT.El} {s : Cu} (h : cuE b rs s = 0) : mvR b rs s false = match at' b rs s with | 0 => ⟨zP, zCu, 12⟩ | i + 1 => match (rgL b rs s)[i]? with | some x => ⟨x, atS s x.1 false, 0⟩ | none => ⟨zP, zCu, 12⟩ := by
  rw [mv_ok h, pv_take (rgL_asc b rs s) s]
  show mvOf s false (if at' b rs s = 0 then none else (rgL b rs s)[at' b rs s - 1]?) = _
  cases h2 : at' b rs s with
  | zero => rfl
  | succ i =>
    rw [if_neg (by omega), Nat.add_sub_cancel]
    simp only
    cases (rgL b rs s)[i]? <;> rfl
theorem at_at {b : List entT.El} {rs : List runT.El} {s : Cu} {i : Nat} {x : pairT.El} (hx : (rgL b rs s)[i]? = some x) (af : Bool) : at' b rs (atS s x.1 af) = if af = true then i + 1 else i := pos_at (rgL_asc b rs s) s hx af
/-- One more step of a cursor, written out. -/
abbrev ex (s : Cu) : Cu := ⟨s.lo, s.hi, s.bd, s.so, s.key, s.af⟩
structure Tn (b : List entT.El) (rs : List runT.El) (s : Cu) (fw : Bool) (a c : Int) : Prop where
  e : (mvR b rs s fw).e = 0
  le : (leftR b rs (ex (mvR b rs s fw).s)).e = 0
  la : ((leftR b rs (ex (mvR b rs s fw).s)).a : Int) = a
  lb : ((leftR b rs (ex (mvR b rs s fw).s)).b : Int) = c
  be : (mvR b rs (ex (mvR b rs s fw).s) (!fw)).e = 0
  bp : (mvR b rs (ex (mvR b rs s fw).s) (!fw)).p = (mvR b rs s fw).p
  ce : cuE b rs (ex (mvR b rs s fw).s) = 0
theorem tn_of {b : List entT.El} {rs : List runT.El} {s : Cu} (h : cuE b rs s = 0) {fw : Bool} {i : Nat} {x : pairT.El} (hx : (rgL b rs s)[i]? = some x) (hm : mvR b rs s fw = ⟨x, atS s x.1 fw, 0⟩) :
    Tn b rs s fw (if fw = true then i + 1 else i : Nat) ((rgL b rs s).length - (if fw = true then i + 1 else i) : Nat) := by
  have hi := List.getElem?_eq_some_iff.1 hx
  have hmem : x ∈ rgL b rs s := List.mem_of_getElem? hx
  have hc := cuE_at h hmem fw
  have ha := at_at (s := s) hx fw
  have hl := left_at hc
  have hs : ex (mvR b rs s fw).s = atS s x.1 fw := by rw [hm]
  refine ⟨by rw [hm], ?_, ?_, ?_, ?_, ?_, ?_⟩
  · rw [hs, hl]
  · rw [hs, hl]; show ((at' b rs (atS s x.1 fw) : Nat) : Int) = _; rw [ha]
  · rw [hs, hl]; show (((rgL b rs s).length - at' b rs (atS s x.1 fw) : Nat) : Int) = _; rw [ha]
  · rw [hs]
    cases fw with
    | true =>
      rw [show (!true) = false from rfl, prev_at hc, ha, if_pos rfl]
      simp only
      rw [rgL_at, hx]
    | false =>
      rw [show (!false) = true from rfl, next_at hc, ha, if_neg (by decide), rgL_at, hx]
  · rw [hs, hm]
    cases fw with
    | true =>
      rw [show (!true) = false from rfl, prev_at hc, ha, if_pos rfl]
      simp only
      rw [rgL_at, hx]
    | false =>
      rw [show (!false) = true from rfl, next_at hc, ha, if_neg (by decide), rgL_at, hx]
  · rw [hs]; exact hc
theorem turn_fw {b : List entT.El} {rs : List runT.El} {s : Cu} (h : cuE b rs s = 0) :
    ((mvR b rs s true).e ≠ 0 ∧ (leftR b rs s).b = 0) ∨ (0 < (leftR b rs s).b ∧ Tn b rs s true ((leftR b rs s).a + 1) ((leftR b rs s).b - 1)) := by
  have hle := at_le b rs s
  have hl := left_at h
  have hn := next_at h
  by_cases hi : at' b rs s < (rgL b rs s).length
  · right
    have hx := List.getElem?_eq_getElem hi
    rw [hx] at hn
    have ht := tn_of h hx hn
    refine ⟨by rw [hl]; show 0 < (rgL b rs s).length - at' b rs s; omega, ?_⟩
    rw [hl]
    rw [if_pos rfl] at ht
    refine (show ∀ (a c a' c' : Int), Tn b rs s true a c → a = a' → c = c' → Tn b rs s true a' c' from fun a c a' c' h e1 e2 => e1 ▸ e2 ▸ h) _ _ _ _ ht ?_ ?_
    · show ((at' b rs s + 1 : Nat) : Int) = (at' b rs s : Int) + 1; omega
    · show (((rgL b rs s).length - (at' b rs s + 1) : Nat) : Int) = (((rgL b rs s).length - at' b rs s : Nat) : Int) - 1; omega
  · left
    rw [List.getElem?_eq_none (by omega)] at hn
    refine ⟨by rw [hn]; exact (by decide : (12 : Int) ≠ 0), by rw [hl]; show (rgL b rs s).length - at' b rs s = 0; omega⟩
theorem turn_bw {b : List entT.El} {rs : List runT.El} {s : Cu} (h : cuE b rs s = 0) :
    ((mvR b rs s false).e ≠ 0 ∧ (leftR b rs s).a = 0) ∨ (0 < (leftR b rs s).a ∧ Tn b rs s false ((leftR b rs s).a - 1) ((leftR b rs s).b + 1)) := by
  have hle := at_le b rs s
  have hl := left_at h
  have hn := prev_at h
  cases hi : at' b rs s with
  | zero =>
    left
    rw [hi] at hn
    refine ⟨by rw [hn]; exact (by decide : (12 : Int) ≠ 0), by rw [hl]; exact hi⟩
  | succ i =>
    right
    rw [hi] at hn
    have hx := List.getElem?_eq_getElem (l := rgL b rs s) (i := i) (by omega)
    simp only at hn
    rw [hx] at hn
    have ht := tn_of h hx hn
    refine ⟨by rw [hl]; show 0 < at' b rs s; omega, ?_⟩
    rw [hl]
    rw [if_neg (by decide)] at ht
    refine (show ∀ (a c a' c' : Int), Tn b rs s false a c → a = a' → c = c' → Tn b rs s false a' c' from fun a c a' c' h e1 e2 => e1 ▸ e2 ▸ h) _ _ _ _ ht ?_ ?_
    · show (i : Int) = (at' b rs s : Int) - 1; omega
    · show (((rgL b rs s).length - i : Nat) : Int) = (((rgL b rs s).length - at' b rs s : Nat) : Int) + 1; omega
end Go.Proofs.Ytfknchngldknnaa
namespace Go.Proofs.Ytfknchngldknnaa
open Av Bk
set_option maxRecDepth 100000 in
theorem fnOk_lTu : FnOk Try.prog 5 Try.f5 := ⟨by rfl, by kernel_rfl, by
  show okCode _ _ = true ∧ drawsOk _ = true
  exact ⟨by kernel_rfl, by kernel_rfl⟩⟩
noncomputable abbrev lTu_C : Cx := lw_C
abbrev lTu_D := lw_D
theorem lTu_F : FnsOk Try.prog lTu_C.fns := FnsOk.nil
abbrev lTu_N : Nat := 0
abbrev lTu_T : List Ty := [viewT, cuT]
abbrev lTu_FN := fnOk_lTu
theorem cnt_at {b : List entT.El} {rs : List runT.El} {s : Cu} (h : cuE b rs s = 0) : (partR b rs s.lo s.hi s.bd).1.length = (rgL b rs s).length ∧ (partR b rs s.lo s.hi s.bd).2 = 0 := by
  rw [rgL_part (cuE_ri h)]
  exact ⟨rfl, rfl⟩
set_option maxRecDepth 100000 in
set_option maxHeartbeats 8000000 in
theorem lTu' (b : List entT.El) (rs : List runT.El) (lo hi : ByteArray) (bd so : Bool) (key : ByteArray) (af : Bool) : bodyA lTu_C (callN lTu_C lTu_N) Try.f5 [.agg [.lst entT b, .lst runT rs], .agg [.str lo, .str hi, .bool bd, .bool so, .str key, .bool af]] [] (fun v _ => v = .bool true) := by
  by_cases hc : cuE b rs ⟨lo, hi, bd, so, key, af⟩ = 0
  · have hle := at_le b rs ⟨lo, hi, bd, so, key, af⟩
    have hll := rgL_len (s := ⟨lo, hi, bd, so, key, af⟩) (cuE_ri hc)
    obtain ⟨c1, c2⟩ := cnt_at hc
    have c1 : (partR b rs lo hi bd).1.length = (rgL b rs ⟨lo, hi, bd, so, key, af⟩).length := c1
    have c2 : (partR b rs lo hi bd).2 = 0 := c2
    have hl := left_at hc
    have l1 : (leftR b rs ⟨lo, hi, bd, so, key, af⟩).a = at' b rs ⟨lo, hi, bd, so, key, af⟩ := by rw [hl]
    have l2 : (leftR b rs ⟨lo, hi, bd, so, key, af⟩).b = (rgL b rs ⟨lo, hi, bd, so, key, af⟩).length - at' b rs ⟨lo, hi, bd, so, key, af⟩ := by rw [hl]
    have l3 : (leftR b rs ⟨lo, hi, bd, so, key, af⟩).e = 0 := by rw [hl]
    have fw := turn_fw hc
    have bw := turn_bw hc
    have k1 : (!(((mvR b rs ⟨lo, hi, bd, so, key, af⟩ true).e == 0) == decide (0 < ((leftR b rs ⟨lo, hi, bd, so, key, af⟩).b : Int)))) = false := by
      rcases fw with ⟨f1, f2⟩ | ⟨f1, f2⟩
      · rw [beq_eq_false_iff_ne.2 f1, f2]; rfl
      · rw [f2.e, decide_eq_true (by omega)]; rfl
    have k2 : (!(((mvR b rs ⟨lo, hi, bd, so, key, af⟩ false).e == 0) == decide (0 < ((leftR b rs ⟨lo, hi, bd, so, key, af⟩).a : Int)))) = false := by
      rcases bw with ⟨f1, f2⟩ | ⟨f1, f2⟩
      · rw [beq_eq_false_iff_ne.2 f1, f2]; rfl
      · rw [f2.e, decide_eq_true (by omega)]; rfl
    rcases fw with ⟨f1, f2⟩ | ⟨f1, ⟨f2, f3, f4, f5, f6, f7, f8⟩⟩ <;> rcases bw with ⟨g1, g2⟩ | ⟨g1, ⟨g2, g3, g4, g5, g6, g7, g8⟩⟩
    all_goals
      try have f6 : (mvR b rs ⟨(mvR b rs ⟨lo, hi, bd, so, key, af⟩ true).s.lo, (mvR b rs ⟨lo, hi, bd, so, key, af⟩ true).s.hi, (mvR b rs ⟨lo, hi, bd, so, key, af⟩ true).s.bd, (mvR b rs ⟨lo, hi, bd, so, key, af⟩ true).s.so, (mvR b rs ⟨lo, hi, bd, so, key, af⟩ true).s.key, (mvR b rs ⟨lo, hi, bd, so, key, af⟩ true).s.af⟩ false).e = 0 := f6
      try have f9 : (!eqT pairT (mvR b rs ⟨(mvR b rs ⟨lo, hi, bd, so, key, af⟩ true).s.lo, (mvR b rs ⟨lo, hi, bd, so, key, af⟩ true).s.hi, (mvR b rs ⟨lo, hi, bd, so, key, af⟩ true).s.bd, (mvR b rs ⟨lo, hi, bd, so, key, af⟩ true).s.so, (mvR b rs ⟨lo, hi, bd, so, key, af⟩ true).s.key, (mvR b rs ⟨lo, hi, bd, so, key, af⟩ true).s.af⟩ false).p (mvR b rs ⟨lo, hi, bd, so, key, af⟩ true).p) = false := congrArg (!·) ((congrArg (fun p => eqT pairT p (mvR b rs ⟨lo, hi, bd, so, key, af⟩ true).p) f7).trans (eqP_refl _))
      try have g6 : (mvR b rs ⟨(mvR b rs ⟨lo, hi, bd, so, key, af⟩ false).s.lo, (mvR b rs ⟨lo, hi, bd, so, key, af⟩ false).s.hi, (mvR b rs ⟨lo, hi, bd, so, key, af⟩ false).s.bd, (mvR b rs ⟨lo, hi, bd, so, key, af⟩ false).s.so, (mvR b rs ⟨lo, hi, bd, so, key, af⟩ false).s.key, (mvR b rs ⟨lo, hi, bd, so, key, af⟩ false).s.af⟩ true).e = 0 := g6
      try have g9 : (!eqT pairT (mvR b rs ⟨(mvR b rs ⟨lo, hi, bd, so, key, af⟩ false).s.lo, (mvR b rs ⟨lo, hi, bd, so, key, af⟩ false).s.hi, (mvR b rs ⟨lo, hi, bd, so, key, af⟩ false).s.bd, (mvR b rs ⟨lo, hi, bd, so, key, af⟩ false).s.so, (mvR b rs ⟨lo, hi, bd, so, key, af⟩ false).s.key, (mvR b rs ⟨lo, hi, bd, so, key, af⟩ false).s.af⟩ true).p (mvR b rs ⟨lo, hi, bd, so, key, af⟩ false).p) = false := congrArg (!·) ((congrArg (fun p => eqT pairT p (mvR b rs ⟨lo, hi, bd, so, key, af⟩ false).p) g7).trans (eqP_refl _))
      conv => whnf
      repeat' first
        | (refine idx_kn (by assumption) ?_; conv => whnf)
        | (refine idx_ki (by assumption) (by omega) ?_; conv => whnf)
        | (refine br_true (by first | with_reducible exact rfl | assumption | decide) ?_; conv => whnf)
        | (refine br_false (by first | with_reducible exact rfl | assumption | decide) ?_; conv => whnf)
        | ((with_reducible refine br_kt (by assumption) ?_); conv => whnf)
        | ((with_reducible refine br_kf (by assumption) ?_); conv => whnf)
        | ((with_reducible refine br_nt (by assumption) ?_); conv => whnf)
        | ((with_reducible refine br_nf (by assumption) ?_); conv => whnf)
        | ((with_reducible refine br_et (by assumption) ?_); conv => whnf)
        | ((with_reducible refine br_ef (by assumption) ?_); conv => whnf)
        | ((with_reducible refine br_dec (fun h => ?_) (fun h => ?_)) <;> first | (exfalso; omega) | conv => whnf)
        | ((with_reducible refine br_ndec (fun h => ?_) (fun h => ?_)) <;> first | (exfalso; omega) | conv => whnf)
        | ((with_reducible refine br_ne (fun h => ?_) (fun h => ?_)) <;> first | (exfalso; omega) | conv => whnf)
        | ((with_reducible refine br_eq (fun h => ?_) (fun h => ?_)) <;> first | (exfalso; omega) | conv => whnf)
        | (refine br_intro (fun h => ?_) (fun h => ?_) <;> conv => whnf)
        | (refine need_in (by first | exact trivial | assumption | exact ⟨rfl, Nat.le_refl _⟩ | exact ⟨rfl, rfl⟩ | (simp only [inR]; omega) | omega | (simp only [roomP, true_and, and_true, List.length_take, List.length_drop, List.length_append, List.length_cons, List.length_nil, List.length_set, List.length_replicate]; omega) | (refine ⟨by first | exact trivial | rfl, by first | exact Nat.le_refl _ | omega | (simp; omega), ?_⟩; change roomP _ _ 1; simp only [roomP]; omega) | (change roomP _ _ 1; simp only [roomP]; omega) | (simp; omega) | (simp [inR]; omega) | (simp [inR]; done) | decide | (simp; done)) ?_; conv => whnf)
        | (refine idx_nat (by omega) (fun x hx => ?_); conv => whnf)
        | (refine frz_auto ?_; conv => whnf)
        | (refine draw_plain ?_; conv => whnf)
        | (refine idx_intro (by omega) (by omega) (fun x hx => ?_); conv => whnf)
        | (refine idx_intro (by first | omega | (simp; omega) | (simp; done)) (by first | omega | (simp; omega) | (simp; done)) (fun x hx => ?_); conv => whnf)
        | fail
  · conv => whnf
    repeat' first
      | (refine idx_kn (by assumption) ?_; conv => whnf)
      | (refine idx_ki (by assumption) (by omega) ?_; conv => whnf)
      | (refine br_true (by first | with_reducible exact rfl | assumption | decide) ?_; conv => whnf)
      | (refine br_false (by first | with_reducible exact rfl | assumption | decide) ?_; conv => whnf)
      | ((with_reducible refine br_kt (by assumption) ?_); conv => whnf)
      | ((with_reducible refine br_kf (by assumption) ?_); conv => whnf)
      | ((with_reducible refine br_nt (by assumption) ?_); conv => whnf)
      | ((with_reducible refine br_nf (by assumption) ?_); conv => whnf)
      | ((with_reducible refine br_et (by assumption) ?_); conv => whnf)
      | ((with_reducible refine br_ef (by assumption) ?_); conv => whnf)
      | ((with_reducible refine br_dec (fun h => ?_) (fun h => ?_)) <;> first | (exfalso; omega) | conv => whnf)
      | ((with_reducible refine br_ndec (fun h => ?_) (fun h => ?_)) <;> first | (exfalso; omega) | conv => whnf)
      | ((with_reducible refine br_ne (fun h => ?_) (fun h => ?_)) <;> first | (exfalso; omega) | conv => whnf)
      | ((with_reducible refine br_eq (fun h => ?_) (fun h => ?_)) <;> first | (exfalso; omega) | conv => whnf)
      | (refine br_intro (fun h => ?_) (fun h => ?_) <;> conv => whnf)
      | (refine need_in (by first | exact trivial | assumption | exact ⟨rfl, Nat.le_refl _⟩ | exact ⟨rfl, rfl⟩ | (simp only [inR]; omega) | omega | (simp only [roomP, true_and, and_true, List.length_take, List.length_drop, List.length_append, List.length_cons, List.length_nil, List.length_set, List.length_replicate]; omega) | (refine ⟨by first | exact trivial | rfl, by first | exact Nat.le_refl _ | omega | (simp; omega), ?_⟩; change roomP _ _ 1; simp only [roomP]; omega) | (change roomP _ _ 1; simp only [roomP]; omega) | (simp; omega) | (simp [inR]; omega) | (simp [inR]; done) | decide | (simp; done)) ?_; conv => whnf)
      | (refine idx_nat (by omega) (fun x hx => ?_); conv => whnf)
      | (refine frz_auto ?_; conv => whnf)
      | (refine draw_plain ?_; conv => whnf)
      | (refine idx_intro (by omega) (by omega) (fun x hx => ?_); conv => whnf)
      | (refine idx_intro (by first | omega | (simp; omega) | (simp; done)) (by first | omega | (simp; omega) | (simp; done)) (fun x hx => ?_); conv => whnf)
      | fail
theorem lTu : ∀ es : Ty.Els lTu_T, tyOks lTu_T es → bodyA lTu_C (callN lTu_C lTu_N) Try.f5 (avTs lTu_T es) [] (fun v _ => v = .bool true) := by
  rintro ⟨⟨b, rs, _⟩, ⟨⟨lo, hi, bd, _⟩, so, key, af, _⟩, _⟩ _
  exact lTu' b rs lo hi bd so key af
end Go.Proofs.Ytfknchngldknnaa
