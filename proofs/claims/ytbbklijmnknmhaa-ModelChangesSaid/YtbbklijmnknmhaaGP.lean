/-
  Differences by key; equal lists: plain Lean.
  Writes that are more than is looked at; the laws of maps, of finds, of differences.
  The law of changes.
  From a law's contract to its row: every argument reads behind the call as it read before.
-/
import Derived.Test.YtbbklijmnknmhaaYc
import Derived.Test.YtbbklijmnknmhaaYi
import Derived.Test.YtbbklijmnknmhaaUe
import Derived.Test.YtbbklijmnknmhaaRows
import Derived.Test.YtbbklijmnknmhaaE5
import Derived.ProofKit
namespace Go.Proofs.Ytbbklijmnknmhaa
open Av Bk

theorem eqP_refl (x : pairT.El) : eqT pairT x x = true := by
  show (sEq x.1 x.1 && sEq x.2.1 x.2.1) = true
  rw [sEq_refl, sEq_refl]
  rfl
theorem sameP_refl : ∀ l : List pairT.El, sameL pairT l l = true
  | [] => rfl
  | x :: l => by
    rw [sameL, sameP_refl l, eqP_refl]
    rfl
theorem eqP_eq {x y : pairT.El} (h : eqT pairT x y = true) : x = y := by
  have h : (sEq x.1 y.1 && sEq x.2.1 y.2.1) = true := h
  rw [Bool.and_eq_true] at h
  obtain ⟨k, v, u⟩ := x
  obtain ⟨k', v', u'⟩ := y
  rw [show k = k' from sEq_iff.1 h.1, show v = v' from sEq_iff.1 h.2]
theorem sameP_iff : ∀ {a b : List pairT.El}, sameL pairT a b = true ↔ a = b
  | [], [] => by simp [sameL]
  | [], _ :: _ => by simp [sameL]
  | _ :: _, [] => by simp [sameL]
  | x :: a, y :: b => by
    rw [sameL, Bool.and_eq_true, sameP_iff (a := a) (b := b), List.cons.injEq]
    exact ⟨fun h => ⟨eqP_eq h.1, h.2⟩, fun h => ⟨by rw [h.1]; exact eqP_refl y, h.2⟩⟩

/-! ### Lists that ascend -/
/-- The items of a key. -/
abbrev atK (l : List itemT.El) (k : ByteArray) : List itemT.El := l.filter (fun x => sEq x.2.1 k)
/-! ### Differences by key -/
theorem diff_lb : ∀ {X Y : List pairT.El} {k : ByteArray}, (∀ p ∈ X, sLt k p.1 = true) → (∀ p ∈ Y, sLt k p.1 = true) → ∀ z ∈ diffL X Y, sLt k z.2.1 = true
  | [], Y, k, _, hY => by
    intro z hz
    obtain ⟨y, hy, rfl⟩ := List.mem_map.1 (show z ∈ Y.map newI from hz)
    exact hY y hy
  | x :: X, Y, k, hX, hY => by
    have hx := hX x List.mem_cons_self
    have hX2 : ∀ p ∈ X, sLt k p.1 = true := fun p hp => hX p (List.mem_cons_of_mem _ hp)
    induction Y with
    | nil =>
      intro z hz
      rw [diffL_cons_nil] at hz
      rcases List.mem_cons.1 hz with rfl | hz
      · exact hx
      · exact diff_lb hX2 (by simp) z hz
    | cons y Y ih =>
      have hy := hY y List.mem_cons_self
      have hY2 : ∀ p ∈ Y, sLt k p.1 = true := fun p hp => hY p (List.mem_cons_of_mem _ hp)
      intro z hz
      by_cases h1 : sLt x.1 y.1 = true
      · rw [diffL_lt _ _ h1] at hz
        rcases List.mem_cons.1 hz with rfl | hz
        · exact hx
        · exact diff_lb hX2 hY z hz
      · have h1 : sLt x.1 y.1 = false := by simpa using h1
        by_cases h2 : sLt y.1 x.1 = true
        · rw [diffL_gt _ _ h2] at hz
          rcases List.mem_cons.1 hz with rfl | hz
          · exact hy
          · exact ih hY2 z hz
        · have h2 : sLt y.1 x.1 = false := by simpa using h2
          by_cases h3 : sEq x.2.1 y.2.1 = true
          · rw [diffL_eq _ _ h1 h2 h3] at hz
            exact diff_lb hX2 hY2 z hz
          · have h3 : sEq x.2.1 y.2.1 = false := by simpa using h3
            rw [diffL_ne _ _ h1 h2 h3] at hz
            rcases List.mem_cons.1 hz with rfl | hz
            · exact hx
            · exact diff_lb hX2 hY2 z hz
theorem lk_gt {m : List pairT.El} {k : ByteArray} (h : ∀ p ∈ m, sLt k p.1 = true) : lkV m k = none := lkV_none.2 (fun p hp => (sLt_ne (h p hp)).symm)
theorem at_cons (x : itemT.El) (l : List itemT.El) (k : ByteArray) : atK (x :: l) k = if x.2.1 = k then x :: atK l k else atK l k := by
  by_cases h : x.2.1 = k
  · rw [if_pos h]
    exact List.filter_cons_of_pos (by rw [sEq_iff]; exact h)
  · rw [if_neg h]
    exact List.filter_cons_of_neg (by rw [sEq_iff]; exact h)
/-- Differences ascend; of each key there is what both tables say. -/
theorem diff_spec : ∀ {X Y : List pairT.El}, ascP X → ascP Y → ascK itK (diffL X Y) ∧ ∀ k, atK (diffL X Y) k = dfI k (lkV X k) (lkV Y k)
  | [], Y, _, hY => by
    induction Y with
    | nil => exact ⟨List.Pairwise.nil, fun k => rfl⟩
    | cons y Y ih =>
      obtain ⟨hy, hY2⟩ := List.pairwise_cons.1 hY
      obtain ⟨h1, h2⟩ := ih hY2
      rw [diffL_nil_cons]
      refine ⟨List.pairwise_cons.2 ⟨fun z hz => diff_lb (by simp) hy z hz, h1⟩, fun k => ?_⟩
      rw [at_cons, h2, lkV_cons]
      by_cases hk : y.1 = k
      · rw [if_pos (show (newI y).2.1 = k from hk), if_pos hk, lk_gt (m := Y) (fun p hp => by rw [← hk]; exact hy p hp)]
        subst hk
        rfl
      · rw [if_neg (show ¬ (newI y).2.1 = k from hk), if_neg hk]
  | x :: X, Y, hX, hY => by
    obtain ⟨hx, hX2⟩ := List.pairwise_cons.1 hX
    induction Y with
    | nil =>
      obtain ⟨h1, h2⟩ := diff_spec hX2 (Y := []) List.Pairwise.nil
      rw [diffL_cons_nil]
      refine ⟨List.pairwise_cons.2 ⟨fun z hz => diff_lb hx (by simp) z hz, h1⟩, fun k => ?_⟩
      rw [at_cons, h2, lkV_cons]
      by_cases hk : x.1 = k
      · rw [if_pos (show (goneI x).2.1 = k from hk), if_pos hk, lk_gt (m := X) (fun p hp => by rw [← hk]; exact hx p hp)]
        subst hk
        rfl
      · rw [if_neg (show ¬ (goneI x).2.1 = k from hk), if_neg hk]
    | cons y Y ih =>
      obtain ⟨hy, hY2⟩ := List.pairwise_cons.1 hY
      by_cases c1 : sLt x.1 y.1 = true
      · obtain ⟨h1, h2⟩ := diff_spec hX2 hY
        have hxY : ∀ p ∈ y :: Y, sLt x.1 p.1 = true := fun p hp => by
          rcases List.mem_cons.1 hp with rfl | hp
          · exact c1
          · exact sLt_trans c1 (hy p hp)
        rw [diffL_lt _ _ c1]
        refine ⟨List.pairwise_cons.2 ⟨fun z hz => diff_lb hx hxY z hz, h1⟩, fun k => ?_⟩
        rw [at_cons, h2, lkV_cons x X]
        by_cases hk : x.1 = k
        · rw [if_pos (show (goneI x).2.1 = k from hk), if_pos hk, lk_gt (m := X) (fun p hp => by rw [← hk]; exact hx p hp), lk_gt (m := y :: Y) (fun p hp => by rw [← hk]; exact hxY p hp)]
          subst hk
          rfl
        · rw [if_neg (show ¬ (goneI x).2.1 = k from hk), if_neg hk]
      · have c1 : sLt x.1 y.1 = false := by simpa using c1
        by_cases c2 : sLt y.1 x.1 = true
        · obtain ⟨h1, h2⟩ := ih hY2
          have hyX : ∀ p ∈ x :: X, sLt y.1 p.1 = true := fun p hp => by
            rcases List.mem_cons.1 hp with rfl | hp
            · exact c2
            · exact sLt_trans c2 (hx p hp)
          rw [diffL_gt _ _ c2]
          refine ⟨List.pairwise_cons.2 ⟨fun z hz => diff_lb hyX hy z hz, h1⟩, fun k => ?_⟩
          rw [at_cons, h2, lkV_cons y Y]
          by_cases hk : y.1 = k
          · rw [if_pos (show (newI y).2.1 = k from hk), if_pos hk, lk_gt (m := Y) (fun p hp => by rw [← hk]; exact hy p hp), lk_gt (m := x :: X) (fun p hp => by rw [← hk]; exact hyX p hp)]
            subst hk
            rfl
          · rw [if_neg (show ¬ (newI y).2.1 = k from hk), if_neg hk]
        · have c2 : sLt y.1 x.1 = false := by simpa using c2
          have hxy : x.1 = y.1 := sLt_ext c1 c2
          obtain ⟨h1, h2⟩ := diff_spec hX2 hY2
          have hyx : ∀ p ∈ Y, sLt x.1 p.1 = true := fun p hp => by rw [hxy]; exact hy p hp
          by_cases c3 : sEq x.2.1 y.2.1 = true
          · rw [diffL_eq _ _ c1 c2 c3]
            refine ⟨h1, fun k => ?_⟩
            rw [h2, lkV_cons, lkV_cons]
            by_cases hk : x.1 = k
            · rw [if_pos hk, if_pos (hxy.symm.trans hk), lk_gt (m := X) (fun p hp => by rw [← hk]; exact hx p hp), lk_gt (m := Y) (fun p hp => by rw [← hk]; exact hyx p hp), sEq_iff.1 c3]
              unfold dfI
              rw [if_pos rfl, if_pos rfl]
            · rw [if_neg hk, if_neg (fun e => hk (hxy.trans e))]
          · have c3 : sEq x.2.1 y.2.1 = false := by simpa using c3
            rw [diffL_ne _ _ c1 c2 c3]
            refine ⟨List.pairwise_cons.2 ⟨fun z hz => diff_lb hx hyx z hz, h1⟩, fun k => ?_⟩
            rw [at_cons, h2, lkV_cons, lkV_cons]
            by_cases hk : x.1 = k
            · rw [if_pos (show (otherI x y).2.1 = k from hk), if_pos hk, if_pos (hxy.symm.trans hk), lk_gt (m := X) (fun p hp => by rw [← hk]; exact hx p hp), lk_gt (m := Y) (fun p hp => by rw [← hk]; exact hyx p hp)]
              subst hk
              have hne := sEq_no.1 c3
              unfold dfI
              rw [if_pos rfl, if_neg (by simpa using hne)]
              rfl
            · rw [if_neg (show ¬ (otherI x y).2.1 = k from hk), if_neg hk, if_neg (fun e => hk (hxy.trans e))]

theorem prE_zero {p : pairT.El} (h1 : (p.1.size : Int) ≤ 32) (h2 : (p.2.1.size : Int) ≤ 64) : prE p = 0 := by
  unfold prE
  exact if_neg (by omega)
theorem mcL_good {l : List pairT.El} (hl : l.length ≤ 4000) (h : ∀ p ∈ l, prE p = 0) (ha : ascP l) : mcL l = (0, 0) := by
  unfold mcL
  rw [if_neg (by omega)]
  exact ckGo_good h ha (fun x _ => rfl)
theorem diff_mem {X Y : List pairT.El} (hX : ascP X) (hY : ascP Y) {x : itemT.El} (h : x ∈ diffL X Y) : x ∈ dfI x.2.1 (lkV X x.2.1) (lkV Y x.2.1) := by
  rw [← (diff_spec hX hY).2]
  exact List.mem_filter.2 ⟨h, by rw [sEq_iff]⟩
theorem dfI_eq {k : ByteArray} {a b : Option ByteArray} {x : itemT.El} (h : x ∈ dfI k a b) : a ≠ b ∧ x = mkI (if a = none then 1 else if b = none then 2 else 3) k (a.getD ⟨#[]⟩) (b.getD ⟨#[]⟩) ∧ bfO x = a ∧ afO x = b := by
  unfold dfI at h
  split at h
  · cases h
  · rename_i hne
    have hx := List.mem_singleton.1 h
    refine ⟨hne, hx, ?_⟩
    subst hx
    cases a with
    | none =>
      cases b with
      | none => exact absurd rfl hne
      | some w => exact ⟨bf_1, af_1⟩
    | some v =>
      cases b with
      | none => exact ⟨bf_2, af_2⟩
      | some w => exact ⟨bf_3, af_3⟩
theorem diff_self {X : List pairT.El} (hX : ascP X) : diffL X X = [] := by
  cases h : diffL X X with
  | nil => rfl
  | cons x l =>
    have := (dfI_eq (diff_mem hX hX (x := x) (by rw [h]; exact List.mem_cons_self))).1
    exact absurd rfl this
theorem diff_nil {X Y : List pairT.El} (hX : ascP X) (hY : ascP Y) : diffL X Y = [] ↔ X = Y := by
  constructor
  · intro h
    refine tab_ext hX hY (fun k => ?_)
    have h1 := (diff_spec hX hY).2 k
    rw [h] at h1
    unfold dfI at h1
    split at h1
    · assumption
    · cases h1
  · rintro rfl
    exact diff_self hX
theorem itE_good {k : Int} {a b c : ByteArray} (hk : 1 ≤ k ∧ k ≤ 3) (h1 : (a.size : Int) ≤ 32) (h2 : (b.size : Int) ≤ 64) (h3 : (c.size : Int) ≤ 64) (h4 : k = 1 → b = ⟨#[]⟩) (h5 : k = 2 → c = ⟨#[]⟩) (h6 : k = 3 → b ≠ c) : itE (mkI k a b c) = 0 := by
  have e1 : ¬ (k < 1 ∨ 3 < k) := by omega
  have e2 : ¬ (32 < (a.size : Int) ∨ 64 < (b.size : Int) ∨ 64 < (c.size : Int)) := by omega
  have e3 : ¬ ((k = 1 ∧ sEq b ⟨#[]⟩ = false) ∨ (k = 2 ∧ sEq c ⟨#[]⟩ = false) ∨ (k = 3 ∧ sEq b c = true)) := by
    rintro (⟨h, e⟩ | ⟨h, e⟩ | ⟨h, e⟩)
    · exact sEq_no.1 e (h4 h)
    · exact sEq_no.1 e (h5 h)
    · exact h6 h (sEq_iff.1 e)
  have : itE (mkI k a b c) = if k < 1 ∨ 3 < k then 6 else if 32 < (a.size : Int) ∨ 64 < (b.size : Int) ∨ 64 < (c.size : Int) then 3 else if (k = 1 ∧ sEq b ⟨#[]⟩ = false) ∨ (k = 2 ∧ sEq c ⟨#[]⟩ = false) ∨ (k = 3 ∧ sEq b c = true) then 6 else 0 := rfl
  rw [this, if_neg e1, if_neg e2, if_neg e3]
theorem lk_sz {X : List pairT.El} (h : ∀ p ∈ X, prE p = 0) {k v : ByteArray} (hv : lkV X k = some v) : (k.size : Int) ≤ 32 ∧ (v.size : Int) ≤ 64 := by
  have := h _ (lkV_in hv)
  by_cases h1 : 32 < (k.size : Int) ∨ 64 < (v.size : Int)
  · have h2 : prE (mkP k v) = 3 := if_pos h1
    rw [h2] at this
    exact absurd this (by decide)
  · omega
theorem diff_good {X Y : List pairT.El} (hX : (mcL X).2 = 0) (hY : (mcL Y).2 = 0) : icL (diffL X Y) = (0, 0) := by
  obtain ⟨x1, x2, x3⟩ := mcL_zero hX
  obtain ⟨y1, y2, y3⟩ := mcL_zero hY
  have hl := diffL_len X Y
  unfold icL
  rw [if_neg (by omega)]
  refine ckGo_good (fun x hx => ?_) (diff_spec x3 y3).1 (fun x _ => rfl)
  obtain ⟨hne, he, _⟩ := dfI_eq (diff_mem x3 y3 hx)
  rw [he]
  cases ha : lkV X x.2.1 with
  | none =>
    cases hb : lkV Y x.2.1 with
    | none => rw [ha, hb] at hne; exact absurd rfl hne
    | some w =>
      obtain ⟨s1, s2⟩ := lk_sz y2 hb
      show itE (mkI 1 x.2.1 ⟨#[]⟩ w) = 0
      exact itE_good (by decide) s1 (by decide) s2 (fun _ => rfl) (fun e => absurd e (by decide)) (fun e => absurd e (by decide))
  | some v =>
    obtain ⟨s1, s2⟩ := lk_sz x2 ha
    cases hb : lkV Y x.2.1 with
    | none =>
      show itE (mkI 2 x.2.1 v ⟨#[]⟩) = 0
      exact itE_good (by decide) s1 s2 (by decide) (fun e => absurd e (by decide)) (fun _ => rfl) (fun e => absurd e (by decide))
    | some w =>
      obtain ⟨s3, s4⟩ := lk_sz y2 hb
      show itE (mkI 3 x.2.1 v w) = 0
      exact itE_good (by decide) s1 s2 s4 (fun e => absurd e (by decide)) (fun e => absurd e (by decide)) (fun _ e => hne (by rw [ha, hb]; exact congrArg some e))
theorem find_at {l : List itemT.El} {k : ByteArray} : l.find? (fun x => sEq x.2.1 k) = (atK l k).head? := by
  rw [List.head?_filter]
end Go.Proofs.Ytbbklijmnknmhaa
namespace Go.Proofs.Ytbbklijmnknmhaa
open Av Bk

def bigW (x : wrT.El) : Bool := decide (200 < (x.1.size : Int)) || decide (200 < (x.2.1.size : Int))
def wideW (l : List wrT.El) : Bool := if 12 < (l.length : Int) then true else l.any bigW
def spWd5 : DSpec
  | [.lst (.st [.str, .str, .bool]) l] => some (True, .bool (wideW l))
  | _ => none
set_option maxRecDepth 100000 in
theorem fnOk_wide5 : FnOk Try.prog 12 Try.f12 := ⟨by rfl, by kernel_rfl, by
  show okCode _ _ = true ∧ drawsOk _ = true
  exact ⟨by kernel_rfl, by kernel_rfl⟩⟩
set_option maxRecDepth 100000 in
set_option maxHeartbeats 4000000 in
theorem wide5_ok : SpecOk Try.prog 12 spWd5 := by
  refine spec_body (C := cx0) mixed tbOk SpecsOk.nil (callN_ok (C := cx0) mixed tbOk SpecsOk.nil FnsOk.nil 0) fnOk_wide5 ?_
  intro ys p r h hp
  unfold spWd5 at h
  split at h
  · rename_i l
    cases h
    by_cases ho : 12 < (l.length : Int)
    · have hF : wideW l = true := by unfold wideW; rw [if_pos ho]
      conv => whnf
      repeat' first
        | ((first | refine auIk ?_ | refine auIi ?_ | refine auT ?_ | refine auF ?_ | with_reducible first | refine auKt ?_ | refine auKf ?_ | refine auNt ?_ | refine auNf ?_ | refine auEt ?_ | refine auEf ?_); conv => whnf)
        | ((with_reducible first | refine br_dec (fun h => ?_) (fun h => ?_) | refine br_ndec (fun h => ?_) (fun h => ?_) | refine br_ne (fun h => ?_) (fun h => ?_) | refine br_eq (fun h => ?_) (fun h => ?_)) <;> first | (exfalso; omega) | conv => whnf)
        | (refine br_intro (fun h => ?_) (fun h => ?_) <;> conv => whnf)
        | ((first | refine auNd ?_ | refine idx_nat (by omega) (fun x hx => ?_) | refine frz_auto ?_ | refine draw_plain ?_ | refine auIx (fun x hx => ?_)); conv => whnf)
        | ((first | refine bx_idx ?_ | refine bx_intro (fun b hb => ?_)); conv => whnf)
      all_goals first | (rw [hF]; done) | (exfalso; omega) | skip
    · have hF : wideW l = l.any bigW := by unfold wideW; rw [if_neg ho]
      conv => whnf
      repeat' first
        | ((first | refine auIk ?_ | refine auIi ?_ | refine auT ?_ | refine auF ?_ | with_reducible first | refine auKt ?_ | refine auKf ?_ | refine auNt ?_ | refine auNf ?_ | refine auEt ?_ | refine auEf ?_); conv => whnf)
        | ((with_reducible first | refine br_dec (fun h => ?_) (fun h => ?_) | refine br_ndec (fun h => ?_) (fun h => ?_) | refine br_ne (fun h => ?_) (fun h => ?_) | refine br_eq (fun h => ?_) (fun h => ?_)) <;> first | (exfalso; omega) | conv => whnf)
        | (refine br_intro (fun h => ?_) (fun h => ?_) <;> conv => whnf)
        | ((first | refine auNd ?_ | refine idx_nat (by omega) (fun x hx => ?_) | refine frz_auto ?_ | refine draw_plain ?_ | refine auIx (fun x hx => ?_)); conv => whnf)
        | ((first | refine bx_idx ?_ | refine bx_intro (fun b hb => ?_)); conv => whnf)
      refine loop_inv [] [3] (fun vs h => ∃ i : Nat, vs = [.int .i64 (i : Int)] ∧ h = [] ∧ i ≤ l.length ∧ ∀ y ∈ l.take i, bigW y = false) (fun vs _ => match vs with | [.int _ k] => l.length - k.toNat | _ => 0) ?_
      conv => whnf
      refine ⟨⟨0, rfl, rfl, by omega, by simp⟩, ?_⟩
      rintro vs h' - ⟨i, rfl, rfl, hi, hall⟩
      by_cases hil : i < l.length
      · obtain ⟨x, hx⟩ : ∃ x, l[i]? = some x := ⟨_, List.getElem?_eq_getElem hil⟩
        conv => whnf
        repeat' first
          | ((first | refine auIk ?_ | refine auIi ?_ | refine auT ?_ | refine auF ?_ | with_reducible first | refine auKt ?_ | refine auKf ?_ | refine auNt ?_ | refine auNf ?_ | refine auEt ?_ | refine auEf ?_); conv => whnf)
          | ((with_reducible first | refine br_dec (fun h => ?_) (fun h => ?_) | refine br_ndec (fun h => ?_) (fun h => ?_) | refine br_ne (fun h => ?_) (fun h => ?_) | refine br_eq (fun h => ?_) (fun h => ?_)) <;> first | (exfalso; omega) | conv => whnf)
          | (refine br_intro (fun h => ?_) (fun h => ?_) <;> conv => whnf)
          | ((first | refine auNd ?_ | refine idx_nat (by omega) (fun x hx => ?_) | refine frz_auto ?_ | refine draw_plain ?_ | refine auIx (fun x hx => ?_)); conv => whnf)
          | ((first | refine bx_idx ?_ | refine bx_intro (fun b hb => ?_)); conv => whnf)
        all_goals first
          | (rw [hF, any_at hx (by clear hF hall; simp [bigW, *])]; done)
          | (refine back_intro (by conv => whnf) rfl ⟨i + 1, rfl, rfl, by omega, take_succ_all hall hx (by clear hF hall; simp [bigW]; omega)⟩ ?_
             show l.length - ((i : Int) + 1).toNat < l.length - (i : Int).toNat
             omega)
      · conv => whnf
        repeat' first
          | ((first | refine auIk ?_ | refine auIi ?_ | refine auT ?_ | refine auF ?_ | with_reducible first | refine auKt ?_ | refine auKf ?_ | refine auNt ?_ | refine auNf ?_ | refine auEt ?_ | refine auEf ?_); conv => whnf)
          | ((with_reducible first | refine br_dec (fun h => ?_) (fun h => ?_) | refine br_ndec (fun h => ?_) (fun h => ?_) | refine br_ne (fun h => ?_) (fun h => ?_) | refine br_eq (fun h => ?_) (fun h => ?_)) <;> first | (exfalso; omega) | conv => whnf)
          | (refine br_intro (fun h => ?_) (fun h => ?_) <;> conv => whnf)
          | ((first | refine auNd ?_ | refine idx_nat (by omega) (fun x hx => ?_) | refine frz_auto ?_ | refine draw_plain ?_ | refine auIx (fun x hx => ?_)); conv => whnf)
          | ((first | refine bx_idx ?_ | refine bx_intro (fun b hb => ?_)); conv => whnf)
        rw [hF, any_end hall (by omega)]
  · cases h
theorem wideW_len {l : List wrT.El} (h : wideW l = false) : l.length ≤ 12 := by
  unfold wideW at h
  split at h
  · cases h
  · omega
end Go.Proofs.Ytbbklijmnknmhaa
namespace Go.Proofs.Ytbbklijmnknmhaa
open Av Bk

theorem wE1_sz {w : wrT.El} (h : wE1 w = 0) : (w.1.size : Int) ≤ 32 ∧ (w.2.1.size : Int) ≤ 64 := by
  by_cases h1 : 32 < (w.1.size : Int) ∨ 64 < (w.2.1.size : Int)
  · rw [wE1_len h1] at h
    exact absurd h (by decide)
  · omega
theorem wr1_good {m : List pairT.El} {w : wrT.El} (hm : (mcL m).2 = 0) (hw : wE1 w = 0) (hl : m.length + 1 ≤ 4000) : (mcL (wr1 m w)).2 = 0 := by
  obtain ⟨m1, m2, m3⟩ := mcL_zero hm
  have h2 : (wr1 m w).length ≤ m.length + 1 := chT_len _ _
  have hg : mcL (wr1 m w) = (0, 0) := mcL_good (by omega) (fun p hp => ?_) (show ascP (chT _ _ _) from chT_asc m3 _ _)
  · rw [hg]
  have hp2 := chT_mem.1 hp
  by_cases hk : p.1 = w.1
  · rw [if_pos hk] at hp2
    have hs := wE1_sz hw
    have hv : w.2.1 = p.2.1 := by
      unfold wOf at hp2
      split at hp2
      · cases hp2
      · exact Option.some.inj hp2
    exact prE_zero (by rw [hk]; exact hs.1) (by rw [← hv]; exact hs.2)
  · rw [if_neg hk] at hp2
    exact m2 p hp2
theorem wr_one {m : List pairT.El} {w : wrT.El} (hm : (mcL m).2 = 0) (hw : wE1 w = 0) (hl : m.length + 1 ≤ 4000) : wrR m [w] = (wr1 m w, 0) := by
  have h2 : (wr1 m w).length ≤ m.length + 1 := chT_len _ _
  have h3 : wEL [w] = 0 := by
    unfold wEL
    rw [if_neg (by simp), if_neg (by simp)]
    unfold wEs
    rw [if_neg (by simp [hw])]
    rfl
  unfold wrR
  rw [if_neg (by simpa using hm), if_neg (by simpa using h3)]
  show (if 4000 < ((wr1 m w).length : Int) then _ else _) = _
  rw [if_neg (by omega)]
  rfl
theorem wE1_it {x : itemT.El} (h : itE x = 0) : wE1 (itW x) = 0 := by
  unfold itE at h
  split at h
  · exact absurd h (by decide)
  · split at h
    · exact absurd h (by decide)
    · rename_i h1 h2
      split at h
      · exact absurd h (by decide)
      · rename_i h3
        refine wE1_ok (w := itW x) ?_ ?_
        · show ¬ (32 < (x.2.1.size : Int) ∨ 64 < (x.2.2.2.1.size : Int))
          omega
        · show decide (x.1 = (2 : Int)) = false ∨ sEq x.2.2.2.1 ⟨#[]⟩ = true
          by_cases h4 : x.1 = (2 : Int)
          · right
            cases h5 : sEq x.2.2.2.1 ⟨#[]⟩ with
            | true => rfl
            | false => exact absurd (.inr (.inl ⟨h4, h5⟩)) h3
          · left
            simpa using h4
theorem diff_fold {X Y : List pairT.El} (hX : (mcL X).2 = 0) (hY : (mcL Y).2 = 0) : (diffL X Y).foldl chS X = Y := by
  obtain ⟨x1, x2, x3⟩ := mcL_zero hX
  obtain ⟨y1, y2, y3⟩ := mcL_zero hY
  have hsp := diff_spec x3 y3
  refine tab_ext (fold_asc x3) y3 (fun k => ?_)
  rw [fold_lk x3 hsp.1, find_at, hsp.2 k]
  by_cases h : lkV X k = lkV Y k
  · have : dfI k (lkV X k) (lkV Y k) = [] := if_pos h
    rw [this]
    exact h
  · have : dfI k (lkV X k) (lkV Y k) = [mkI (if lkV X k = none then 1 else if lkV Y k = none then 2 else 3) k ((lkV X k).getD ⟨#[]⟩) ((lkV Y k).getD ⟨#[]⟩)] := if_neg h
    have h2 := (dfI_eq (k := k) (a := lkV X k) (b := lkV Y k) (x := mkI (if lkV X k = none then 1 else if lkV Y k = none then 2 else 3) k ((lkV X k).getD ⟨#[]⟩) ((lkV Y k).getD ⟨#[]⟩)) (by rw [this]; exact List.mem_singleton.2 rfl)).2.2.2
    rw [this]
    exact h2
/-- A difference that is there: both maps are good. -/
theorem dfR_ok {a b : List pairT.El} (h : (dfR a b).2 = 0) : (mcL a).2 = 0 ∧ (mcL b).2 = 0 ∧ dfR a b = (diffL a b, 0) := by
  unfold dfR at h ⊢
  by_cases ha : (mcL a).2 = 0
  · by_cases hb : (mcL b).2 = 0
    · rw [if_neg (by simpa using ha), if_neg (by simpa using hb)]
      exact ⟨ha, hb, rfl⟩
    · rw [if_neg (by simpa using ha), if_pos hb] at h
      exact absurd h hb
  · rw [if_pos ha] at h
    exact absurd h ha
theorem wrR_no {m : List pairT.El} {l : List wrT.El} (h : (wrR m l).2 ≠ 0) : (wrR m l).1 = [] := by
  unfold wrR at h ⊢
  split
  · rfl
  · split
    · rfl
    · split
      · rfl
      · rename_i h1 h2 h3
        rw [if_neg h1, if_neg h2, if_neg h3] at h
        exact absurd rfl h
theorem wrR_ok {m : List pairT.El} {l : List wrT.El} (h : (wrR m l).2 = 0) : (mcL m).2 = 0 ∧ (∀ y ∈ l, wE1 y = 0) ∧ wrR m l = (l.foldl wr1 m, 0) := by
  unfold wrR at h ⊢
  by_cases h1 : (mcL m).2 = 0
  · rw [if_neg (by simpa using h1)] at h ⊢
    by_cases h2 : wEL l = 0
    · rw [if_neg (by simpa using h2)] at h ⊢
      split at h
      · exact absurd h (by decide)
      · rename_i h3
        rw [if_neg h3]
        refine ⟨h1, ?_, rfl⟩
        unfold wEL at h2
        split at h2
        · exact absurd h2 (by decide)
        · split at h2
          · exact absurd h2 (by decide)
          · exact wEs_zero h2
    · rw [if_pos h2] at h
      exact absurd h h2
  · rw [if_pos h1] at h
    exact absurd h h1
theorem fold_take {l : List itemT.El} {i : Nat} {x : itemT.El} {m : List pairT.El} (h : l[i]? = some x) : (l.take (i + 1)).foldl chS m = chS ((l.take i).foldl chS m) x := by
  rw [List.take_add_one, h, List.foldl_append]
  rfl
theorem cut_one {α : Type} {l : List α} {i : Nat} {w : α} (h : l[i]? = some w) : (l.drop (i : Int).toNat).take (((i : Int) + 1).toNat - (i : Int).toNat) = [w] := by
  have hi : i < l.length := by
    rcases Nat.lt_or_ge i l.length with h1 | h1
    · exact h1
    · rw [List.getElem?_eq_none h1] at h; cases h
  rw [show ((i : Int) + 1).toNat - (i : Int).toNat = 1 by omega, show (i : Int).toNat = i by omega, List.drop_eq_getElem_cons hi, List.take_succ_cons, List.take_zero]
  rw [List.getElem?_eq_getElem hi] at h
  rw [Option.some.inj h]
set_option maxRecDepth 100000 in
theorem fnOk_lCh : FnOk Try.prog 4 Try.f4 := ⟨by rfl, by kernel_rfl, by
  show okCode _ _ = true ∧ drawsOk _ = true
  exact ⟨by kernel_rfl, by kernel_rfl⟩⟩
noncomputable def lCh_C : Cx := ⟨tb, [], [(13, spAw5), (11, spFarM), (12, spWd5), (19, spDiff), (16, spWr), (18, spSameP)]⟩
theorem lCh_D : SpecsOk Try.prog lCh_C.specs := .cons awake5_ok (.cons farM_ok (.cons wide5_ok (.cons mDiff_ok (.cons mWrite_ok (.cons same05_ok .nil)))))
theorem lCh_F : FnsOk Try.prog lCh_C.fns := FnsOk.nil
abbrev lCh_N : Nat := 0
abbrev lCh_T : List Ty := [.sl pairT, .sl pairT, .sl wrT]
abbrev lCh_FN := fnOk_lCh
set_option maxRecDepth 100000 in
set_option maxHeartbeats 4000000 in
theorem lCh : ∀ es : Ty.Els lCh_T, tyOks lCh_T es → bodyA lCh_C (callN lCh_C lCh_N) Try.f4 (avTs lCh_T es) [] (fun v _ => v = .bool true) := by
  rintro ⟨a, b, l, _⟩ -
  show bodyA _ _ _ [.lst pairT a, .lst pairT b, .lst wrT l] [] _
  cases hA : farM a with
  | true =>
    conv => whnf
    repeat' first
      | ((first | refine auIk ?_ | refine auIi ?_ | refine auT ?_ | refine auF ?_ | with_reducible first | refine auKt ?_ | refine auKf ?_ | refine auNt ?_ | refine auNf ?_ | refine auEt ?_ | refine auEf ?_); conv => whnf)
      | ((with_reducible first | refine br_dec (fun h => ?_) (fun h => ?_) | refine br_ndec (fun h => ?_) (fun h => ?_) | refine br_ne (fun h => ?_) (fun h => ?_) | refine br_eq (fun h => ?_) (fun h => ?_)) <;> first | (exfalso; omega) | conv => whnf)
      | (refine br_intro (fun h => ?_) (fun h => ?_) <;> conv => whnf)
      | ((first | refine auNd ?_ | refine idx_nat (by omega) (fun x hx => ?_) | refine frz_auto ?_ | refine draw_plain ?_ | refine auIx (fun x hx => ?_)); conv => whnf)
      | ((first | refine bx_idx ?_ | refine bx_intro (fun b hb => ?_)); conv => whnf)
  | false =>
    cases hB : farM b with
    | true =>
      conv => whnf
      repeat' first
        | ((first | refine auIk ?_ | refine auIi ?_ | refine auT ?_ | refine auF ?_ | with_reducible first | refine auKt ?_ | refine auKf ?_ | refine auNt ?_ | refine auNf ?_ | refine auEt ?_ | refine auEf ?_); conv => whnf)
        | ((with_reducible first | refine br_dec (fun h => ?_) (fun h => ?_) | refine br_ndec (fun h => ?_) (fun h => ?_) | refine br_ne (fun h => ?_) (fun h => ?_) | refine br_eq (fun h => ?_) (fun h => ?_)) <;> first | (exfalso; omega) | conv => whnf)
        | (refine br_intro (fun h => ?_) (fun h => ?_) <;> conv => whnf)
        | ((first | refine auNd ?_ | refine idx_nat (by omega) (fun x hx => ?_) | refine frz_auto ?_ | refine draw_plain ?_ | refine auIx (fun x hx => ?_)); conv => whnf)
        | ((first | refine bx_idx ?_ | refine bx_intro (fun b hb => ?_)); conv => whnf)
    | false =>
      cases hW : wideW l with
      | true =>
        conv => whnf
        repeat' first
          | ((first | refine auIk ?_ | refine auIi ?_ | refine auT ?_ | refine auF ?_ | with_reducible first | refine auKt ?_ | refine auKf ?_ | refine auNt ?_ | refine auNf ?_ | refine auEt ?_ | refine auEf ?_); conv => whnf)
          | ((with_reducible first | refine br_dec (fun h => ?_) (fun h => ?_) | refine br_ndec (fun h => ?_) (fun h => ?_) | refine br_ne (fun h => ?_) (fun h => ?_) | refine br_eq (fun h => ?_) (fun h => ?_)) <;> first | (exfalso; omega) | conv => whnf)
          | (refine br_intro (fun h => ?_) (fun h => ?_) <;> conv => whnf)
          | ((first | refine auNd ?_ | refine idx_nat (by omega) (fun x hx => ?_) | refine frz_auto ?_ | refine draw_plain ?_ | refine auIx (fun x hx => ?_)); conv => whnf)
          | ((first | refine bx_idx ?_ | refine bx_intro (fun b hb => ?_)); conv => whnf)
      | false =>
        by_cases hal : 60 < (a.length : Int)
        · conv => whnf
          repeat' first
            | ((first | refine auIk ?_ | refine auIi ?_ | refine auT ?_ | refine auF ?_ | with_reducible first | refine auKt ?_ | refine auKf ?_ | refine auNt ?_ | refine auNf ?_ | refine auEt ?_ | refine auEf ?_); conv => whnf)
            | ((with_reducible first | refine br_dec (fun h => ?_) (fun h => ?_) | refine br_ndec (fun h => ?_) (fun h => ?_) | refine br_ne (fun h => ?_) (fun h => ?_) | refine br_eq (fun h => ?_) (fun h => ?_)) <;> first | (exfalso; omega) | conv => whnf)
            | (refine br_intro (fun h => ?_) (fun h => ?_) <;> conv => whnf)
            | ((first | refine auNd ?_ | refine idx_nat (by omega) (fun x hx => ?_) | refine frz_auto ?_ | refine draw_plain ?_ | refine auIx (fun x hx => ?_)); conv => whnf)
            | ((first | refine bx_idx ?_ | refine bx_intro (fun b hb => ?_)); conv => whnf)
        · by_cases hbl : 60 < (b.length : Int)
          · conv => whnf
            repeat' first
              | ((first | refine auIk ?_ | refine auIi ?_ | refine auT ?_ | refine auF ?_ | with_reducible first | refine auKt ?_ | refine auKf ?_ | refine auNt ?_ | refine auNf ?_ | refine auEt ?_ | refine auEf ?_); conv => whnf)
              | ((with_reducible first | refine br_dec (fun h => ?_) (fun h => ?_) | refine br_ndec (fun h => ?_) (fun h => ?_) | refine br_ne (fun h => ?_) (fun h => ?_) | refine br_eq (fun h => ?_) (fun h => ?_)) <;> first | (exfalso; omega) | conv => whnf)
              | (refine br_intro (fun h => ?_) (fun h => ?_) <;> conv => whnf)
              | ((first | refine auNd ?_ | refine idx_nat (by omega) (fun x hx => ?_) | refine frz_auto ?_ | refine draw_plain ?_ | refine auIx (fun x hx => ?_)); conv => whnf)
              | ((first | refine bx_idx ?_ | refine bx_intro (fun b hb => ?_)); conv => whnf)
          · have hl := wideW_len hW
            have hal2 : a.length ≤ 60 := by omega
            have hbl2 : b.length ≤ 60 := by omega
            have hal3 : a.length ≤ 4611686018427387904 := Nat.le_trans hal2 (by decide)
            have hbl3 : b.length ≤ 4611686018427387904 := Nat.le_trans hbl2 (by decide)
            have hl3 : l.length ≤ 4611686018427387904 := Nat.le_trans hl (by decide)
            by_cases he : (dfR a b).2 = 0
            · obtain ⟨ha, hb, hd⟩ := dfR_ok he
              have hdg := (icL_zero (l := diffL a b) (by rw [diff_good ha hb])).2.1
              have hdl : (diffL a b).length ≤ 120 := Nat.le_trans (diffL_len a b) (by omega)
              have hd1 : (dfR a b).1 = diffL a b := by rw [hd]
              have hfold := diff_fold ha hb
              have hnil := diff_nil (mcL_zero ha).2.2 (mcL_zero hb).2.2
              generalize diffL a b = d at hd hdg hdl hd1 hfold hnil
              have hlz : (!((d.length : Int) == 0) == sameL pairT a b) = false := by
                by_cases h : a = b
                · rw [sameP_iff.2 h, hnil.2 h]; rfl
                · have h1 : d ≠ [] := fun e => h (hnil.1 e)
                  have h2 : d.length ≠ 0 := by
                    intro e; exact h1 (List.length_eq_zero_iff.1 e)
                  have h3 : sameL pairT a b = false := by
                    cases h4 : sameL pairT a b with
                    | true => exact absurd (sameP_iff.1 h4) h
                    | false => rfl
                  have h5 : ((d.length : Int) == 0) = false := by
                    have h6 : (d.length : Int) ≠ 0 := by omega
                    simpa using h6
                  rw [h3, h5]; rfl
              have hsb := sameP_refl b
              conv => whnf
              repeat' first
                | ((first | refine auIk ?_ | refine auIi ?_ | refine auT ?_ | refine auF ?_ | with_reducible first | refine auKt ?_ | refine auKf ?_ | refine auNt ?_ | refine auNf ?_ | refine auEt ?_ | refine auEf ?_); conv => whnf)
                | ((with_reducible first | refine br_dec (fun h => ?_) (fun h => ?_) | refine br_ndec (fun h => ?_) (fun h => ?_) | refine br_ne (fun h => ?_) (fun h => ?_) | refine br_eq (fun h => ?_) (fun h => ?_)) <;> first | (exfalso; omega) | conv => whnf)
                | (refine br_intro (fun h => ?_) (fun h => ?_) <;> conv => whnf)
                | ((first | refine auNd ?_ | refine idx_nat (by omega) (fun x hx => ?_) | refine frz_auto ?_ | refine draw_plain ?_ | refine auIx (fun x hx => ?_)); conv => whnf)
                | ((first | refine bx_idx ?_ | refine bx_intro (fun b hb => ?_)); conv => whnf)
              rw [hd1]
              refine loop_inv [] [9, 10] (fun vs h => ∃ (i : Nat) (m : List pairT.El), vs = [.lst pairT m, .int .i64 (i : Int)] ∧ h = [] ∧ i ≤ d.length ∧ m = (d.take i).foldl chS a ∧ (mcL m).2 = 0 ∧ m.length ≤ 60 + i) (fun vs _ => match vs with | [_, .int _ k] => d.length - k.toNat | _ => 0) ?_
              conv => whnf
              refine ⟨⟨0, a, rfl, rfl, by omega, rfl, ha, by omega⟩, ?_⟩
              rintro vs h' - ⟨i, m, rfl, rfl, hi, hm, hmg, hml⟩
              by_cases hil : i < d.length
              · obtain ⟨x, hx⟩ : ∃ x, d[i]? = some x := ⟨_, List.getElem?_eq_getElem hil⟩
                have hxe := wE1_it (hdg x (List.mem_of_getElem? hx))
                have hw1 := wr_one hmg hxe (by omega)
                have hw2 := wr1_good hmg hxe (by omega)
                rw [itW_one] at hw1 hw2
                have hm2 := fold_take (m := a) hx
                rw [← hm] at hm2
                have hml2 : (chS m x).length ≤ m.length + 1 := chT_len _ _
                have hml3 : m.length ≤ 4611686018427387904 := Nat.le_trans (show m.length ≤ 180 by omega) (by decide)
                have hf : wrR m [(x.2.1, x.2.2.2.1, x.1 == (2 : Int), ())] = (chS m x, 0) := hw1
                have hf1 : (wrR m [(x.2.1, x.2.2.2.1, x.1 == (2 : Int), ())]).2 = 0 := by rw [hf]
                have hf2 : (wrR m [(x.2.1, x.2.2.2.1, x.1 == (2 : Int), ())]).1 = chS m x := by rw [hf]
                conv => whnf
                repeat' first
                  | ((first | refine auIk ?_ | refine auIi ?_ | refine auT ?_ | refine auF ?_ | with_reducible first | refine auKt ?_ | refine auKf ?_ | refine auNt ?_ | refine auNf ?_ | refine auEt ?_ | refine auEf ?_); conv => whnf)
                  | ((with_reducible first | refine br_dec (fun h => ?_) (fun h => ?_) | refine br_ndec (fun h => ?_) (fun h => ?_) | refine br_ne (fun h => ?_) (fun h => ?_) | refine br_eq (fun h => ?_) (fun h => ?_)) <;> first | (exfalso; omega) | conv => whnf)
                  | (refine br_intro (fun h => ?_) (fun h => ?_) <;> conv => whnf)
                  | ((first | refine auNd ?_ | refine idx_nat (by omega) (fun x hx => ?_) | refine frz_auto ?_ | refine draw_plain ?_ | refine auIx (fun x hx => ?_)); conv => whnf)
                  | ((first | refine bx_idx ?_ | refine bx_intro (fun b hb => ?_)); conv => whnf)
                refine back_intro (by conv => whnf) rfl ⟨i + 1, chS m x, congrArg (fun z => [AV.lst pairT z, AV.int .i64 ((i : Int) + 1)]) hf2, rfl, by omega, hm2.symm, hw2, by omega⟩ ?_
                show d.length - ((i : Int) + 1).toNat < d.length - (i : Int).toNat
                omega
              · have hmb : m = b := by rw [hm, List.take_of_length_le (by omega), hfold]
                have hsb : (!sameL pairT m b) = false := by rw [hmb, sameP_refl]; rfl
                have hml3 : m.length ≤ 4611686018427387904 := by rw [hmb]; exact hbl3
                by_cases hwz : (wrR a l).2 = 0
                · obtain ⟨hwa, hwe, hwr⟩ := wrR_ok hwz
                  have hw3 : (wrR a l).1 = l.foldl wr1 a := by rw [hwr]
                  have hfl := wr_len (l := l) (m := a)
                  have hfl3 : (l.foldl wr1 a).length ≤ 4611686018427387904 := Nat.le_trans (show (l.foldl wr1 a).length ≤ 72 by omega) (by decide)
                  clear hm hmg hml
                  conv => whnf
                  repeat' first
                    | ((first | refine auIk ?_ | refine auIi ?_ | refine auT ?_ | refine auF ?_ | with_reducible first | refine auKt ?_ | refine auKf ?_ | refine auNt ?_ | refine auNf ?_ | refine auEt ?_ | refine auEf ?_); conv => whnf)
                    | ((with_reducible first | refine br_dec (fun h => ?_) (fun h => ?_) | refine br_ndec (fun h => ?_) (fun h => ?_) | refine br_ne (fun h => ?_) (fun h => ?_) | refine br_eq (fun h => ?_) (fun h => ?_)) <;> first | (exfalso; omega) | conv => whnf)
                    | (refine br_intro (fun h => ?_) (fun h => ?_) <;> conv => whnf)
                    | ((first | refine auNd ?_ | refine idx_nat (by omega) (fun x hx => ?_) | refine frz_auto ?_ | refine draw_plain ?_ | refine auIx (fun x hx => ?_)); conv => whnf)
                    | ((first | refine bx_idx ?_ | refine bx_intro (fun b hb => ?_)); conv => whnf)
                  rw [hw3]
                  refine loop_inv [] [15, 16] (fun vs h => ∃ (i : Nat) (m : List pairT.El), vs = [.lst pairT m, .int .i64 (i : Int)] ∧ h = [] ∧ i ≤ l.length ∧ m = (l.take i).foldl wr1 a ∧ (mcL m).2 = 0 ∧ m.length ≤ 60 + i) (fun vs _ => match vs with | [_, .int _ k] => l.length - k.toNat | _ => 0) ?_
                  conv => whnf
                  refine ⟨⟨0, a, rfl, rfl, by omega, rfl, hwa, by omega⟩, ?_⟩
                  rintro vs h' - ⟨i, m, rfl, rfl, hi, hm, hmg, hml⟩
                  by_cases hil : i < l.length
                  · obtain ⟨x, hx⟩ : ∃ x, l[i]? = some x := ⟨_, List.getElem?_eq_getElem hil⟩
                    have hxe := hwe x (List.mem_of_getElem? hx)
                    have hw1 := wr_one hmg hxe (by omega)
                    have hw2 := wr1_good hmg hxe (by omega)
                    have hm2 := wr_take (m := a) hx
                    rw [← hm] at hm2
                    have hml2 : (wr1 m x).length ≤ m.length + 1 := chT_len _ _
                    have hml3 : m.length ≤ 4611686018427387904 := Nat.le_trans (show m.length ≤ 180 by omega) (by decide)
                    have hcut := cut_one hx
                    have hf1 : (wrR m ((l.drop (i : Int).toNat).take (((i : Int) + 1).toNat - (i : Int).toNat))).2 = 0 := by rw [hcut, hw1]
                    have hf2 : (wrR m ((l.drop (i : Int).toNat).take (((i : Int) + 1).toNat - (i : Int).toNat))).1 = wr1 m x := by rw [hcut, hw1]
                    conv => whnf
                    repeat' first
                      | ((first | refine auIk ?_ | refine auIi ?_ | refine auT ?_ | refine auF ?_ | with_reducible first | refine auKt ?_ | refine auKf ?_ | refine auNt ?_ | refine auNf ?_ | refine auEt ?_ | refine auEf ?_); conv => whnf)
                      | ((with_reducible first | refine br_dec (fun h => ?_) (fun h => ?_) | refine br_ndec (fun h => ?_) (fun h => ?_) | refine br_ne (fun h => ?_) (fun h => ?_) | refine br_eq (fun h => ?_) (fun h => ?_)) <;> first | (exfalso; omega) | conv => whnf)
                      | (refine br_intro (fun h => ?_) (fun h => ?_) <;> conv => whnf)
                      | ((first | refine auNd ?_ | refine idx_nat (by omega) (fun x hx => ?_) | refine frz_auto ?_ | refine draw_plain ?_ | refine auIx (fun x hx => ?_)); conv => whnf)
                      | ((first | refine bx_idx ?_ | refine bx_intro (fun b hb => ?_)); conv => whnf)
                    refine back_intro (by conv => whnf) rfl ⟨i + 1, wr1 m x, congrArg (fun z => [AV.lst pairT z, AV.int .i64 ((i : Int) + 1)]) hf2, rfl, by omega, hm2.symm, hw2, by omega⟩ ?_
                    show l.length - ((i : Int) + 1).toNat < l.length - (i : Int).toNat
                    omega
                  · obtain rfl : m = l.foldl wr1 a := by rw [hm, List.take_of_length_le (by omega)]
                    have hsw := sameP_refl (l.foldl wr1 a)
                    conv => whnf
                    repeat' first
                      | ((first | refine auIk ?_ | refine auIi ?_ | refine auT ?_ | refine auF ?_ | with_reducible first | refine auKt ?_ | refine auKf ?_ | refine auNt ?_ | refine auNf ?_ | refine auEt ?_ | refine auEf ?_); conv => whnf)
                      | ((with_reducible first | refine br_dec (fun h => ?_) (fun h => ?_) | refine br_ndec (fun h => ?_) (fun h => ?_) | refine br_ne (fun h => ?_) (fun h => ?_) | refine br_eq (fun h => ?_) (fun h => ?_)) <;> first | (exfalso; omega) | conv => whnf)
                      | (refine br_intro (fun h => ?_) (fun h => ?_) <;> conv => whnf)
                      | ((first | refine auNd ?_ | refine idx_nat (by omega) (fun x hx => ?_) | refine frz_auto ?_ | refine draw_plain ?_ | refine auIx (fun x hx => ?_)); conv => whnf)
                      | ((first | refine bx_idx ?_ | refine bx_intro (fun b hb => ?_)); conv => whnf)
                · have hw3 : ((wrR a l).1.length : Int) = 0 := by rw [wrR_no hwz]; rfl
                  conv => whnf
                  repeat' first
                    | ((first | refine auIk ?_ | refine auIi ?_ | refine auT ?_ | refine auF ?_ | with_reducible first | refine auKt ?_ | refine auKf ?_ | refine auNt ?_ | refine auNf ?_ | refine auEt ?_ | refine auEf ?_); conv => whnf)
                    | ((with_reducible first | refine br_dec (fun h => ?_) (fun h => ?_) | refine br_ndec (fun h => ?_) (fun h => ?_) | refine br_ne (fun h => ?_) (fun h => ?_) | refine br_eq (fun h => ?_) (fun h => ?_)) <;> first | (exfalso; omega) | conv => whnf)
                    | (refine br_intro (fun h => ?_) (fun h => ?_) <;> conv => whnf)
                    | ((first | refine auNd ?_ | refine idx_nat (by omega) (fun x hx => ?_) | refine frz_auto ?_ | refine draw_plain ?_ | refine auIx (fun x hx => ?_)); conv => whnf)
                    | ((first | refine bx_idx ?_ | refine bx_intro (fun b hb => ?_)); conv => whnf)
            · by_cases hwz : (wrR a l).2 = 0
              · obtain ⟨hwa, hwe, hwr⟩ := wrR_ok hwz
                have hw3 : (wrR a l).1 = l.foldl wr1 a := by rw [hwr]
                have hfl := wr_len (l := l) (m := a)
                have hfl3 : (l.foldl wr1 a).length ≤ 4611686018427387904 := Nat.le_trans (show (l.foldl wr1 a).length ≤ 72 by omega) (by decide)
                conv => whnf
                repeat' first
                  | ((first | refine auIk ?_ | refine auIi ?_ | refine auT ?_ | refine auF ?_ | with_reducible first | refine auKt ?_ | refine auKf ?_ | refine auNt ?_ | refine auNf ?_ | refine auEt ?_ | refine auEf ?_); conv => whnf)
                  | ((with_reducible first | refine br_dec (fun h => ?_) (fun h => ?_) | refine br_ndec (fun h => ?_) (fun h => ?_) | refine br_ne (fun h => ?_) (fun h => ?_) | refine br_eq (fun h => ?_) (fun h => ?_)) <;> first | (exfalso; omega) | conv => whnf)
                  | (refine br_intro (fun h => ?_) (fun h => ?_) <;> conv => whnf)
                  | ((first | refine auNd ?_ | refine idx_nat (by omega) (fun x hx => ?_) | refine frz_auto ?_ | refine draw_plain ?_ | refine auIx (fun x hx => ?_)); conv => whnf)
                  | ((first | refine bx_idx ?_ | refine bx_intro (fun b hb => ?_)); conv => whnf)
                rw [hw3]
                refine loop_inv [] [15, 16] (fun vs h => ∃ (i : Nat) (m : List pairT.El), vs = [.lst pairT m, .int .i64 (i : Int)] ∧ h = [] ∧ i ≤ l.length ∧ m = (l.take i).foldl wr1 a ∧ (mcL m).2 = 0 ∧ m.length ≤ 60 + i) (fun vs _ => match vs with | [_, .int _ k] => l.length - k.toNat | _ => 0) ?_
                conv => whnf
                refine ⟨⟨0, a, rfl, rfl, by omega, rfl, hwa, by omega⟩, ?_⟩
                rintro vs h' - ⟨i, m, rfl, rfl, hi, hm, hmg, hml⟩
                by_cases hil : i < l.length
                · obtain ⟨x, hx⟩ : ∃ x, l[i]? = some x := ⟨_, List.getElem?_eq_getElem hil⟩
                  have hxe := hwe x (List.mem_of_getElem? hx)
                  have hw1 := wr_one hmg hxe (by omega)
                  have hw2 := wr1_good hmg hxe (by omega)
                  have hm2 := wr_take (m := a) hx
                  rw [← hm] at hm2
                  have hml2 : (wr1 m x).length ≤ m.length + 1 := chT_len _ _
                  have hml3 : m.length ≤ 4611686018427387904 := Nat.le_trans (show m.length ≤ 180 by omega) (by decide)
                  have hcut := cut_one hx
                  have hf1 : (wrR m ((l.drop (i : Int).toNat).take (((i : Int) + 1).toNat - (i : Int).toNat))).2 = 0 := by rw [hcut, hw1]
                  have hf2 : (wrR m ((l.drop (i : Int).toNat).take (((i : Int) + 1).toNat - (i : Int).toNat))).1 = wr1 m x := by rw [hcut, hw1]
                  conv => whnf
                  repeat' first
                    | ((first | refine auIk ?_ | refine auIi ?_ | refine auT ?_ | refine auF ?_ | with_reducible first | refine auKt ?_ | refine auKf ?_ | refine auNt ?_ | refine auNf ?_ | refine auEt ?_ | refine auEf ?_); conv => whnf)
                    | ((with_reducible first | refine br_dec (fun h => ?_) (fun h => ?_) | refine br_ndec (fun h => ?_) (fun h => ?_) | refine br_ne (fun h => ?_) (fun h => ?_) | refine br_eq (fun h => ?_) (fun h => ?_)) <;> first | (exfalso; omega) | conv => whnf)
                    | (refine br_intro (fun h => ?_) (fun h => ?_) <;> conv => whnf)
                    | ((first | refine auNd ?_ | refine idx_nat (by omega) (fun x hx => ?_) | refine frz_auto ?_ | refine draw_plain ?_ | refine auIx (fun x hx => ?_)); conv => whnf)
                    | ((first | refine bx_idx ?_ | refine bx_intro (fun b hb => ?_)); conv => whnf)
                  refine back_intro (by conv => whnf) rfl ⟨i + 1, wr1 m x, congrArg (fun z => [AV.lst pairT z, AV.int .i64 ((i : Int) + 1)]) hf2, rfl, by omega, hm2.symm, hw2, by omega⟩ ?_
                  show l.length - ((i : Int) + 1).toNat < l.length - (i : Int).toNat
                  omega
                · obtain rfl : m = l.foldl wr1 a := by rw [hm, List.take_of_length_le (by omega)]
                  have hsw := sameP_refl (l.foldl wr1 a)
                  conv => whnf
                  repeat' first
                    | ((first | refine auIk ?_ | refine auIi ?_ | refine auT ?_ | refine auF ?_ | with_reducible first | refine auKt ?_ | refine auKf ?_ | refine auNt ?_ | refine auNf ?_ | refine auEt ?_ | refine auEf ?_); conv => whnf)
                    | ((with_reducible first | refine br_dec (fun h => ?_) (fun h => ?_) | refine br_ndec (fun h => ?_) (fun h => ?_) | refine br_ne (fun h => ?_) (fun h => ?_) | refine br_eq (fun h => ?_) (fun h => ?_)) <;> first | (exfalso; omega) | conv => whnf)
                    | (refine br_intro (fun h => ?_) (fun h => ?_) <;> conv => whnf)
                    | ((first | refine auNd ?_ | refine idx_nat (by omega) (fun x hx => ?_) | refine frz_auto ?_ | refine draw_plain ?_ | refine auIx (fun x hx => ?_)); conv => whnf)
                    | ((first | refine bx_idx ?_ | refine bx_intro (fun b hb => ?_)); conv => whnf)
              · have hw3 : ((wrR a l).1.length : Int) = 0 := by rw [wrR_no hwz]; rfl
                conv => whnf
                repeat' first
                  | ((first | refine auIk ?_ | refine auIi ?_ | refine auT ?_ | refine auF ?_ | with_reducible first | refine auKt ?_ | refine auKf ?_ | refine auNt ?_ | refine auNf ?_ | refine auEt ?_ | refine auEf ?_); conv => whnf)
                  | ((with_reducible first | refine br_dec (fun h => ?_) (fun h => ?_) | refine br_ndec (fun h => ?_) (fun h => ?_) | refine br_ne (fun h => ?_) (fun h => ?_) | refine br_eq (fun h => ?_) (fun h => ?_)) <;> first | (exfalso; omega) | conv => whnf)
                  | (refine br_intro (fun h => ?_) (fun h => ?_) <;> conv => whnf)
                  | ((first | refine auNd ?_ | refine idx_nat (by omega) (fun x hx => ?_) | refine frz_auto ?_ | refine draw_plain ?_ | refine auIx (fun x hx => ?_)); conv => whnf)
                  | ((first | refine bx_idx ?_ | refine bx_intro (fun b hb => ?_)); conv => whnf)
end Go.Proofs.Ytbbklijmnknmhaa
namespace Go.Proofs.Ytbbklijmnknmhaa
open Go.ChangeShapes Go.WideShapes Go.ChangeAt Go.RowKit Go.Joins Go.Deep Av

theorem Try.own : ownKnob Try.prog.godebug = none := by kernel_rfl
theorem Try.laidOut : laidOutB Try.prog = true := by kernel_rfl

section
variable {H : Type} {enc : TypeId × Value → H} {w : World}

/-- Every argument reads as it did. -/
theorem all_below {W W' : World} (hb : Below W.heap.size W W') : ∀ (ts : List TypeId) (vs : List Value) (ds : List (DataW H)) (ps : List MemPlace), (∀ t ∈ ts, Try.prog.readableRec t = true ∧ t < Try.prog.types.size) →
    DataW.TrodAll enc Try.prog W 0 (fun _ => true) true ts vs ds ps → (∀ x ∈ ps, x.block < W.heap.size) → DataW.TrodAll enc Try.prog W' 0 (fun b => decide (b < W.heap.size)) true ts vs ds ps
  | [], vs, ds, ps, _, h, _ => by
    obtain ⟨rfl, rfl, rfl⟩ := trodAll_nil h
    exact trodAll_mk0
  | t :: ts, vs, ds, ps, hr, h, hlt => by
    obtain ⟨v, vs', d, ds', p, q, rfl, rfl, rfl, h1, h2⟩ := trodAll_cons h
    obtain ⟨r1, r2⟩ := hr t (by simp)
    exact trodAll_cons_mk (Below.trod Try.laidOut r1 r2 h1 hb (fun x hx => hlt x (by simp [hx]))) (all_below hb ts vs' ds' q (fun t' ht' => hr t' (by simp [ht'])) h2 (fun x hx => hlt x (by simp [hx])))

/-- What the row asks of the end of a law. -/
theorem law_post {f : Func} {s : ChangeSpec} {W W' : World} {args : Array Value} {ds gs : List (DataW H)} {before : List MemPlace} (hW : DataW.Whole enc Try.prog f.params.toList s.vars false W args.toList ds gs before)
    (hv : s.vars = []) (hres : (s.fn H (ds ++ [])).results = [.lit (.bool true)]) (hargs : (s.fn H (ds ++ [])).args = ds) (hvs : (s.fn H (ds ++ [])).vars = []) (hR : f.resultTypes = #[4])
    (hr : ∀ t ∈ f.params.toList, Try.prog.readableRec t = true ∧ t < Try.prog.types.size) (hb : Below W.heap.size W W') :
    s.post enc Try.prog f false true false false W args (.bool true) W' := by
  have hlt := hW.lt
  have hW' := hW
  obtain ⟨p, q, hA, hV, rfl, _, _⟩ := hW
  rw [hv] at hV
  obtain ⟨rfl, rfl⟩ := trodVars_none hV
  refine ⟨ds, [], p ++ [], [], p, [], hW', ?_, ?_, ?_, hb.frame _, fun h => by cases h⟩
  · rw [hres, hR]
    exact trodAll_mk1 (shut_bool Try.underlying4 true)
  · rw [hargs]
    exact all_below hb _ _ _ _ hr hA (fun x hx => hlt x (by simp [hx]))
  · rw [hv, hvs]
    exact rfl


theorem trodAll_len {W : World} {base : Nat} {spare : Nat → Bool} {held : Bool} : ∀ {ts : List TypeId} {vs : List Value} {ds : List (DataW H)} {ps : List MemPlace}, DataW.TrodAll enc Try.prog W base spare held ts vs ds ps → ds.length = ts.length
  | [], vs, ds, ps, h => by
    obtain ⟨rfl, rfl, rfl⟩ := trodAll_nil h
    rfl
  | t :: ts, vs, ds, ps, h => by
    obtain ⟨v, vs', D, ds', p, q, rfl, rfl, rfl, h1, h2⟩ := trodAll_cons h
    simp only [List.length_cons, trodAll_len h2]
theorem arr_get {α : Type} {a : Array α} {j : Nat} {x : α} (h : a.toList[j]? = some x) : a[j]? = some x := by simpa using h
end
end Go.Proofs.Ytbbklijmnknmhaa
