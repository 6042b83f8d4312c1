/-
  Views: the runs that two have in common, by the code.
  Differences of tables, by key. Plain Lean.
  What the laws of differences need. Plain Lean.
  The runs that views have in common. Plain Lean.
  slices.Insert at pairs: the roads of its text, by the walk.
-/
import Derived.Test.YtdbnohpolknbbaaUo
import Derived.Test.YtdbnohpolknbbaaLp
import Derived.Test.YtdbnohpolknbbaaE4
import Derived.Test.YtdbnohpolknbbaaSo1
import Derived.Shelf.Spec.SlicesInsertGrow
namespace Go.Proofs.Ytdbnohpolknbbaa
open Av Bk

set_option maxRecDepth 100000 in
theorem fnOk_dShared : FnOk Try.prog 9 Try.f9 := ⟨by rfl, by kernel_rfl, by
  show okCode _ _ = true ∧ drawsOk _ = true
  exact ⟨by kernel_rfl, by kernel_rfl⟩⟩
set_option maxRecDepth 100000 in
theorem fnOk_dShared1 : FnOk Try.prog 23 Try.f23 := ⟨by rfl, by kernel_rfl, by
  show okCode _ _ = true ∧ drawsOk _ = true
  exact ⟨by kernel_rfl, by kernel_rfl⟩⟩
set_option maxRecDepth 100000 in
theorem fnOk_contRn : FnOk Try.prog 22 Try.f22 := ⟨by rfl, by kernel_rfl, by
  show okCode _ _ = true ∧ drawsOk _ = true
  exact ⟨by kernel_rfl, by kernel_rfl⟩⟩
set_option maxRecDepth 100000 in
theorem fnOk_idxRn : FnOk Try.prog 44 Try.f44 := ⟨by rfl, by kernel_rfl, by
  show okCode _ _ = true ∧ drawsOk _ = true
  exact ⟨by kernel_rfl, by kernel_rfl⟩⟩
set_option maxRecDepth 100000 in
theorem fnOk_slSrtU : FnOk Try.prog 25 Try.f25 := ⟨by rfl, by kernel_rfl, by
  show okCode _ _ = true ∧ drawsOk _ = true
  exact ⟨by kernel_rfl, by kernel_rfl⟩⟩
/-- The ids of the runs that others have too. -/
def shL (rs rs2 : List runT.El) : List Int := (rs.filter (fun r => rs2.any (mtB r))).map (fun r => r.1)
theorem shL_take {rs rs2 : List runT.El} {i : Nat} {r : runT.El} (hr : rs[i]? = some r) : shL (rs.take (i + 1)) rs2 = shL (rs.take i) rs2 ++ (if rs2.any (mtB r) = true then [r.1] else []) := by
  unfold shL
  rw [List.take_add_one, hr, List.filter_append, List.map_append]
  congr 1
  show (List.filter (fun r => rs2.any (mtB r)) [r]).map (fun r => r.1) = _
  rw [List.filter_cons]
  split <;> rfl
theorem shL_len (rs rs2 : List runT.El) : (shL rs rs2).length ≤ rs.length := by
  unfold shL
  rw [List.length_map]
  exact List.length_filter_le _ _
def dhR (b : List entT.El) (rs : List runT.El) (b2 : List entT.El) (rs2 : List runT.El) : List Int × Int := if dvE b rs b2 rs2 ≠ 0 then ([], dvE b rs b2 rs2) else (sortedI (shL rs rs2), 0)
def spSh : DSpec
  | [.agg [.lst (.st [.str, .str, .bool, .int .i64]) b, .lst (.st [.int .i64, .sl (.st [.str, .str, .bool, .int .i64])]) rs], .agg [.lst (.st [.str, .str, .bool, .int .i64]) b2, .lst (.st [.int .i64, .sl (.st [.str, .str, .bool, .int .i64])]) rs2]] => some (True, .tup [.lst (.int .i64) (dhR b rs b2 rs2).1, .int .i64 (dhR b rs b2 rs2).2])
  | _ => none
theorem sh_vs {g n m : Nat} {k : Int} (h : n = m) : [AV.own 3 g n, .int .i64 k] = [AV.own 3 g m, .int .i64 k] := by rw [h]
theorem sh_heap {a b c : AObj} {T : TypeId} {g : Nat} {l m : List Int} (h : l = m) : [a, b, c, .arr T (.int .i64) l false g] = [a, b, c, AObj.arr T (.int .i64) m false g] := by rw [h]
noncomputable def cxuq : Cx := ⟨tb, [(23, Try.f23), (22, Try.f22), (44, Try.f44)], [(20, spMp), (24, spSameE)]⟩
theorem specsuq : SpecsOk Try.prog cxuq.specs := .cons dMaps_ok (.cons eqEn_ok .nil)
theorem fnsuq : FnsOk Try.prog cxuq.fns := .cons fnOk_dShared1 (.cons fnOk_contRn (.cons fnOk_idxRn .nil))
set_option maxRecDepth 100000 in
theorem isortsU : ∀ f ∈ [25], SortIOk Try.prog f := by
  intro f hf
  rw [List.mem_singleton] at hf
  subst hf
  exact SortIOk.of sortI fnOk_slSrtU.enters
set_option maxRecDepth 100000 in
set_option maxHeartbeats 4000000 in
theorem dShared_ok : SpecOk Try.prog 9 spSh := by
  refine spec_body (C := cxuq) mixed tbOk specsuq (callY_ok (C := cxuq) mixed tbOk specsuq fnsuq isortsU SortsOk.nil 5) fnOk_dShared ?_
  intro ys p r h hp
  unfold spSh at h
  split at h
  · rename_i b rs b2 rs2
    cases h
    by_cases he : dvE b rs b2 rs2 = 0
    · have hm : mpR b rs b2 rs2 = (mV b rs, mV b2 rs2, 0) := by rw [mpR, if_neg (by simp [he])]
      have hme : (mpR b rs b2 rs2).2.2 = 0 := by rw [hm]
      have hlr := (vcL_zero (dv_zero he).1).lr
      have hlr2 := (vcL_zero (dv_zero he).2).lr
      conv => whnf
      repeat' first
        | ((first | refine auIk ?_ | refine auIi ?_ | refine auT ?_ | refine auF ?_ | with_reducible first | refine auKt ?_ | refine auKf ?_ | refine auNt ?_ | refine auNf ?_ | refine auEt ?_ | refine auEf ?_); conv => whnf)
        | ((with_reducible first | refine br_dec (fun h => ?_) (fun h => ?_) | refine br_ndec (fun h => ?_) (fun h => ?_) | refine br_ne (fun h => ?_) (fun h => ?_) | refine br_eq (fun h => ?_) (fun h => ?_)) <;> first | (exfalso; omega) | conv => whnf)
        | (refine br_intro (fun h => ?_) (fun h => ?_) <;> conv => whnf)
        | ((first | refine auNd ?_ | refine idx_nat (by omega) (fun x hx => ?_) | refine frz_auto ?_ | refine draw_plain ?_ | refine auIx (fun x hx => ?_)); conv => whnf)
      refine loop_inv [] [9, 25] (fun vs h => ∃ (i g : Nat), vs = [.own 3 g (shL (rs.take i) rs2).length, .int .i64 (i : Int)] ∧ h = [.cells 25 [.lst entT b, .lst runT rs], .cells 25 [.lst entT b2, .lst runT rs2], .arr 3 (.int .i64) [] false 0, .arr 3 (.int .i64) (shL (rs.take i) rs2) false g] ∧ i ≤ rs.length) (fun vs _ => match vs with | [_, .int _ k] => rs.length - k.toNat | _ => 0) ?_
      conv => whnf
      refine ⟨⟨0, 0, rfl, rfl, Nat.zero_le _⟩, ?_⟩
      rintro vs h' - ⟨i, g, rfl, rfl, hi⟩
      have hsl := shL_len (rs.take i) rs2
      have hsl2 : (shL (rs.take i) rs2).length ≤ 24 := by rw [List.length_take] at hsl; omega
      by_cases hil : i < rs.length
      · obtain ⟨r, hr⟩ : ∃ r, rs[i]? = some r := ⟨_, List.getElem?_eq_getElem hil⟩
        have hrl := run_len (dv_zero he).1 (List.mem_of_getElem? hr)
        conv => whnf
        repeat' first
          | ((first | refine auIk ?_ | refine auIi ?_ | refine auT ?_ | refine auF ?_ | with_reducible first | refine auKt ?_ | refine auKf ?_ | refine auNt ?_ | refine auNf ?_ | refine auEt ?_ | refine auEf ?_); conv => whnf)
          | ((with_reducible first | refine br_dec (fun h => ?_) (fun h => ?_) | refine br_ndec (fun h => ?_) (fun h => ?_) | refine br_ne (fun h => ?_) (fun h => ?_) | refine br_eq (fun h => ?_) (fun h => ?_)) <;> first | (exfalso; omega) | conv => whnf)
          | (refine br_intro (fun h => ?_) (fun h => ?_) <;> conv => whnf)
          | ((first | refine auNd ?_ | refine idx_nat (by omega) (fun x hx => ?_) | refine frz_auto ?_ | refine draw_plain ?_ | refine auIx (fun x hx => ?_)); conv => whnf)
        refine loop_inv [] [8] (fun vs h => ∃ k : Nat, vs = [.int .i64 (k : Int)] ∧ h = [.cells 25 [.lst entT b, .lst runT rs], .cells 25 [.lst entT b2, .lst runT rs2], .arr 3 (.int .i64) [] false 0, .arr 3 (.int .i64) (shL (rs.take i) rs2) false g, .cells 39 [.int .i64 r.1, .lst entT r.2.1]] ∧ k ≤ rs2.length ∧ ∀ s ∈ rs2.take k, mtB r s = false) (fun vs _ => match vs with | [.int _ k] => rs2.length - k.toNat | _ => 0) ?_
        conv => whnf
        refine ⟨⟨0, rfl, rfl, Nat.zero_le _, by simp⟩, ?_⟩
        rintro vs h' - ⟨k, rfl, rfl, hk, hall⟩
        have hst := shL_take (rs2 := rs2) hr
        by_cases hkl : k < rs2.length
        · obtain ⟨s, hs⟩ : ∃ s, rs2[k]? = some s := ⟨_, List.getElem?_eq_getElem hkl⟩
          have hmt : mtB r s = ((r.1 == s.1) && sameL entT r.2.1 s.2.1) := rfl
          have hnx : mtB r s = false → ∀ z ∈ rs2.take (k + 1), mtB r z = false := fun h z hz => by
            rw [List.take_add_one, hs] at hz
            rcases List.mem_append.1 hz with hz | hz
            · exact hall z hz
            · have : z = s := by simpa using hz
              rw [this]; exact h
          by_cases hid : r.1 = s.1
          · have hid2 : (r.1 == s.1) = true := by rw [hid]; exact beq_self_eq_true _
            rw [hid2, Bool.true_and] at hmt
            conv => whnf
            repeat' first
              | ((first | refine auIk ?_ | refine auIi ?_ | refine auT ?_ | refine auF ?_ | with_reducible first | refine auKt ?_ | refine auKf ?_ | refine auNt ?_ | refine auNf ?_ | refine auEt ?_ | refine auEf ?_); conv => whnf)
              | ((with_reducible first | refine br_dec (fun h => ?_) (fun h => ?_) | refine br_ndec (fun h => ?_) (fun h => ?_) | refine br_ne (fun h => ?_) (fun h => ?_) | refine br_eq (fun h => ?_) (fun h => ?_)) <;> first | (exfalso; omega) | conv => whnf)
              | (refine br_intro (fun h => ?_) (fun h => ?_) <;> conv => whnf)
              | ((first | refine auNd ?_ | refine idx_nat (by omega) (fun x hx => ?_) | refine frz_auto ?_ | refine draw_plain ?_ | refine auIx (fun x hx => ?_)); conv => whnf)
            · rename_i hse _
              have hany : rs2.any (mtB r) = true := List.any_eq_true.2 ⟨s, List.mem_of_getElem? hs, by rw [hmt]; first | exact hse | exact h | assumption⟩
              rw [hany, if_pos rfl] at hst
              refine back_intro (by conv => whnf) rfl ⟨i + 1, g + 1, sh_vs ?_, sh_heap ?_, by omega⟩ ?_
              · rw [hst, List.length_append]; rfl
              · rw [hst]; simp only [cast_self, List.take_length]; rfl
              · show rs.length - ((i : Int) + 1).toNat < rs.length - (i : Int).toNat
                omega
            · refine back_intro (by conv => whnf) rfl ⟨k + 1, rfl, rfl, by omega, hnx (hmt.trans (by first | exact h | assumption))⟩ ?_
              show rs2.length - ((k : Int) + 1).toNat < rs2.length - (k : Int).toNat
              omega
          · have hid2 : (r.1 == s.1) = false := beq_eq_false_iff_ne.2 hid
            rw [hid2, Bool.false_and] at hmt
            conv => whnf
            repeat' first
              | ((first | refine auIk ?_ | refine auIi ?_ | refine auT ?_ | refine auF ?_ | with_reducible first | refine auKt ?_ | refine auKf ?_ | refine auNt ?_ | refine auNf ?_ | refine auEt ?_ | refine auEf ?_); conv => whnf)
              | ((with_reducible first | refine br_dec (fun h => ?_) (fun h => ?_) | refine br_ndec (fun h => ?_) (fun h => ?_) | refine br_ne (fun h => ?_) (fun h => ?_) | refine br_eq (fun h => ?_) (fun h => ?_)) <;> first | (exfalso; omega) | conv => whnf)
              | (refine br_intro (fun h => ?_) (fun h => ?_) <;> conv => whnf)
              | ((first | refine auNd ?_ | refine idx_nat (by omega) (fun x hx => ?_) | refine frz_auto ?_ | refine draw_plain ?_ | refine auIx (fun x hx => ?_)); conv => whnf)
            refine back_intro (by conv => whnf) rfl ⟨k + 1, rfl, rfl, by omega, hnx hmt⟩ ?_
            show rs2.length - ((k : Int) + 1).toNat < rs2.length - (k : Int).toNat
            omega
        · have hany : rs2.any (mtB r) = false := by
            rw [List.any_eq_false]
            intro z hz
            rw [hall z (by rw [List.take_of_length_le (by omega)]; exact hz)]
            decide
          rw [hany, if_neg (by decide), List.append_nil] at hst
          conv => whnf
          repeat' first
            | ((first | refine auIk ?_ | refine auIi ?_ | refine auT ?_ | refine auF ?_ | with_reducible first | refine auKt ?_ | refine auKf ?_ | refine auNt ?_ | refine auNf ?_ | refine auEt ?_ | refine auEf ?_); conv => whnf)
            | ((with_reducible first | refine br_dec (fun h => ?_) (fun h => ?_) | refine br_ndec (fun h => ?_) (fun h => ?_) | refine br_ne (fun h => ?_) (fun h => ?_) | refine br_eq (fun h => ?_) (fun h => ?_)) <;> first | (exfalso; omega) | conv => whnf)
            | (refine br_intro (fun h => ?_) (fun h => ?_) <;> conv => whnf)
            | ((first | refine auNd ?_ | refine idx_nat (by omega) (fun x hx => ?_) | refine frz_auto ?_ | refine draw_plain ?_ | refine auIx (fun x hx => ?_)); conv => whnf)
          refine back_intro (by conv => whnf) rfl ⟨i + 1, g, sh_vs (by rw [hst]), sh_heap hst.symm, by omega⟩ ?_
          show rs.length - ((i : Int) + 1).toNat < rs.length - (i : Int).toNat
          omega
      · have hz := sortedI_len (shL (rs.take i) rs2)
        conv => whnf
        repeat' first
          | ((first | refine auIk ?_ | refine auIi ?_ | refine auT ?_ | refine auF ?_ | with_reducible first | refine auKt ?_ | refine auKf ?_ | refine auNt ?_ | refine auNf ?_ | refine auEt ?_ | refine auEf ?_); conv => whnf)
          | ((with_reducible first | refine br_dec (fun h => ?_) (fun h => ?_) | refine br_ndec (fun h => ?_) (fun h => ?_) | refine br_ne (fun h => ?_) (fun h => ?_) | refine br_eq (fun h => ?_) (fun h => ?_)) <;> first | (exfalso; omega) | conv => whnf)
          | (refine br_intro (fun h => ?_) (fun h => ?_) <;> conv => whnf)
          | ((first | refine auNd ?_ | refine idx_nat (by omega) (fun x hx => ?_) | refine frz_auto ?_ | refine draw_plain ?_ | refine auIx (fun x hx => ?_)); conv => whnf)
        rw [dhR, if_neg (by simp [he])]
        rw [List.take_of_length_le (l := sortedI _) (by omega), List.take_of_length_le (by omega)]
    · have hm : mpR b rs b2 rs2 = ([], [], dvE b rs b2 rs2) := by rw [mpR, if_pos he]
      have hme : ¬ (mpR b rs b2 rs2).2.2 = 0 := by rw [hm]; exact he
      conv => whnf
      repeat' first
        | ((first | refine auIk ?_ | refine auIi ?_ | refine auT ?_ | refine auF ?_ | with_reducible first | refine auKt ?_ | refine auKf ?_ | refine auNt ?_ | refine auNf ?_ | refine auEt ?_ | refine auEf ?_); conv => whnf)
        | ((with_reducible first | refine br_dec (fun h => ?_) (fun h => ?_) | refine br_ndec (fun h => ?_) (fun h => ?_) | refine br_ne (fun h => ?_) (fun h => ?_) | refine br_eq (fun h => ?_) (fun h => ?_)) <;> first | (exfalso; omega) | conv => whnf)
        | (refine br_intro (fun h => ?_) (fun h => ?_) <;> conv => whnf)
        | ((first | refine auNd ?_ | refine idx_nat (by omega) (fun x hx => ?_) | refine frz_auto ?_ | refine draw_plain ?_ | refine auIx (fun x hx => ?_)); conv => whnf)
      rw [dhR, if_pos he, hm]
      rfl
  · cases h
end Go.Proofs.Ytdbnohpolknbbaa
namespace Go.Proofs.Ytdbnohpolknbbaa
open Av Bk

/-! ### Lists that ascend -/
/-- The items of a key. -/
abbrev atK (l : List itemT.El) (k : ByteArray) : List itemT.El := l.filter (fun x => sEq x.2.1 k)
/-! ### Differences by key -/
theorem diff_lb : ∀ {X Y : List pairT.El} {k : ByteArray}, (∀ p ∈ X, sLt k p.1 = true) → (∀ p ∈ Y, sLt k p.1 = true) → ∀ z ∈ diffL X Y, sLt k z.2.1 = true
  | [], Y, k, _, hY => by
    intro z hz
    obtain ⟨y, hy, rfl⟩ := List.mem_map.1 (show z ∈ Y.map newI from hz)
    exact hY y hy
  | x :: X, Y, k, hX, hY => by
    have hx := hX x List.mem_cons_self
    have hX2 : ∀ p ∈ X, sLt k p.1 = true := fun p hp => hX p (List.mem_cons_of_mem _ hp)
    induction Y with
    | nil =>
      intro z hz
      rw [diffL_cons_nil] at hz
      rcases List.mem_cons.1 hz with rfl | hz
      · exact hx
      · exact diff_lb hX2 (by simp) z hz
    | cons y Y ih =>
      have hy := hY y List.mem_cons_self
      have hY2 : ∀ p ∈ Y, sLt k p.1 = true := fun p hp => hY p (List.mem_cons_of_mem _ hp)
      intro z hz
      by_cases h1 : sLt x.1 y.1 = true
      · rw [diffL_lt _ _ h1] at hz
        rcases List.mem_cons.1 hz with rfl | hz
        · exact hx
        · exact diff_lb hX2 hY z hz
      · have h1 : sLt x.1 y.1 = false := by simpa using h1
        by_cases h2 : sLt y.1 x.1 = true
        · rw [diffL_gt _ _ h2] at hz
          rcases List.mem_cons.1 hz with rfl | hz
          · exact hy
          · exact ih hY2 z hz
        · have h2 : sLt y.1 x.1 = false := by simpa using h2
          by_cases h3 : sEq x.2.1 y.2.1 = true
          · rw [diffL_eq _ _ h1 h2 h3] at hz
            exact diff_lb hX2 hY2 z hz
          · have h3 : sEq x.2.1 y.2.1 = false := by simpa using h3
            rw [diffL_ne _ _ h1 h2 h3] at hz
            rcases List.mem_cons.1 hz with rfl | hz
            · exact hx
            · exact diff_lb hX2 hY2 z hz
theorem lk_gt {m : List pairT.El} {k : ByteArray} (h : ∀ p ∈ m, sLt k p.1 = true) : lkV m k = none := lkV_none.2 (fun p hp => (sLt_ne (h p hp)).symm)
theorem at_cons (x : itemT.El) (l : List itemT.El) (k : ByteArray) : atK (x :: l) k = if x.2.1 = k then x :: atK l k else atK l k := by
  by_cases h : x.2.1 = k
  · rw [if_pos h]
    exact List.filter_cons_of_pos (by rw [sEq_iff]; exact h)
  · rw [if_neg h]
    exact List.filter_cons_of_neg (by rw [sEq_iff]; exact h)
/-- Differences ascend; of each key there is what both tables say. -/
theorem diff_spec : ∀ {X Y : List pairT.El}, ascP X → ascP Y → ascK itK (diffL X Y) ∧ ∀ k, atK (diffL X Y) k = dfI k (lkV X k) (lkV Y k)
  | [], Y, _, hY => by
    induction Y with
    | nil => exact ⟨List.Pairwise.nil, fun k => rfl⟩
    | cons y Y ih =>
      obtain ⟨hy, hY2⟩ := List.pairwise_cons.1 hY
      obtain ⟨h1, h2⟩ := ih hY2
      rw [diffL_nil_cons]
      refine ⟨List.pairwise_cons.2 ⟨fun z hz => diff_lb (by simp) hy z hz, h1⟩, fun k => ?_⟩
      rw [at_cons, h2, lkV_cons]
      by_cases hk : y.1 = k
      · rw [if_pos (show (newI y).2.1 = k from hk), if_pos hk, lk_gt (m := Y) (fun p hp => by rw [← hk]; exact hy p hp)]
        subst hk
        rfl
      · rw [if_neg (show ¬ (newI y).2.1 = k from hk), if_neg hk]
  | x :: X, Y, hX, hY => by
    obtain ⟨hx, hX2⟩ := List.pairwise_cons.1 hX
    induction Y with
    | nil =>
      obtain ⟨h1, h2⟩ := diff_spec hX2 (Y := []) List.Pairwise.nil
      rw [diffL_cons_nil]
      refine ⟨List.pairwise_cons.2 ⟨fun z hz => diff_lb hx (by simp) z hz, h1⟩, fun k => ?_⟩
      rw [at_cons, h2, lkV_cons]
      by_cases hk : x.1 = k
      · rw [if_pos (show (goneI x).2.1 = k from hk), if_pos hk, lk_gt (m := X) (fun p hp => by rw [← hk]; exact hx p hp)]
        subst hk
        rfl
      · rw [if_neg (show ¬ (goneI x).2.1 = k from hk), if_neg hk]
    | cons y Y ih =>
      obtain ⟨hy, hY2⟩ := List.pairwise_cons.1 hY
      by_cases c1 : sLt x.1 y.1 = true
      · obtain ⟨h1, h2⟩ := diff_spec hX2 hY
        have hxY : ∀ p ∈ y :: Y, sLt x.1 p.1 = true := fun p hp => by
          rcases List.mem_cons.1 hp with rfl | hp
          · exact c1
          · exact sLt_trans c1 (hy p hp)
        rw [diffL_lt _ _ c1]
        refine ⟨List.pairwise_cons.2 ⟨fun z hz => diff_lb hx hxY z hz, h1⟩, fun k => ?_⟩
        rw [at_cons, h2, lkV_cons x X]
        by_cases hk : x.1 = k
        · rw [if_pos (show (goneI x).2.1 = k from hk), if_pos hk, lk_gt (m := X) (fun p hp => by rw [← hk]; exact hx p hp), lk_gt (m := y :: Y) (fun p hp => by rw [← hk]; exact hxY p hp)]
          subst hk
          rfl
        · rw [if_neg (show ¬ (goneI x).2.1 = k from hk), if_neg hk]
      · have c1 : sLt x.1 y.1 = false := by simpa using c1
        by_cases c2 : sLt y.1 x.1 = true
        · obtain ⟨h1, h2⟩ := ih hY2
          have hyX : ∀ p ∈ x :: X, sLt y.1 p.1 = true := fun p hp => by
            rcases List.mem_cons.1 hp with rfl | hp
            · exact c2
            · exact sLt_trans c2 (hx p hp)
          rw [diffL_gt _ _ c2]
          refine ⟨List.pairwise_cons.2 ⟨fun z hz => diff_lb hyX hy z hz, h1⟩, fun k => ?_⟩
          rw [at_cons, h2, lkV_cons y Y]
          by_cases hk : y.1 = k
          · rw [if_pos (show (newI y).2.1 = k from hk), if_pos hk, lk_gt (m := Y) (fun p hp => by rw [← hk]; exact hy p hp), lk_gt (m := x :: X) (fun p hp => by rw [← hk]; exact hyX p hp)]
            subst hk
            rfl
          · rw [if_neg (show ¬ (newI y).2.1 = k from hk), if_neg hk]
        · have c2 : sLt y.1 x.1 = false := by simpa using c2
          have hxy : x.1 = y.1 := sLt_ext c1 c2
          obtain ⟨h1, h2⟩ := diff_spec hX2 hY2
          have hyx : ∀ p ∈ Y, sLt x.1 p.1 = true := fun p hp => by rw [hxy]; exact hy p hp
          by_cases c3 : sEq x.2.1 y.2.1 = true
          · rw [diffL_eq _ _ c1 c2 c3]
            refine ⟨h1, fun k => ?_⟩
            rw [h2, lkV_cons, lkV_cons]
            by_cases hk : x.1 = k
            · rw [if_pos hk, if_pos (hxy.symm.trans hk), lk_gt (m := X) (fun p hp => by rw [← hk]; exact hx p hp), lk_gt (m := Y) (fun p hp => by rw [← hk]; exact hyx p hp), sEq_iff.1 c3]
              unfold dfI
              rw [if_pos rfl, if_pos rfl]
            · rw [if_neg hk, if_neg (fun e => hk (hxy.trans e))]
          · have c3 : sEq x.2.1 y.2.1 = false := by simpa using c3
            rw [diffL_ne _ _ c1 c2 c3]
            refine ⟨List.pairwise_cons.2 ⟨fun z hz => diff_lb hx hyx z hz, h1⟩, fun k => ?_⟩
            rw [at_cons, h2, lkV_cons, lkV_cons]
            by_cases hk : x.1 = k
            · rw [if_pos (show (otherI x y).2.1 = k from hk), if_pos hk, if_pos (hxy.symm.trans hk), lk_gt (m := X) (fun p hp => by rw [← hk]; exact hx p hp), lk_gt (m := Y) (fun p hp => by rw [← hk]; exact hyx p hp)]
              subst hk
              have hne := sEq_no.1 c3
              unfold dfI
              rw [if_pos rfl, if_neg (by simpa using hne)]
              rfl
            · rw [if_neg (show ¬ (otherI x y).2.1 = k from hk), if_neg hk, if_neg (fun e => hk (hxy.trans e))]
end Go.Proofs.Ytdbnohpolknbbaa
namespace Go.Proofs.Ytdbnohpolknbbaa
open Av Bk

/-! ### The maps of views -/
theorem far_lenU : ∀ {rs : List runT.El} {n : Int}, 0 ≤ n → n ≤ 100 → farGo n rs = false → n + ((rs.map (fun r => r.2.1)).flatten.length : Int) ≤ 100
  | [], n, _, h, _ => by simpa using h
  | r :: rs, n, h0, h, hf => by
    rw [farGo] at hf
    rw [List.map_cons, List.flatten_cons, List.length_append]
    by_cases h2 : 200 < (r.2.1.length : Int)
    · rw [if_pos h2] at hf
      by_cases h1 : 100 < n + 200
      · rw [if_pos h1] at hf; cases hf
      · rw [if_neg h1] at hf
        split at hf
        · cases hf
        · have := far_lenU (by omega) (by omega) hf
          omega
    · rw [if_neg h2] at hf
      by_cases h1 : 100 < n + (r.2.1.length : Int)
      · rw [if_pos h1] at hf; cases hf
      · rw [if_neg h1] at hf
        split at hf
        · cases hf
        · have := far_lenU (by omega) (by omega) hf
          omega
theorem far_alU {b : List entT.El} {rs : List runT.El} (h : farB b rs = false) : (allE b rs).length ≤ 100 := by
  unfold farB at h
  split at h
  · cases h
  · split at h
    · cases h
    · rename_i h1 _
      have := far_lenU (by omega) (by omega) h
      show (b :: rs.map (fun r => r.2.1)).flatten.length ≤ 100
      rw [List.flatten_cons, List.length_append]
      omega
theorem map_szU {b : List entT.El} {rs : List runT.El} (h : GoodV b rs) {p : pairT.El} (hp : p ∈ mapL (allE b rs)) : (p.1.size : Int) ≤ 32 ∧ (p.2.1.size : Int) ≤ 64 := by
  obtain ⟨x, hx, hk, _, hv⟩ := getM_mem ((mapL_mem _ p).1 hp)
  have he := all_err h hx
  rw [← hk, ← hv]
  simp only [errX, errE] at he
  by_cases h1 : 32 < (x.1.size : Int)
  · simp [h1] at he
  · by_cases h2 : 64 < (x.2.1.size : Int)
    · simp [h2] at he
    · omega
theorem prE_zero {p : pairT.El} (h1 : (p.1.size : Int) ≤ 32) (h2 : (p.2.1.size : Int) ≤ 64) : prE p = 0 := by
  unfold prE
  exact if_neg (by omega)
theorem mcL_good {l : List pairT.El} (hl : l.length ≤ 4000) (h : ∀ p ∈ l, prE p = 0) (ha : ascP l) : mcL l = (0, 0) := by
  unfold mcL
  rw [if_neg (by omega)]
  exact ckGo_good h ha (fun x _ => rfl)
theorem dvR_bad {b : List entT.El} {rs : List runT.El} {b2 : List entT.El} {rs2 : List runT.El} (h : dvE b rs b2 rs2 ≠ 0) : dvR b rs b2 rs2 = ([], dvE b rs b2 rs2) := by
  unfold dvR
  rw [if_pos h]
theorem dfR_len (a b : List pairT.El) : (dfR a b).1.length ≤ 8000 := by
  unfold dfR
  split
  · simp
  · rename_i h1
    split
    · simp
    · rename_i h2
      have h3 := diffL_len a b
      have h4 := mcL_len (by simpa using h1)
      have h5 := mcL_len (by simpa using h2)
      show (diffL a b).length ≤ 8000
      omega
theorem dvR_len (b : List entT.El) (rs : List runT.El) (b2 : List entT.El) (rs2 : List runT.El) : (dvR b rs b2 rs2).1.length ≤ 8000 := by
  unfold dvR
  split
  · simp
  · exact dfR_len _ _
/-! ### Items of a difference -/
theorem diff_mem {X Y : List pairT.El} (hX : ascP X) (hY : ascP Y) {x : itemT.El} (h : x ∈ diffL X Y) : x ∈ dfI x.2.1 (lkV X x.2.1) (lkV Y x.2.1) := by
  rw [← (diff_spec hX hY).2]
  exact List.mem_filter.2 ⟨h, by rw [sEq_iff]⟩
theorem dfI_eq {k : ByteArray} {a b : Option ByteArray} {x : itemT.El} (h : x ∈ dfI k a b) : a ≠ b ∧ x = mkI (if a = none then 1 else if b = none then 2 else 3) k (a.getD ⟨#[]⟩) (b.getD ⟨#[]⟩) ∧ bfO x = a ∧ afO x = b := by
  unfold dfI at h
  split at h
  · cases h
  · rename_i hne
    have hx := List.mem_singleton.1 h
    refine ⟨hne, hx, ?_⟩
    subst hx
    cases a with
    | none =>
      cases b with
      | none => exact absurd rfl hne
      | some w => exact ⟨bf_1, af_1⟩
    | some v =>
      cases b with
      | none => exact ⟨bf_2, af_2⟩
      | some w => exact ⟨bf_3, af_3⟩
theorem find_at {l : List itemT.El} {k : ByteArray} : l.find? (fun x => sEq x.2.1 k) = (atK l k).head? := by
  rw [List.head?_filter]
end Go.Proofs.Ytdbnohpolknbbaa
namespace Go.Proofs.Ytdbnohpolknbbaa
open Av Bk

theorem mt_refl (r : runT.El) : mtB r r = true := by
  show ((r.1 == r.1) && sameL entT r.2.1 r.2.1) = true
  rw [same_refl, beq_self_eq_true]
  rfl
theorem sh_self (rs : List runT.El) : (sortedI (shL rs rs)).length = rs.length := by
  rw [sortedI_len]
  unfold shL
  rw [List.length_map, List.filter_eq_self.2 (fun r hr => List.any_eq_true.2 ⟨r, hr, mt_refl r⟩)]
end Go.Proofs.Ytdbnohpolknbbaa
set_option linter.unusedVariables false
set_option linter.unusedSimpArgs false
namespace Go.Proofs.Ytdbnohpolknbbaa
open Go.Shelf Go.RowKit Go.Lib Go.Proofs

section
variable {P : Program}
/-- A copy of elements of k cells. -/
theorem run_copy_k (w : World) (dT sT ty elem : TypeId) (k : Nat) (b o dLen dCap : Nat) (a : Addr) (sLen sCap q : Nat) (cs : List Value)
    (hu : P.underlying dT = some (.slice elem)) (hs : (P.info? elem).map (·.size) = some k) (hq : Nat.min sLen dLen = q) (hn : cs.length = q * k)
    (hsrc : ∀ j v, cs[j]? = some v → w.cell? (a.add j) = some v) (hc : ∀ j, j < cs.length → (w.cell? ⟨b, o + j, none⟩).isSome = true) (hf : ∀ j, j < cs.length → w.frozen? ⟨b, o + j, none⟩ = false) (h1 : ∀ v ∈ cs, v.oneCell' = true) :
    (Builtin.copy_ #[dT, sT] ty #[.slice (some ⟨b, o, none⟩) dLen dCap, .slice (some a) sLen sCap]).run P w = .ok (goInt q) (w.setCells b o cs) := by
  have hl := run_loadCells_list (P := P) w a cs hsrc
  have hst := run_storeCells_cells (P := P) b o cs 0 w (by simpa using hc) (by simpa using hf) h1
  cases hi : P.info? elem with
  | none => simp [hi] at hs
  | some i =>
    have hi2 : i.size = k := by simpa [hi] using hs
    simp [Builtin.copy_, run_underlying hu, Builtin.lenOf, Builtin.firstCells, sizeOf, typeInfo, hi, hi2, hq, ← hn, hl, hst]
end
theorem prInfo : ∃ ie z, Try.prog.info? 56 = some ie ∧ ie.size = 2 ∧ ie.bytes = 32 ∧ ie.zero = some z ∧ z.cells.size = 2 := by
  obtain ⟨ie, z, h1, h2, h3, h4, h5⟩ := (Av.tb_und tbOk (T := 56) (ti := _) rfl).info
  refine ⟨ie, z, h1, h2, h3, h4, ?_⟩
  have := Av.zero_size tbOk (e := 56) (te := _) rfl (t := pairT) rfl h1 h4
  exact this
theorem prSize : (Try.prog.info? 56).map (·.size) = some 2 := by
  obtain ⟨ie, z, h1, h2, _⟩ := prInfo
  rw [h1]
  simp [h2]

set_option maxHeartbeats 4000000 in
set_option maxRecDepth 100000 in
/-- There is room, and elements stand behind the place. -/
theorem ins_shift (b off n c i vb voff m vc : Nat) (cs vs : List Value) (w : World) (hi : i < n) (hm : 0 < m) (hroom : n + m ≤ c) (hc63 : c ≤ 9223372036854775807) (hvb : vb ≠ b)
    (hcl : cs.length = n * 2) (hvl : vs.length = m * 2)
    (hcs : ∀ j v, cs[j]? = some v → w.cell? ⟨b, off + j, none⟩ = some v) (hsp : ∀ j, j < (n + m) * 2 → (w.cell? ⟨b, off + j, none⟩).isSome = true) (hfz : ∀ j, j < (n + m) * 2 → w.frozen? ⟨b, off + j, none⟩ = false)
    (hvs : ∀ j v, vs[j]? = some v → w.cell? ⟨vb, voff + j, none⟩ = some v) (h1c : ∀ v ∈ cs, v.oneCell' = true) (h1v : ∀ v ∈ vs, v.oneCell' = true)
    (tA tB : TypeId) (kA kB : Nat) (hsa : w.shape? vb = some (tA, kA)) (hsb : w.shape? b = some (tB, kB)) (hkB : kB ≠ 0) (hfa : w.frozen? ⟨vb, voff, none⟩ = false) (hfe : w.frozen? ⟨vb, kA, none⟩ = false) :
    Calls Try.prog 49 #[.slice (some ⟨b, off, none⟩) n c, .int .i64 i, .slice (some ⟨vb, voff, none⟩) m vc] w fun e w' =>
      e = .returned (.slice (some ⟨b, off, none⟩) (n + m) c) ∧ w' = (w.drew.setCells b (off + (i + m) * 2) (cs.drop (i * 2))).setCells b (off + i * 2) vs := by
  have hz1 : ¬ ((m : Int) = 0) := by omega
  have hz2 : ¬ ((i : Int) = (n : Int)) := by omega
  have hsz := prSize
  have hov : ∀ lb cb, (callFunc 73 #[.slice (some ⟨vb, voff, none⟩) m vc, .slice (some ⟨b, off + (i + m) * 2, none⟩) lb cb]).run Try.prog w = .ok (.value (.bool false)) w := fun lb cb => by
    rw [run_callFunc_extern Try.func73 (by kernel_rfl) (by kernel_rfl) (by kernel_rfl) (e := Extern.SlicesOverlaps.overlaps #[52, 52] #[4]) (by kernel_rfl),
      Lib.run_overlaps_apart w 52 4 56 Try.underlying52 2 Try.sizeOf56 ⟨vb, voff, none⟩ ⟨b, off + (i + m) * 2, none⟩ m vc lb cb hvb tA tB kA kB hsa hsb hkB hfa hfe]
    rfl
  have hdl : (cs.drop (i * 2)).length = (n - i) * 2 := by rw [List.length_drop, hcl]; omega
  have hw1 : IntKind.i64.wrap ((i : Int) + (m : Int)) = (i : Int) + (m : Int) := by rw [IntKind.wrap_i64]; omega
  have hb1 : (0 : Int) ≤ (i : Int) + (m : Int) := by omega
  have hin : i ≤ n := by omega
  have htn : ((i : Int) + (m : Int)).toNat = i + m := by omega
  have hb2 : ¬ (c = i + m) := by omega
  have hb3 : (i : Int) ≤ (n : Int) + (m : Int) := by omega
  have hb4 : ¬ (c = i) := by omega
  have hcp1 : ∀ ty dc sc, (Builtin.copy_ #[52, 52] ty #[.slice (some ⟨b, off + (i + m) * 2, none⟩) (n + m - (i + m)) dc, .slice (some ⟨b, off + i * 2, none⟩) (n + m - i) sc]).run Try.prog w.drew = .ok (goInt ((n - i : Nat) : Int)) (w.drew.setCells b (off + (i + m) * 2) (cs.drop (i * 2))) := fun ty dc sc =>
    run_copy_k w.drew _ _ ty 56 2 b (off + (i + m) * 2) (n + m - (i + m)) dc ⟨b, off + i * 2, none⟩ (n + m - i) sc (n - i) (cs.drop (i * 2)) Try.underlying52 hsz (by simp only [Nat.min_def]; split <;> omega) hdl
      (fun j v hj => by rw [Addr.add_lit, Nat.add_assoc]; exact hcs (i * 2 + j) v (by rwa [List.getElem?_drop] at hj))
      (fun j hj => by rw [Nat.add_assoc]; exact hsp _ (by omega)) (fun j hj => by rw [Nat.add_assoc]; exact hfz _ (by omega)) (fun v hv => h1c v (List.mem_of_mem_drop hv))
  obtain ⟨W1, hW1⟩ : ∃ W1, W1 = w.drew.setCells b (off + (i + m) * 2) (cs.drop (i * 2)) := ⟨_, rfl⟩
  have hsp1 : ∀ k, k < (n + m) * 2 → (W1.cell? ⟨b, off + k, none⟩).isSome = true := fun k hk => by
    rw [hW1]
    exact isSome_setCells b _ _ _ (fun j hj => by rw [Nat.add_assoc]; exact hsp _ (by omega)) _ (hsp k hk)
  have hcp2 : ∀ (W : World), (∀ x, W.cell? x = W1.cell? x) → (∀ x, W.frozen? x = W1.frozen? x) → ∀ ty dc, (Builtin.copy_ #[52, 52] ty #[.slice (some ⟨b, off + i * 2, none⟩) (n + m - i) dc, .slice (some ⟨vb, voff, none⟩) m vc]).run Try.prog W = .ok (goInt m) (W.setCells b (off + i * 2) vs) := fun W hWc hWf ty dc =>
    run_copy_k W _ _ ty 56 2 b (off + i * 2) (n + m - i) dc ⟨vb, voff, none⟩ m vc m vs Try.underlying52 hsz (by simp only [Nat.min_def]; split <;> omega) hvl
      (fun j v hj => by
        rw [Addr.add_lit, hWc, hW1, World.cell?_setCells_out b _ _ _ _ (fun h _ => absurd h hvb)]
        exact hvs j v hj)
      (fun j hj => by rw [hWc, Nat.add_assoc]; exact hsp1 _ (by omega)) (fun j hj => by rw [hWf, hW1, World.frozen?_setCells, Nat.add_assoc]; exact hfz _ (by omega)) h1v
  rw [← hW1] at hcp1
  have mixed := mixed
  go_enter Try.func49, Try.ntmps49
  go_wp2_with (simp only [hov])
  go_region_law_o (refine step_copy_runI rfl _ _ 52 52 rfl _ _ (by simp [Act.eval, Act.put]) (by simp [Act.eval, Act.put]) (hcp1 _ _ _) ?_)
  go_wp2_with (at_builtin; refine wpList_copy_runI _ rfl _ _ 52 52 rfl _ _ rfl rfl (hcp2 _ (fun _ => rfl) (fun _ => rfl) _ _) ?_)
  go_ret
  first | exact ⟨rfl, rfl⟩ | exact ⟨rfl, by rw [hW1]⟩

set_option maxHeartbeats 4000000 in
set_option maxRecDepth 100000 in
/-- At the end. -/
theorem ins_end (base : Option Addr) (n c vb voff m vc : Nat) (w w1 : World) (v1 : Value) (hm : 0 < m) (hnc : n ≤ c) (hc63 : c ≤ 9223372036854775807) (hnil : base = none → n = 0 ∧ c = 0)
    (hrun : ∀ ty, (Builtin.append_ #[52, 52] ty #[.slice base n c, .slice (some ⟨vb, voff, none⟩) m vc]).run Try.prog w = .ok v1 w1) :
    Calls Try.prog 49 #[.slice base n c, .int .i64 n, .slice (some ⟨vb, voff, none⟩) m vc] w fun e w' => e = .returned v1 ∧ w' = w1 := by
  have hz1 : ¬ ((m : Int) = 0) := by omega
  have mixed := mixed
  go_enter Try.func49, Try.ntmps49
  cases base with
  | none =>
    obtain ⟨rfl, rfl⟩ := hnil rfl
    go_wp2_with (at_builtin; refine Lib.wpList_append_run _ rfl _ _ _ _ rfl _ _ rfl rfl _ _ (hrun _) ?_)
    go_ret
    exact ⟨rfl, rfl⟩
  | some a =>
    obtain ⟨ab, ao, asp⟩ := a
    go_wp2_with (at_builtin; refine Lib.wpList_append_run _ rfl _ _ _ _ rfl _ _ rfl rfl _ _ (hrun _) ?_)
    all_goals (go_ret; exact ⟨rfl, rfl⟩)

set_option maxHeartbeats 4000000 in
set_option maxRecDepth 100000 in
/-- No room, and elements stand behind the place: a new row. -/
theorem ins_grow (ie : TypeInfo) (z : Value) (hie : Try.prog.info? 56 = some ie) (hzs : ie.size = 2) (hzb : ie.bytes = 32) (hz0 : ie.zero = some z) (hzc : z.cells.size = 2)
    (b off n c i vb voff m vc : Nat) (cs vs : List Value) (w : World) (hi : i < n) (hm : 0 < m) (hnc : n ≤ c) (hroom : c < n + m) (hbig : (n + m) * 32 ≤ 140737488355328)
    (hcl : cs.length = n * 2) (hvl : vs.length = m * 2)
    (hcs : ∀ j v, cs[j]? = some v → w.cell? ⟨b, off + j, none⟩ = some v)
    (hvs : ∀ j v, vs[j]? = some v → w.cell? ⟨vb, voff + j, none⟩ = some v) (h1c : ∀ v ∈ cs, v.oneCell' = true) (h1v : ∀ v ∈ vs, v.oneCell' = true) :
    Calls Try.prog 49 #[.slice (some ⟨b, off, none⟩) n c, .int .i64 i, .slice (some ⟨vb, voff, none⟩) m vc] w fun e w' =>
      e = .returned (.slice (some ⟨w.heap.size, 0, none⟩) (n + m) (grownCap w (n + m) c 56)) ∧
      w' = (((w.alloc (.cells ((cs.take (i * 2)).toArray ++ Builtin.zeroCells z.cells (n + m - i) ++ Builtin.zeroCells z.cells (grownCap w (n + m) c 56 - (n + m))) 56)).drew.setCells w.heap.size (i * 2) vs).drew).setCells w.heap.size ((i + m) * 2) (cs.drop (i * 2)) := by
  have hz1 : ¬ ((m : Int) = 0) := by omega
  have hz2 : ¬ ((i : Int) = (n : Int)) := by omega
  have hz3 : (c : Int) < (n : Int) + (m : Int) := by omega
  have hsz := prSize
  have hbw : b < w.heap.size := block_lt_of_cell (hcs 0 _ (List.getElem?_eq_getElem (by omega)))
  have hvw : vb < w.heap.size := block_lt_of_cell (hvs 0 _ (List.getElem?_eq_getElem (by omega)))
  have hkk : (n : Int) + (m : Int) - (i : Int) = ((n + m - i : Nat) : Int) := by omega
  have hik : i + (n + m - i) = n + m := by omega
  have hold : (Builtin.firstCells ie.size i (.slice (some ⟨b, off, none⟩) i c)).run Try.prog w.drew = .ok (cs.take (i * 2)).toArray w.drew := by
    rw [hzs]
    exact run_firstCells_some w.drew 2 i ⟨b, off, none⟩ i c (cs.take (i * 2)) (by rw [List.length_take]; omega) (fun j v hj => by
      rw [Addr.add_lit]
      rw [List.getElem?_take] at hj
      split at hj
      · exact hcs j v hj
      · cases hj)
  have hrz : ∀ ty, (Builtin.append_ #[52, 3] ty #[.slice (some ⟨b, off, none⟩) i c, .int .i64 ((n : Int) + (m : Int) - (i : Int))]).run Try.prog w =
      .ok (.slice (some ⟨w.heap.size, 0, none⟩) (n + m) (grownCap w (n + m) c 56)) (w.drew.alloc (.cells ((cs.take (i * 2)).toArray ++ Builtin.zeroCells z.cells (n + m - i) ++ Builtin.zeroCells z.cells (grownCap w (n + m) c 56 - (n + m))) 56)) := fun ty => by
    have h := Lib.run_append_grow_zeros w 52 3 ty 56 ie z .i64 .i64 Try.underlying52 Try.underlying3 hie hz0 (some ⟨b, off, none⟩) i c (cs.take (i * 2)) hold (n + m - i) (by omega) (by omega) (by omega) (by omega) (by rw [hzb]; omega) (by rw [hzb, hik]; exact growslice_fits hroom hbig)
    rw [hik] at h
    rw [hkk]
    exact h
  obtain ⟨G, hG⟩ : ∃ G, G = grownCap w (n + m) c 56 := ⟨_, rfl⟩
  obtain ⟨ROW, hROW⟩ : ∃ ROW : Array Value, ROW = (cs.take (i * 2)).toArray ++ Builtin.zeroCells z.cells (n + m - i) ++ Builtin.zeroCells z.cells (G - (n + m)) := ⟨_, rfl⟩
  rw [← hG] at hrz ⊢
  rw [← hROW] at hrz ⊢
  have hRl : (n + m) * 2 ≤ ROW.size := by
    rw [hROW]
    simp [Builtin.zeroCells, hzc]
    omega
  obtain ⟨W1, hW1⟩ : ∃ W1, W1 = w.drew.alloc (.cells ROW 56) := ⟨_, rfl⟩
  rw [← hW1] at hrz
  have hN : ∀ j, j < (n + m) * 2 → (W1.cell? ⟨w.heap.size, j, none⟩).isSome = true := fun j hj => by
    rw [hW1, World.cell?_alloc_at (w := w.drew) ROW _ w.heap.size j rfl, Array.getElem?_eq_getElem (by omega)]; rfl
  have hNf : ∀ j, W1.frozen? ⟨w.heap.size, j, none⟩ = false := fun j => by rw [hW1]; exact World.frozen?_alloc_at (w := w.drew) ROW _ w.heap.size j rfl
  have hOb : ∀ j v, w.cell? ⟨b, j, none⟩ = some v → W1.cell? ⟨b, j, none⟩ = some v := fun j v h => by rw [hW1, World.cell?_alloc_past (w := w.drew) _ b j hbw]; exact h
  have hOv : ∀ j v, w.cell? ⟨vb, j, none⟩ = some v → W1.cell? ⟨vb, j, none⟩ = some v := fun j v h => by rw [hW1, World.cell?_alloc_past (w := w.drew) _ vb j hvw]; exact h
  have hcpA : ∀ (W : World), (∀ x, W.cell? x = W1.cell? x) → (∀ x, W.frozen? x = W1.frozen? x) → ∀ ty dc, (Builtin.copy_ #[52, 52] ty #[.slice (some ⟨w.heap.size, i * 2, none⟩) (n + m - i) dc, .slice (some ⟨vb, voff, none⟩) m vc]).run Try.prog W = .ok (goInt m) (W.setCells w.heap.size (i * 2) vs) := fun W hWc hWf ty dc =>
    run_copy_k W _ _ ty 56 2 w.heap.size (i * 2) (n + m - i) dc ⟨vb, voff, none⟩ m vc m vs Try.underlying52 hsz (by simp only [Nat.min_def]; split <;> omega) hvl
      (fun j v hj => by rw [Addr.add_lit, hWc]; exact hOv _ v (hvs j v hj))
      (fun j hj => by rw [hWc]; exact hN _ (by omega)) (fun j hj => by rw [hWf]; exact hNf _) h1v
  have hGn : n + m ≤ G := by rw [hG]; exact grownCap_ge w _ _ _
  have hG63 : G ≤ 9223372036854775807 := by
    have := grownCap_le_maxLen w (n + m) c 56 (by unfold maxLen; omega)
    rw [← hG] at this
    unfold maxLen at this
    omega
  have hGi : ¬ (G = i) := by omega
  have hGim : ¬ (G = i + m) := by omega
  have hci : ¬ (c = i) := by omega
  have hbN : b ≠ w.heap.size := by omega
  have hdl : (cs.drop (i * 2)).length = (n - i) * 2 := by rw [List.length_drop, hcl]; omega
  have hcpB : ∀ (W : World), (∀ x, W.cell? x = (W1.setCells w.heap.size (i * 2) vs).cell? x) → (∀ x, W.frozen? x = (W1.setCells w.heap.size (i * 2) vs).frozen? x) → ∀ ty dc sc, (Builtin.copy_ #[52, 52] ty #[.slice (some ⟨w.heap.size, (i + m) * 2, none⟩) (n + m - (i + m)) dc, .slice (some ⟨b, off + i * 2, none⟩) (n - i) sc]).run Try.prog W = .ok (goInt ((n - i : Nat) : Int)) (W.setCells w.heap.size ((i + m) * 2) (cs.drop (i * 2))) := fun W hWc hWf ty dc sc =>
    run_copy_k W _ _ ty 56 2 w.heap.size ((i + m) * 2) (n + m - (i + m)) dc ⟨b, off + i * 2, none⟩ (n - i) sc (n - i) (cs.drop (i * 2)) Try.underlying52 hsz (by simp only [Nat.min_def]; split <;> omega) hdl
      (fun j v hj => by
        rw [Addr.add_lit, hWc, World.cell?_setCells_out _ _ _ _ _ (fun h _ => absurd h hbN), Nat.add_assoc]
        exact hOb _ v (hcs (i * 2 + j) v (by rwa [List.getElem?_drop] at hj)))
      (fun j hj => by rw [hWc]; exact isSome_setCells _ _ _ _ (fun t ht => hN _ (by omega)) _ (hN _ (by omega)))
      (fun j hj => by rw [hWf, World.frozen?_setCells]; exact hNf _) (fun v hv => h1c v (List.mem_of_mem_drop hv))
  subst hW1
  have hE1 : ∀ x, ((w.alloc (.cells ROW 56)).drew).cell? x = (w.drew.alloc (.cells ROW 56)).cell? x := fun x => rfl
  have hE2 : ∀ x, ((w.alloc (.cells ROW 56)).drew).frozen? x = (w.drew.alloc (.cells ROW 56)).frozen? x := fun x => rfl
  have hF1 : ∀ x, (((w.alloc (.cells ROW 56)).drew.setCells w.heap.size (i * 2) vs).drew).cell? x = ((w.drew.alloc (.cells ROW 56)).setCells w.heap.size (i * 2) vs).cell? x := fun x => rfl
  have hF2 : ∀ x, (((w.alloc (.cells ROW 56)).drew.setCells w.heap.size (i * 2) vs).drew).frozen? x = ((w.drew.alloc (.cells ROW 56)).setCells w.heap.size (i * 2) vs).frozen? x := fun x => rfl
  have hw1 : IntKind.i64.wrap ((i : Int) + (m : Int)) = (i : Int) + (m : Int) := by rw [IntKind.wrap_i64]; omega
  have hb1 : (0 : Int) ≤ (i : Int) + (m : Int) := by omega
  have hin : i ≤ n := by omega
  have htn : ((i : Int) + (m : Int)).toNat = i + m := by omega
  have hb3 : (i : Int) ≤ (n : Int) := by omega
  have mixed := mixed
  clear hkk hik hold hROW hG hRl
  go_enter Try.func49, Try.ntmps49
  go_wp2_with (first
    | (at_builtin; refine Lib.wpList_append_run _ rfl _ _ _ _ rfl _ _ rfl rfl _ _ (hrz _) ?_)
    | (at_builtin; refine wpList_copy_runI _ rfl _ _ 52 52 rfl _ _ rfl rfl (hcpA _ hE1 hE2 _ _) ?_)
    | (at_builtin; refine wpList_copy_runI _ rfl _ _ 52 52 rfl _ _ rfl rfl (hcpB _ (fun _ => rfl) (fun _ => rfl) _ _ _) ?_))
  go_region_law_o (refine step_copy_runI rfl _ _ 52 52 rfl (.slice (some ⟨w.heap.size, (i + m) * 2, none⟩) (n + m - (i + m)) (G - (i + m))) (.slice (some ⟨b, off + i * 2, none⟩) (n - i) (c - i)) (by simp [Act.eval, Act.put]) (by simp [Act.eval, Act.put]) (hcpB _ hF1 hF2 3 (G - (i + m)) (c - i)) ?_)
  go_wp2
  go_ret
  exact ⟨rfl, rfl⟩
end Go.Proofs.Ytdbnohpolknbbaa
