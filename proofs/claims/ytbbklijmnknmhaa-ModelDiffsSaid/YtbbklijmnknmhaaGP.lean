/-
  Whether models are awake.
  Differences by key; equal lists: plain Lean.
  Writes that are more than is looked at; the laws of maps, of finds, of differences.
  From a law's contract to its row: every argument reads behind the call as it read before.
-/
import Derived.Test.YtbbklijmnknmhaaBx1
import Derived.Test.YtbbklijmnknmhaaYc
import Derived.Test.YtbbklijmnknmhaaLd
import Derived.Test.YtbbklijmnknmhaaRows
import Derived.Test.YtbbklijmnknmhaaE5
import Derived.ProofKit
namespace Go.Proofs.Ytbbklijmnknmhaa
open Av Bk

abbrev cuT : Ty := .st [.sl pairT, .int .i64]
abbrev B5 : Hp := [.oth (.bxs 22 (.sl pairT) []), .oth (.bxs 109 cuT [])]
theorem B5_no : NoBx B5 := by
  intro o ho
  rcases List.mem_cons.1 ho with rfl | ho
  · exact ⟨_, _, rfl⟩
  · rcases List.mem_cons.1 ho with rfl | ho
    · exact ⟨_, _, rfl⟩
    · cases ho
set_option maxRecDepth 100000 in
theorem fnOk_ex5 : FnOk Try.prog 49 Try.f49 := ⟨by rfl, by kernel_rfl, by
  show okCode _ _ = true ∧ drawsOk _ = true
  exact ⟨by kernel_rfl, by kernel_rfl⟩⟩
set_option maxRecDepth 100000 in
theorem fnOk_mNew : FnOk Try.prog 33 Try.f33 := ⟨by rfl, by kernel_rfl, by
  show okCode _ _ = true ∧ drawsOk _ = true
  exact ⟨by kernel_rfl, by kernel_rfl⟩⟩
set_option maxRecDepth 100000 in
theorem fnOk_xNone : FnOk Try.prog 71 Try.f71 := ⟨by rfl, by kernel_rfl, by
  show okCode _ _ = true ∧ drawsOk _ = true
  exact ⟨by kernel_rfl, by kernel_rfl⟩⟩
set_option maxRecDepth 100000 in
theorem fnOk_xPin : FnOk Try.prog 47 Try.f47 := ⟨by rfl, by kernel_rfl, by
  show okCode _ _ = true ∧ drawsOk _ = true
  exact ⟨by kernel_rfl, by kernel_rfl⟩⟩
set_option maxRecDepth 100000 in
theorem fnOk_xUnpin : FnOk Try.prog 48 Try.f48 := ⟨by rfl, by kernel_rfl, by
  show okCode _ _ = true ∧ drawsOk _ = true
  exact ⟨by kernel_rfl, by kernel_rfl⟩⟩
set_option maxRecDepth 100000 in
theorem fnOk_xMap : FnOk Try.prog 40 Try.f40 := ⟨by rfl, by kernel_rfl, by
  show okCode _ _ = true ∧ drawsOk _ = true
  exact ⟨by kernel_rfl, by kernel_rfl⟩⟩
set_option maxRecDepth 100000 in
theorem fnOk_xVer : FnOk Try.prog 75 Try.f75 := ⟨by rfl, by kernel_rfl, by
  show okCode _ _ = true ∧ drawsOk _ = true
  exact ⟨by kernel_rfl, by kernel_rfl⟩⟩
set_option maxRecDepth 100000 in
theorem fnOk_tpGive : FnOk Try.prog 84 Try.f84 := ⟨by rfl, by kernel_rfl, by
  show okCode _ _ = true ∧ drawsOk _ = true
  exact ⟨by kernel_rfl, by kernel_rfl⟩⟩
set_option maxRecDepth 100000 in
theorem fnOk_tpGive1 : FnOk Try.prog 101 Try.f101 := ⟨by rfl, by kernel_rfl, by
  show okCode _ _ = true ∧ drawsOk _ = true
  exact ⟨by kernel_rfl, by kernel_rfl⟩⟩
set_option maxRecDepth 100000 in
theorem fnOk_tpDrop : FnOk Try.prog 85 Try.f85 := ⟨by rfl, by kernel_rfl, by
  show okCode _ _ = true ∧ drawsOk _ = true
  exact ⟨by kernel_rfl, by kernel_rfl⟩⟩
set_option maxRecDepth 100000 in
theorem fnOk_tpLook : FnOk Try.prog 95 Try.f95 := ⟨by rfl, by kernel_rfl, by
  show okCode _ _ = true ∧ drawsOk _ = true
  exact ⟨by kernel_rfl, by kernel_rfl⟩⟩
set_option maxRecDepth 100000 in
theorem fnOk_tpIdx : FnOk Try.prog 100 Try.f100 := ⟨by rfl, by kernel_rfl, by
  show okCode _ _ = true ∧ drawsOk _ = true
  exact ⟨by kernel_rfl, by kernel_rfl⟩⟩
noncomputable def cxyi : Cx := ⟨tb, [(49, Try.f49), (33, Try.f33), (71, Try.f71), (47, Try.f47), (48, Try.f48), (40, Try.f40), (75, Try.f75), (84, Try.f84), (101, Try.f101), (85, Try.f85), (95, Try.f95), (100, Try.f100)], [(26, .d spFl5), (28, .d spCe5), (16, .d spWr), (19, .d spDiff), (18, .d spSameP), (21, .d spSameI), (51, .f spClP)]⟩
theorem specsyi : SpecsOk Try.prog cxyi.specs := .cons mFloor_ok (.cons mCeil_ok (.cons mWrite_ok (.cons mDiff_ok (.cons same05_ok (.cons sameIt_ok (.consF cloneP_ok .nil))))))
theorem fnsyi : FnsOk Try.prog cxyi.fns := .cons fnOk_ex5 (.cons fnOk_mNew (.cons fnOk_xNone (.cons fnOk_xPin (.cons fnOk_xUnpin (.cons fnOk_xMap (.cons fnOk_xVer (.cons fnOk_tpGive (.cons fnOk_tpGive1 (.cons fnOk_tpDrop (.cons fnOk_tpLook (.cons fnOk_tpIdx .nil)))))))))))
def spAw5 : DSpec
  | [] => some (True, .bool true)
  | _ => none
set_option maxRecDepth 100000 in
theorem fnOk_awake5 : FnOk Try.prog 13 Try.f13 := ⟨by rfl, by kernel_rfl, by
  show okCode _ _ = true ∧ drawsOk _ = true
  exact ⟨by kernel_rfl, by kernel_rfl⟩⟩
set_option maxRecDepth 100000 in
set_option maxHeartbeats 8000000 in
theorem awake5_ok : SpecOk Try.prog 13 spAw5 := by
  refine spec_bodyB (C := cxyi) mixed tbOk specsyi (callN_ok (C := cxyi) mixed tbOk specsyi fnsyi 6) fnOk_awake5 B5_no ?_
  intro ys p r h hp
  unfold spAw5 at h
  split at h
  · cases h
    conv => whnf
    repeat' first
      | (refine br_true (by first | with_reducible exact rfl | decide | rfl) ?_; conv => whnf)
      | (refine br_false (by first | with_reducible exact rfl | decide | rfl) ?_; conv => whnf)
      | (refine need_in (by first | exact trivial | exact ⟨rfl, Nat.le_refl _⟩ | exact ⟨rfl, Nat.le_of_ble_eq_true rfl⟩ | exact ⟨rfl, Nat.le_of_ble_eq_true rfl, Nat.le_of_ble_eq_true rfl, Nat.le_of_ble_eq_true rfl⟩ | decide | (simp only [inR]; omega) | omega) ?_; conv => whnf)
      | (refine frz_auto ?_; conv => whnf)
      | (refine draw_plain ?_; conv => whnf)
      | (refine idx_cl ?_; (conv => whnf); refine ⟨by first | decide | (refine ⟨?_, ?_⟩ <;> simp) | (refine ⟨?_, ?_⟩ <;> (simp; omega)), ?_⟩; conv => whnf)
      | (refine bx_intro (fun b hb => ?_); conv => whnf)
      | (refine loop_turns 3 ?_; conv => whnf)
      | fail
    rfl
  · cases h
end Go.Proofs.Ytbbklijmnknmhaa
namespace Go.Proofs.Ytbbklijmnknmhaa
open Av Bk

/-! ### Lists that ascend -/
theorem ascK_ext {α : Type} {key : α → ByteArray} : ∀ {a b : List α}, ascK key a → ascK key b → (∀ p, p ∈ a ↔ p ∈ b) → a = b
  | [], [], _, _, _ => rfl
  | [], y :: b, _, _, h => absurd ((h y).2 (by simp)) (by simp)
  | x :: a, [], _, _, h => absurd ((h x).1 (by simp)) (by simp)
  | x :: a, y :: b, ha, hb, h => by
    have ha' := List.pairwise_cons.1 ha
    have hb' := List.pairwise_cons.1 hb
    have hxy : x = y := by
      rcases List.mem_cons.1 ((h x).1 (by simp)) with e | hx
      · exact e
      · rcases List.mem_cons.1 ((h y).2 (by simp)) with e | hy
        · exact e.symm
        · have h1 := hb'.1 x hx
          have h2 := ha'.1 y hy
          rw [sLt_asym h1] at h2
          cases h2
    subst hxy
    rw [ascK_ext ha'.2 hb'.2 (fun p => ?_)]
    constructor
    · intro hp
      rcases List.mem_cons.1 ((h p).1 (by simp [hp])) with rfl | h1
      · have := ha'.1 p hp
        rw [sLt_irrefl] at this
        cases this
      · exact h1
    · intro hp
      rcases List.mem_cons.1 ((h p).2 (by simp [hp])) with rfl | h1
      · have := hb'.1 p hp
        rw [sLt_irrefl] at this
        cases this
      · exact h1
/-- The items of a key. -/
abbrev atK (l : List itemT.El) (k : ByteArray) : List itemT.El := l.filter (fun x => sEq x.2.1 k)
theorem items_ext {a b : List itemT.El} (ha : ascK itK a) (hb : ascK itK b) (h : ∀ k, atK a k = atK b k) : a = b := by
  refine ascK_ext ha hb (fun p => ?_)
  have key : ∀ l : List itemT.El, p ∈ l ↔ p ∈ atK l p.2.1 := fun l => by
    rw [List.mem_filter, sEq_iff]
    exact ⟨fun h => ⟨h, rfl⟩, fun h => h.1⟩
  rw [key a, key b, h]
/-! ### Differences by key -/
theorem diff_lb : ∀ {X Y : List pairT.El} {k : ByteArray}, (∀ p ∈ X, sLt k p.1 = true) → (∀ p ∈ Y, sLt k p.1 = true) → ∀ z ∈ diffL X Y, sLt k z.2.1 = true
  | [], Y, k, _, hY => by
    intro z hz
    obtain ⟨y, hy, rfl⟩ := List.mem_map.1 (show z ∈ Y.map newI from hz)
    exact hY y hy
  | x :: X, Y, k, hX, hY => by
    have hx := hX x List.mem_cons_self
    have hX2 : ∀ p ∈ X, sLt k p.1 = true := fun p hp => hX p (List.mem_cons_of_mem _ hp)
    induction Y with
    | nil =>
      intro z hz
      rw [diffL_cons_nil] at hz
      rcases List.mem_cons.1 hz with rfl | hz
      · exact hx
      · exact diff_lb hX2 (by simp) z hz
    | cons y Y ih =>
      have hy := hY y List.mem_cons_self
      have hY2 : ∀ p ∈ Y, sLt k p.1 = true := fun p hp => hY p (List.mem_cons_of_mem _ hp)
      intro z hz
      by_cases h1 : sLt x.1 y.1 = true
      · rw [diffL_lt _ _ h1] at hz
        rcases List.mem_cons.1 hz with rfl | hz
        · exact hx
        · exact diff_lb hX2 hY z hz
      · have h1 : sLt x.1 y.1 = false := by simpa using h1
        by_cases h2 : sLt y.1 x.1 = true
        · rw [diffL_gt _ _ h2] at hz
          rcases List.mem_cons.1 hz with rfl | hz
          · exact hy
          · exact ih hY2 z hz
        · have h2 : sLt y.1 x.1 = false := by simpa using h2
          by_cases h3 : sEq x.2.1 y.2.1 = true
          · rw [diffL_eq _ _ h1 h2 h3] at hz
            exact diff_lb hX2 hY2 z hz
          · have h3 : sEq x.2.1 y.2.1 = false := by simpa using h3
            rw [diffL_ne _ _ h1 h2 h3] at hz
            rcases List.mem_cons.1 hz with rfl | hz
            · exact hx
            · exact diff_lb hX2 hY2 z hz
theorem lk_gt {m : List pairT.El} {k : ByteArray} (h : ∀ p ∈ m, sLt k p.1 = true) : lkV m k = none := lkV_none.2 (fun p hp => (sLt_ne (h p hp)).symm)
theorem at_cons (x : itemT.El) (l : List itemT.El) (k : ByteArray) : atK (x :: l) k = if x.2.1 = k then x :: atK l k else atK l k := by
  by_cases h : x.2.1 = k
  · rw [if_pos h]
    exact List.filter_cons_of_pos (by rw [sEq_iff]; exact h)
  · rw [if_neg h]
    exact List.filter_cons_of_neg (by rw [sEq_iff]; exact h)
/-- Differences ascend; of each key there is what both tables say. -/
theorem diff_spec : ∀ {X Y : List pairT.El}, ascP X → ascP Y → ascK itK (diffL X Y) ∧ ∀ k, atK (diffL X Y) k = dfI k (lkV X k) (lkV Y k)
  | [], Y, _, hY => by
    induction Y with
    | nil => exact ⟨List.Pairwise.nil, fun k => rfl⟩
    | cons y Y ih =>
      obtain ⟨hy, hY2⟩ := List.pairwise_cons.1 hY
      obtain ⟨h1, h2⟩ := ih hY2
      rw [diffL_nil_cons]
      refine ⟨List.pairwise_cons.2 ⟨fun z hz => diff_lb (by simp) hy z hz, h1⟩, fun k => ?_⟩
      rw [at_cons, h2, lkV_cons]
      by_cases hk : y.1 = k
      · rw [if_pos (show (newI y).2.1 = k from hk), if_pos hk, lk_gt (m := Y) (fun p hp => by rw [← hk]; exact hy p hp)]
        subst hk
        rfl
      · rw [if_neg (show ¬ (newI y).2.1 = k from hk), if_neg hk]
  | x :: X, Y, hX, hY => by
    obtain ⟨hx, hX2⟩ := List.pairwise_cons.1 hX
    induction Y with
    | nil =>
      obtain ⟨h1, h2⟩ := diff_spec hX2 (Y := []) List.Pairwise.nil
      rw [diffL_cons_nil]
      refine ⟨List.pairwise_cons.2 ⟨fun z hz => diff_lb hx (by simp) z hz, h1⟩, fun k => ?_⟩
      rw [at_cons, h2, lkV_cons]
      by_cases hk : x.1 = k
      · rw [if_pos (show (goneI x).2.1 = k from hk), if_pos hk, lk_gt (m := X) (fun p hp => by rw [← hk]; exact hx p hp)]
        subst hk
        rfl
      · rw [if_neg (show ¬ (goneI x).2.1 = k from hk), if_neg hk]
    | cons y Y ih =>
      obtain ⟨hy, hY2⟩ := List.pairwise_cons.1 hY
      by_cases c1 : sLt x.1 y.1 = true
      · obtain ⟨h1, h2⟩ := diff_spec hX2 hY
        have hxY : ∀ p ∈ y :: Y, sLt x.1 p.1 = true := fun p hp => by
          rcases List.mem_cons.1 hp with rfl | hp
          · exact c1
          · exact sLt_trans c1 (hy p hp)
        rw [diffL_lt _ _ c1]
        refine ⟨List.pairwise_cons.2 ⟨fun z hz => diff_lb hx hxY z hz, h1⟩, fun k => ?_⟩
        rw [at_cons, h2, lkV_cons x X]
        by_cases hk : x.1 = k
        · rw [if_pos (show (goneI x).2.1 = k from hk), if_pos hk, lk_gt (m := X) (fun p hp => by rw [← hk]; exact hx p hp), lk_gt (m := y :: Y) (fun p hp => by rw [← hk]; exact hxY p hp)]
          subst hk
          rfl
        · rw [if_neg (show ¬ (goneI x).2.1 = k from hk), if_neg hk]
      · have c1 : sLt x.1 y.1 = false := by simpa using c1
        by_cases c2 : sLt y.1 x.1 = true
        · obtain ⟨h1, h2⟩ := ih hY2
          have hyX : ∀ p ∈ x :: X, sLt y.1 p.1 = true := fun p hp => by
            rcases List.mem_cons.1 hp with rfl | hp
            · exact c2
            · exact sLt_trans c2 (hx p hp)
          rw [diffL_gt _ _ c2]
          refine ⟨List.pairwise_cons.2 ⟨fun z hz => diff_lb hyX hy z hz, h1⟩, fun k => ?_⟩
          rw [at_cons, h2, lkV_cons y Y]
          by_cases hk : y.1 = k
          · rw [if_pos (show (newI y).2.1 = k from hk), if_pos hk, lk_gt (m := Y) (fun p hp => by rw [← hk]; exact hy p hp), lk_gt (m := x :: X) (fun p hp => by rw [← hk]; exact hyX p hp)]
            subst hk
            rfl
          · rw [if_neg (show ¬ (newI y).2.1 = k from hk), if_neg hk]
        · have c2 : sLt y.1 x.1 = false := by simpa using c2
          have hxy : x.1 = y.1 := sLt_ext c1 c2
          obtain ⟨h1, h2⟩ := diff_spec hX2 hY2
          have hyx : ∀ p ∈ Y, sLt x.1 p.1 = true := fun p hp => by rw [hxy]; exact hy p hp
          by_cases c3 : sEq x.2.1 y.2.1 = true
          · rw [diffL_eq _ _ c1 c2 c3]
            refine ⟨h1, fun k => ?_⟩
            rw [h2, lkV_cons, lkV_cons]
            by_cases hk : x.1 = k
            · rw [if_pos hk, if_pos (hxy.symm.trans hk), lk_gt (m := X) (fun p hp => by rw [← hk]; exact hx p hp), lk_gt (m := Y) (fun p hp => by rw [← hk]; exact hyx p hp), sEq_iff.1 c3]
              unfold dfI
              rw [if_pos rfl, if_pos rfl]
            · rw [if_neg hk, if_neg (fun e => hk (hxy.trans e))]
          · have c3 : sEq x.2.1 y.2.1 = false := by simpa using c3
            rw [diffL_ne _ _ c1 c2 c3]
            refine ⟨List.pairwise_cons.2 ⟨fun z hz => diff_lb hx hyx z hz, h1⟩, fun k => ?_⟩
            rw [at_cons, h2, lkV_cons, lkV_cons]
            by_cases hk : x.1 = k
            · rw [if_pos (show (otherI x y).2.1 = k from hk), if_pos hk, if_pos (hxy.symm.trans hk), lk_gt (m := X) (fun p hp => by rw [← hk]; exact hx p hp), lk_gt (m := Y) (fun p hp => by rw [← hk]; exact hyx p hp)]
              subst hk
              have hne := sEq_no.1 c3
              unfold dfI
              rw [if_pos rfl, if_neg (by simpa using hne)]
              rfl
            · rw [if_neg (show ¬ (otherI x y).2.1 = k from hk), if_neg hk, if_neg (fun e => hk (hxy.trans e))]

theorem dfR_len (a b : List pairT.El) : (dfR a b).1.length ≤ 8000 := by
  unfold dfR
  split
  · simp
  · rename_i h1
    split
    · simp
    · rename_i h2
      have h3 := diffL_len a b
      have h4 := mcL_len (by simpa using h1)
      have h5 := mcL_len (by simpa using h2)
      show (diffL a b).length ≤ 8000
      omega
theorem find_at {l : List itemT.El} {k : ByteArray} : l.find? (fun x => sEq x.2.1 k) = (atK l k).head? := by
  rw [List.head?_filter]
theorem turn_df (k : ByteArray) (a b : Option ByteArray) : (dfI k a b).map turnI = dfI k b a := by
  cases a with
  | none =>
    cases b with
    | none => rfl
    | some w => rfl
  | some v =>
    cases b with
    | none => rfl
    | some w =>
      unfold dfI
      by_cases h : v = w
      · subst h
        rw [if_pos rfl]; rfl
      · have h1 : ¬ (some v : Option ByteArray) = some w := fun e => h (Option.some.inj e)
        have h2 : ¬ (some w : Option ByteArray) = some v := fun e => h (Option.some.inj e).symm
        rw [if_neg h1, if_neg h2]; rfl
/-- Differences the other way. -/
theorem diff_turn {X Y : List pairT.El} (hX : ascP X) (hY : ascP Y) : diffL Y X = (diffL X Y).map turnI := by
  have h1 := diff_spec hX hY
  refine items_ext (diff_spec hY hX).1 ?_ (fun k => ?_)
  · exact List.Pairwise.map turnI (fun a b h => h) h1.1
  · rw [(diff_spec hY hX).2, ← turn_df, ← h1.2]
    show _ = ((diffL X Y).map turnI).filter _
    rw [List.filter_map]
    rfl

end Go.Proofs.Ytbbklijmnknmhaa
namespace Go.Proofs.Ytbbklijmnknmhaa
open Av Bk

theorem farM_len {m : List pairT.El} (h : farM m = false) : m.length ≤ 4005 := by
  unfold farM at h
  split at h
  · cases h
  · rename_i ho
    omega
theorem eqIt_refl (x : itemT.El) : eqT itemT x x = true := by
  show ((x.1 == x.1) && (sEq x.2.1 x.2.1 && (sEq x.2.2.1 x.2.2.1 && sEq x.2.2.2.1 x.2.2.2.1))) = true
  rw [sEq_refl, sEq_refl, sEq_refl, beq_self_eq_true]
  rfl
theorem sameI_refl : ∀ l : List itemT.El, sameL itemT l l = true
  | [] => rfl
  | x :: l => by
    rw [sameL, sameI_refl l, eqIt_refl]
    rfl
theorem df_turn (a b : List pairT.El) : (dfR b a).1 = (dfR a b).1.map turnI ∧ ((dfR a b).2 = 0 ↔ (dfR b a).2 = 0) := by
  unfold dfR
  by_cases ha : (mcL a).2 = 0
  · by_cases hb : (mcL b).2 = 0
    · rw [if_neg (by simpa using hb), if_neg (by simpa using ha), if_neg (by simpa using ha), if_neg (by simpa using hb)]
      exact ⟨diff_turn (mcL_zero ha).2.2 (mcL_zero hb).2.2, Iff.rfl⟩
    · rw [if_pos hb, if_neg (by simpa using ha), if_pos hb]
      exact ⟨rfl, Iff.rfl⟩
  · by_cases hb : (mcL b).2 = 0
    · rw [if_neg (by simpa using hb), if_pos ha, if_pos ha]
      exact ⟨rfl, Iff.rfl⟩
    · rw [if_pos hb, if_pos ha]
      exact ⟨rfl, fun h => absurd h ha, fun h => absurd h hb⟩
set_option maxRecDepth 100000 in
theorem fnOk_lDi : FnOk Try.prog 5 Try.f5 := ⟨by rfl, by kernel_rfl, by
  show okCode _ _ = true ∧ drawsOk _ = true
  exact ⟨by kernel_rfl, by kernel_rfl⟩⟩
noncomputable def lDi_C : Cx := ⟨tb, [], [(13, spAw5), (11, spFarM), (19, spDiff), (20, spDiff), (22, spTurn), (23, spTurn), (21, spSameI)]⟩
theorem lDi_D : SpecsOk Try.prog lDi_C.specs := .cons awake5_ok (.cons farM_ok (.cons mDiff_ok (.cons r05Diff_ok (.cons mTurn_ok (.cons rTurn_ok (.cons sameIt_ok .nil))))))
theorem lDi_F : FnsOk Try.prog lDi_C.fns := FnsOk.nil
abbrev lDi_N : Nat := 0
abbrev lDi_T : List Ty := [.sl pairT, .sl pairT, .sl itemT]
abbrev lDi_FN := fnOk_lDi
set_option maxRecDepth 100000 in
set_option maxHeartbeats 4000000 in
theorem lDi : ∀ es : Ty.Els lDi_T, tyOks lDi_T es → bodyA lDi_C (callN lDi_C lDi_N) Try.f5 (avTs lDi_T es) [] (fun v _ => v = .bool true) := by
  rintro ⟨a, b, l, _⟩ -
  show bodyA _ _ _ [.lst pairT a, .lst pairT b, .lst itemT l] [] _
  cases hA : farM a with
  | true =>
    conv => whnf
    repeat' first
      | ((first | refine auIk ?_ | refine auIi ?_ | refine auT ?_ | refine auF ?_ | with_reducible first | refine auKt ?_ | refine auKf ?_ | refine auNt ?_ | refine auNf ?_ | refine auEt ?_ | refine auEf ?_); conv => whnf)
      | ((with_reducible first | refine br_dec (fun h => ?_) (fun h => ?_) | refine br_ndec (fun h => ?_) (fun h => ?_) | refine br_ne (fun h => ?_) (fun h => ?_) | refine br_eq (fun h => ?_) (fun h => ?_)) <;> first | (exfalso; omega) | conv => whnf)
      | (refine br_intro (fun h => ?_) (fun h => ?_) <;> conv => whnf)
      | ((first | refine auNd ?_ | refine idx_nat (by omega) (fun x hx => ?_) | refine frz_auto ?_ | refine draw_plain ?_ | refine auIx (fun x hx => ?_)); conv => whnf)
      | ((first | refine bx_idx ?_ | refine bx_intro (fun b hb => ?_)); conv => whnf)
  | false =>
    cases hB : farM b with
    | true =>
      conv => whnf
      repeat' first
        | ((first | refine auIk ?_ | refine auIi ?_ | refine auT ?_ | refine auF ?_ | with_reducible first | refine auKt ?_ | refine auKf ?_ | refine auNt ?_ | refine auNf ?_ | refine auEt ?_ | refine auEf ?_); conv => whnf)
        | ((with_reducible first | refine br_dec (fun h => ?_) (fun h => ?_) | refine br_ndec (fun h => ?_) (fun h => ?_) | refine br_ne (fun h => ?_) (fun h => ?_) | refine br_eq (fun h => ?_) (fun h => ?_)) <;> first | (exfalso; omega) | conv => whnf)
        | (refine br_intro (fun h => ?_) (fun h => ?_) <;> conv => whnf)
        | ((first | refine auNd ?_ | refine idx_nat (by omega) (fun x hx => ?_) | refine frz_auto ?_ | refine draw_plain ?_ | refine auIx (fun x hx => ?_)); conv => whnf)
        | ((first | refine bx_idx ?_ | refine bx_intro (fun b hb => ?_)); conv => whnf)
    | false =>
      by_cases hl : 60 < (l.length : Int)
      · conv => whnf
        repeat' first
          | ((first | refine auIk ?_ | refine auIi ?_ | refine auT ?_ | refine auF ?_ | with_reducible first | refine auKt ?_ | refine auKf ?_ | refine auNt ?_ | refine auNf ?_ | refine auEt ?_ | refine auEf ?_); conv => whnf)
          | ((with_reducible first | refine br_dec (fun h => ?_) (fun h => ?_) | refine br_ndec (fun h => ?_) (fun h => ?_) | refine br_ne (fun h => ?_) (fun h => ?_) | refine br_eq (fun h => ?_) (fun h => ?_)) <;> first | (exfalso; omega) | conv => whnf)
          | (refine br_intro (fun h => ?_) (fun h => ?_) <;> conv => whnf)
          | ((first | refine auNd ?_ | refine idx_nat (by omega) (fun x hx => ?_) | refine frz_auto ?_ | refine draw_plain ?_ | refine auIx (fun x hx => ?_)); conv => whnf)
          | ((first | refine bx_idx ?_ | refine bx_intro (fun b hb => ?_)); conv => whnf)
      · have ha := farM_len hA
        have hb := farM_len hB
        have hl60 : l.length ≤ 100000 := by
          have : List.length l ≤ 60 := by omega
          exact Nat.le_trans this (by decide)
        have hd := dfR_len a b
        have hd2 := dfR_len b a
        have hd3 : (dfR a b).1.length ≤ 100000 := by omega
        obtain ⟨ht, he⟩ := df_turn a b
        have s1 : (!sameL itemT (dfR a b).1 (dfR a b).1) = false := by rw [sameI_refl]; rfl
        have s2 : (!sameL itemT (l.map turnI) (l.map turnI)) = false := by rw [sameI_refl]; rfl
        have s3 : sameL itemT (dfR b a).1 ((dfR a b).1.map turnI) = true := by rw [ht]; exact sameI_refl _
        have hlm : (l.map turnI).length ≤ 100000 := by rw [List.length_map]; exact hl60
        have he2 : (((dfR a b).2 != 0) == ((dfR b a).2 != 0)) = true := by
          by_cases h : (dfR a b).2 = 0
          · rw [h, he.1 h]; rfl
          · have h2 : (dfR b a).2 ≠ 0 := fun h2 => h (he.2 h2)
            have g1 : ((dfR a b).2 != 0) = true := bne_iff_ne.2 h
            have g2 : ((dfR b a).2 != 0) = true := bne_iff_ne.2 h2
            rw [g1, g2]; rfl
        conv => whnf
        repeat' first
          | ((first | refine auIk ?_ | refine auIi ?_ | refine auT ?_ | refine auF ?_ | with_reducible first | refine auKt ?_ | refine auKf ?_ | refine auNt ?_ | refine auNf ?_ | refine auEt ?_ | refine auEf ?_); conv => whnf)
          | ((with_reducible first | refine br_dec (fun h => ?_) (fun h => ?_) | refine br_ndec (fun h => ?_) (fun h => ?_) | refine br_ne (fun h => ?_) (fun h => ?_) | refine br_eq (fun h => ?_) (fun h => ?_)) <;> first | (exfalso; omega) | conv => whnf)
          | (refine br_intro (fun h => ?_) (fun h => ?_) <;> conv => whnf)
          | ((first | refine auNd ?_ | refine idx_nat (by omega) (fun x hx => ?_) | refine frz_auto ?_ | refine draw_plain ?_ | refine auIx (fun x hx => ?_)); conv => whnf)
          | ((first | refine bx_idx ?_ | refine bx_intro (fun b hb => ?_)); conv => whnf)
end Go.Proofs.Ytbbklijmnknmhaa
namespace Go.Proofs.Ytbbklijmnknmhaa
open Go.ChangeShapes Go.WideShapes Go.ChangeAt Go.RowKit Go.Joins Go.Deep Av

theorem Try.own : ownKnob Try.prog.godebug = none := by kernel_rfl
theorem Try.laidOut : laidOutB Try.prog = true := by kernel_rfl

section
variable {H : Type} {enc : TypeId × Value → H} {w : World}

/-- Every argument reads as it did. -/
theorem all_below {W W' : World} (hb : Below W.heap.size W W') : ∀ (ts : List TypeId) (vs : List Value) (ds : List (DataW H)) (ps : List MemPlace), (∀ t ∈ ts, Try.prog.readableRec t = true ∧ t < Try.prog.types.size) →
    DataW.TrodAll enc Try.prog W 0 (fun _ => true) true ts vs ds ps → (∀ x ∈ ps, x.block < W.heap.size) → DataW.TrodAll enc Try.prog W' 0 (fun b => decide (b < W.heap.size)) true ts vs ds ps
  | [], vs, ds, ps, _, h, _ => by
    obtain ⟨rfl, rfl, rfl⟩ := trodAll_nil h
    exact trodAll_mk0
  | t :: ts, vs, ds, ps, hr, h, hlt => by
    obtain ⟨v, vs', d, ds', p, q, rfl, rfl, rfl, h1, h2⟩ := trodAll_cons h
    obtain ⟨r1, r2⟩ := hr t (by simp)
    exact trodAll_cons_mk (Below.trod Try.laidOut r1 r2 h1 hb (fun x hx => hlt x (by simp [hx]))) (all_below hb ts vs' ds' q (fun t' ht' => hr t' (by simp [ht'])) h2 (fun x hx => hlt x (by simp [hx])))

/-- What the row asks of the end of a law. -/
theorem law_post {f : Func} {s : ChangeSpec} {W W' : World} {args : Array Value} {ds gs : List (DataW H)} {before : List MemPlace} (hW : DataW.Whole enc Try.prog f.params.toList s.vars false W args.toList ds gs before)
    (hv : s.vars = []) (hres : (s.fn H (ds ++ [])).results = [.lit (.bool true)]) (hargs : (s.fn H (ds ++ [])).args = ds) (hvs : (s.fn H (ds ++ [])).vars = []) (hR : f.resultTypes = #[4])
    (hr : ∀ t ∈ f.params.toList, Try.prog.readableRec t = true ∧ t < Try.prog.types.size) (hb : Below W.heap.size W W') :
    s.post enc Try.prog f false true false false W args (.bool true) W' := by
  have hlt := hW.lt
  have hW' := hW
  obtain ⟨p, q, hA, hV, rfl, _, _⟩ := hW
  rw [hv] at hV
  obtain ⟨rfl, rfl⟩ := trodVars_none hV
  refine ⟨ds, [], p ++ [], [], p, [], hW', ?_, ?_, ?_, hb.frame _, fun h => by cases h⟩
  · rw [hres, hR]
    exact trodAll_mk1 (shut_bool Try.underlying4 true)
  · rw [hargs]
    exact all_below hb _ _ _ _ hr hA (fun x hx => hlt x (by simp [hx]))
  · rw [hv, hvs]
    exact rfl


theorem trodAll_len {W : World} {base : Nat} {spare : Nat → Bool} {held : Bool} : ∀ {ts : List TypeId} {vs : List Value} {ds : List (DataW H)} {ps : List MemPlace}, DataW.TrodAll enc Try.prog W base spare held ts vs ds ps → ds.length = ts.length
  | [], vs, ds, ps, h => by
    obtain ⟨rfl, rfl, rfl⟩ := trodAll_nil h
    rfl
  | t :: ts, vs, ds, ps, h => by
    obtain ⟨v, vs', D, ds', p, q, rfl, rfl, rfl, h1, h2⟩ := trodAll_cons h
    simp only [List.length_cons, trodAll_len h2]
theorem arr_get {α : Type} {a : Array α} {j : Nat} {x : α} (h : a.toList[j]? = some x) : a[j]? = some x := by simpa using h
end
end Go.Proofs.Ytbbklijmnknmhaa
