/-
  The value of a key by the reference; the pairs of a range, by both.
  Differences turned round, by the code.
  Walks that begin with boxes of which none is there yet.
  Whether models are awake.
  Differences by key; equal lists: plain Lean.
  Writes that are more than is looked at; the laws of maps, of finds, of differences.
  From a law's contract to its row: every argument reads behind the call as it read before.
-/
import Derived.Test.YtbbklijmnknmhaaYf
import Derived.Test.YtbbklijmnknmhaaUe
import Derived.Test.YtbbklijmnknmhaaYe
import Derived.Test.YtbbklijmnknmhaaRows
import Derived.Test.YtbbklijmnknmhaaE5
import Derived.ProofKit
namespace Go.Proofs.Ytbbklijmnknmhaa
open Av Bk

set_option maxRecDepth 100000 in
theorem fnOk_rGet7 : FnOk Try.prog 25 Try.f25 := ⟨by rfl, by kernel_rfl, by
  show okCode _ _ = true ∧ drawsOk _ = true
  exact ⟨by kernel_rfl, by kernel_rfl⟩⟩
noncomputable def cxyg : Cx := ⟨tb, [], [(29, spCe5)]⟩
theorem specsyg : SpecsOk Try.prog cxyg.specs := .cons rCeil7_ok .nil
set_option maxRecDepth 100000 in
set_option maxHeartbeats 4000000 in
theorem rGet7_ok : SpecOk Try.prog 25 spGt5 := by
  refine spec_body (C := cxyg) mixed tbOk specsyg (callN_ok (C := cxyg) mixed tbOk specsyg FnsOk.nil 0) fnOk_rGet7 ?_
  intro ys p r h hp
  unfold spGt5 at h
  split at h
  · rename_i m k
    cases h
    by_cases hm : (mcL m).2 = 0
    · by_cases hk : 32 < (k.size : Int)
      · have e : gtR m k = _ := gate_k hm hk
        have e2 : ceR m k = _ := gate_k hm hk
        conv => whnf
        simp only [e2]
        repeat' first
          | ((first | refine auIk ?_ | refine auIi ?_ | refine auT ?_ | refine auF ?_ | with_reducible first | refine auKt ?_ | refine auKf ?_ | refine auNt ?_ | refine auNf ?_ | refine auEt ?_ | refine auEf ?_); conv => whnf)
          | ((with_reducible first | refine br_dec (fun h => ?_) (fun h => ?_) | refine br_ndec (fun h => ?_) (fun h => ?_) | refine br_ne (fun h => ?_) (fun h => ?_) | refine br_eq (fun h => ?_) (fun h => ?_)) <;> first | (exfalso; omega) | conv => whnf)
          | (refine br_intro (fun h => ?_) (fun h => ?_) <;> conv => whnf)
          | ((first | refine auNd ?_ | refine idx_nat (by omega) (fun x hx => ?_) | refine frz_auto ?_ | refine draw_plain ?_ | refine auIx (fun x hx => ?_)); conv => whnf)
          | ((first | refine bx_idx ?_ | refine bx_intro (fun b hb => ?_)); conv => whnf)
        all_goals exact st_eq e
      · have e : gtR m k = _ := gate_r hm hk
        have e2 : ceR m k = _ := gate_r hm hk
        have hml := mcL_zero hm
        have hlb := lkV_lb hml.2.2 k
        by_cases hlt : lbP k m < m.length
        · obtain ⟨y, hy⟩ : ∃ y, m[lbP k m]? = some y := ⟨_, List.getElem?_eq_getElem hlt⟩
          rw [hy] at hlb
          have e3 : ceR m k = (y, 0) := by rw [e2, if_pos hlt, hy]; rfl
          cases hs : sEq y.1 k with
          | true =>
            have hks : lkV m k = some y.2.1 := by rw [hlb]; exact if_pos hs
            have hsb : (!sEq y.1 k) = false := by rw [hs]; rfl
            rw [hks] at e
            conv => whnf
            simp only [e3]
            repeat' first
              | ((first | refine auIk ?_ | refine auIi ?_ | refine auT ?_ | refine auF ?_ | with_reducible first | refine auKt ?_ | refine auKf ?_ | refine auNt ?_ | refine auNf ?_ | refine auEt ?_ | refine auEf ?_); conv => whnf)
              | ((with_reducible first | refine br_dec (fun h => ?_) (fun h => ?_) | refine br_ndec (fun h => ?_) (fun h => ?_) | refine br_ne (fun h => ?_) (fun h => ?_) | refine br_eq (fun h => ?_) (fun h => ?_)) <;> first | (exfalso; omega) | conv => whnf)
              | (refine br_intro (fun h => ?_) (fun h => ?_) <;> conv => whnf)
              | ((first | refine auNd ?_ | refine idx_nat (by omega) (fun x hx => ?_) | refine frz_auto ?_ | refine draw_plain ?_ | refine auIx (fun x hx => ?_)); conv => whnf)
              | ((first | refine bx_idx ?_ | refine bx_intro (fun b hb => ?_)); conv => whnf)
            exact st_eq (a := (y.2.1, 0)) e
          | false =>
            have hks : lkV m k = none := by rw [hlb]; exact if_neg (by rw [hs]; decide)
            have hsb : (!sEq y.1 k) = true := by rw [hs]; rfl
            rw [hks] at e
            conv => whnf
            simp only [e3]
            repeat' first
              | ((first | refine auIk ?_ | refine auIi ?_ | refine auT ?_ | refine auF ?_ | with_reducible first | refine auKt ?_ | refine auKf ?_ | refine auNt ?_ | refine auNf ?_ | refine auEt ?_ | refine auEf ?_); conv => whnf)
              | ((with_reducible first | refine br_dec (fun h => ?_) (fun h => ?_) | refine br_ndec (fun h => ?_) (fun h => ?_) | refine br_ne (fun h => ?_) (fun h => ?_) | refine br_eq (fun h => ?_) (fun h => ?_)) <;> first | (exfalso; omega) | conv => whnf)
              | (refine br_intro (fun h => ?_) (fun h => ?_) <;> conv => whnf)
              | ((first | refine auNd ?_ | refine idx_nat (by omega) (fun x hx => ?_) | refine frz_auto ?_ | refine draw_plain ?_ | refine auIx (fun x hx => ?_)); conv => whnf)
              | ((first | refine bx_idx ?_ | refine bx_intro (fun b hb => ?_)); conv => whnf)
            exact st_eq (a := (⟨#[]⟩, 4)) e
        · have hnone : m[lbP k m]? = none := List.getElem?_eq_none (by omega)
          rw [hnone] at hlb
          have e3 : ceR m k = (zP5, 4) := by rw [e2, if_neg hlt]
          rw [hlb] at e
          conv => whnf
          simp only [e3]
          repeat' first
            | ((first | refine auIk ?_ | refine auIi ?_ | refine auT ?_ | refine auF ?_ | with_reducible first | refine auKt ?_ | refine auKf ?_ | refine auNt ?_ | refine auNf ?_ | refine auEt ?_ | refine auEf ?_); conv => whnf)
            | ((with_reducible first | refine br_dec (fun h => ?_) (fun h => ?_) | refine br_ndec (fun h => ?_) (fun h => ?_) | refine br_ne (fun h => ?_) (fun h => ?_) | refine br_eq (fun h => ?_) (fun h => ?_)) <;> first | (exfalso; omega) | conv => whnf)
            | (refine br_intro (fun h => ?_) (fun h => ?_) <;> conv => whnf)
            | ((first | refine auNd ?_ | refine idx_nat (by omega) (fun x hx => ?_) | refine frz_auto ?_ | refine draw_plain ?_ | refine auIx (fun x hx => ?_)); conv => whnf)
            | ((first | refine bx_idx ?_ | refine bx_intro (fun b hb => ?_)); conv => whnf)
          exact st_eq (a := (⟨#[]⟩, 4)) e
    · have e : gtR m k = _ := gate_m hm
      have e2 : ceR m k = _ := gate_m hm
      conv => whnf
      simp only [e2]
      repeat' first
        | ((first | refine auIk ?_ | refine auIi ?_ | refine auT ?_ | refine auF ?_ | with_reducible first | refine auKt ?_ | refine auKf ?_ | refine auNt ?_ | refine auNf ?_ | refine auEt ?_ | refine auEf ?_); conv => whnf)
        | ((with_reducible first | refine br_dec (fun h => ?_) (fun h => ?_) | refine br_ndec (fun h => ?_) (fun h => ?_) | refine br_ne (fun h => ?_) (fun h => ?_) | refine br_eq (fun h => ?_) (fun h => ?_)) <;> first | (exfalso; omega) | conv => whnf)
        | (refine br_intro (fun h => ?_) (fun h => ?_) <;> conv => whnf)
        | ((first | refine auNd ?_ | refine idx_nat (by omega) (fun x hx => ?_) | refine frz_auto ?_ | refine draw_plain ?_ | refine auIx (fun x hx => ?_)); conv => whnf)
        | ((first | refine bx_idx ?_ | refine bx_intro (fun b hb => ?_)); conv => whnf)
      all_goals exact st_eq e
  · cases h
/-- What stays of a list that is cut at two places. -/
theorem filt_seg {α : Type} {P : α → Bool} : ∀ {l : List α} {a b : Nat}, (∀ i x, l[i]? = some x → P x = (decide (a ≤ i) && decide (i < b))) → l.filter P = (l.take b).drop a
  | [], _, _, _ => by simp
  | x :: l, a, b, h => by
    have h0 := h 0 x rfl
    cases b with
    | zero =>
      rw [List.filter_cons_of_neg (by rw [h0]; simp), filt_seg (a := 0) (b := 0) (fun i y hy => by
        have := h (i + 1) y hy
        rw [this]
        simp)]
      simp
    | succ b =>
      cases a with
      | zero =>
        rw [List.filter_cons_of_pos (by rw [h0]; simp), filt_seg (a := 0) (b := b) (fun i y hy => by
          have := h (i + 1) y hy
          rw [this]
          simp)]
        simp
      | succ a =>
        rw [List.filter_cons_of_neg (by rw [h0]; simp), filt_seg (a := a) (b := b) (fun i y hy => by
          have := h (i + 1) y hy
          rw [this]
          simp)]
        simp
def ptR (m : List pairT.El) (lo hi : ByteArray) (bd : Bool) : List pairT.El × Int := if (mcL m).2 ≠ 0 then ([], (mcL m).2) else if rgE lo hi bd ≠ 0 then ([], rgE lo hi bd) else (m.filter (fun p => hasB lo hi bd p.1), 0)
theorem pt_m {m : List pairT.El} {lo hi : ByteArray} {bd : Bool} (h : (mcL m).2 ≠ 0) : ptR m lo hi bd = ([], (mcL m).2) := if_pos h
theorem pt_r {m : List pairT.El} {lo hi : ByteArray} {bd : Bool} (h : (mcL m).2 = 0) (hr : rgE lo hi bd ≠ 0) : ptR m lo hi bd = ([], rgE lo hi bd) := by
  unfold ptR
  rw [if_neg (by simpa using h), if_pos hr]
theorem pt_ok {m : List pairT.El} {lo hi : ByteArray} {bd : Bool} (h : (mcL m).2 = 0) (hr : rgE lo hi bd = 0) : ptR m lo hi bd = (m.filter (fun p => hasB lo hi bd p.1), 0) := by
  unfold ptR
  rw [if_neg (by simpa using h), if_neg (by simpa using hr)]
/-- Where a range lies in a map. -/
def ptTo (m : List pairT.El) (hi : ByteArray) (bd : Bool) : Nat := if bd = true then lbP hi m else m.length
theorem pt_seg {m : List pairT.El} {lo hi : ByteArray} {bd : Bool} (ha : ascP m) : m.filter (fun p => hasB lo hi bd p.1) = (m.take (max (lbP lo m) (ptTo m hi bd))).drop (lbP lo m) := by
  have side : ∀ (k : ByteArray) (i : Nat) (x : pairT.El), m[i]? = some x → sLt x.1 k = decide (i < lbP k m) := fun k i x hx => by
    by_cases h : i < lbP k m
    · rw [lbP_lt ha h hx]; simp [h]
    · rw [lbP_ge ha (by omega) hx]; simp [h]
  refine filt_seg (fun i x hx => ?_)
  have hil := (List.getElem?_eq_some_iff.1 hx).1
  unfold hasB ptTo
  rw [side lo i x hx]
  cases bd with
  | false =>
    by_cases h : i < lbP lo m
    · have : ¬ lbP lo m ≤ i := by omega
      simp [h, this]
    · have h1 : lbP lo m ≤ i := by omega
      have h2 : i < max (lbP lo m) m.length := by omega
      simp [h, h1, hil]
      exact h2
  | true =>
    rw [side hi i x hx]
    by_cases h : i < lbP lo m
    · have : ¬ lbP lo m ≤ i := by omega
      simp [h, this]
    · have h1 : lbP lo m ≤ i := by omega
      by_cases h2 : i < lbP hi m
      · have h3 : i < max (lbP lo m) (lbP hi m) := by omega
        simp [h, h1, h2]
        exact h3
      · have h3 : ¬ i < max (lbP lo m) (lbP hi m) := by omega
        simp only [h, h1, h2, decide_true, decide_false, Bool.not_false, Bool.true_and, Bool.not_true, Bool.false_or, if_true]
        exact (decide_eq_false h3).symm
def spPt5 : DSpec
  | [.lst (.st [.str, .str]) m, .agg [.str lo, .str hi, .bool bd]] => some (m.length ≤ 4611686018427387904, .tup [.lst pairT (ptR m lo hi bd).1, .int .i64 (ptR m lo hi bd).2])
  | _ => none
theorem pt_eq {a b : List pairT.El × Int} (h : b = a) : AV.tup [.lst pairT a.1, .int .i64 a.2] = AV.tup [.lst pairT b.1, .int .i64 b.2] := by rw [h]
theorem pt_cut {m : List pairT.El} {a b : Nat} : List.take ((if (a : Int) < (b : Int) then (b : Int) else (a : Int)).toNat - ((a : Nat) : Int).toNat) (List.drop ((a : Nat) : Int).toNat m) = (m.take (max a b)).drop a := by
  rw [show (if (a : Int) < (b : Int) then (b : Int) else (a : Int)).toNat = max a b by split <;> omega, List.drop_take]
  rfl
theorem pt_fin {X Y : List pairT.El} {r : List pairT.El × Int} (e : r = (Y, 0)) (h : X = Y) : AV.tup [.lst pairT (List.take X.length X), .int .i64 0] = AV.tup [.lst pairT r.1, .int .i64 r.2] := by
  rw [e, List.take_length, h]
set_option maxRecDepth 100000 in
theorem fnOk_mPart : FnOk Try.prog 30 Try.f30 := ⟨by rfl, by kernel_rfl, by
  show okCode _ _ = true ∧ drawsOk _ = true
  exact ⟨by kernel_rfl, by kernel_rfl⟩⟩
noncomputable def cxyg2 : Cx := ⟨tb, [], [(14, .d spMC), (62, .d spRg), (52, .d spFd), (51, .f spClP)]⟩
theorem specsyg2 : SpecsOk Try.prog cxyg2.specs := .cons modelCheck_ok (.cons keysRg_ok (.cons mFind_ok (.consF cloneP_ok .nil)))
set_option maxRecDepth 100000 in
set_option maxHeartbeats 4000000 in
theorem mPart_ok : SpecOk Try.prog 30 spPt5 := by
  refine spec_body (C := cxyg2) mixed tbOk specsyg2 (callN_ok (C := cxyg2) mixed tbOk specsyg2 FnsOk.nil 0) fnOk_mPart ?_
  intro ys p r h hp
  unfold spPt5 at h
  split at h
  · rename_i m lo hi bd
    cases h
    by_cases hm : (mcL m).2 = 0
    · by_cases hr : rgE lo hi bd = 0
      · have e := pt_ok hm hr
        have hml := mcL_zero hm
        have hneed : ascP m ∧ m.length ≤ 100000 := ⟨hml.2.2, by have := hml.1; omega⟩
        have hs := pt_seg (lo := lo) (hi := hi) (bd := bd) hml.2.2
        have hl1 := lbP_le lo m
        have hl2 := lbP_le hi m
        rw [hs] at e
        cases bd with
        | true =>
          conv => whnf
          repeat' first
            | ((first | refine auIk ?_ | refine auIi ?_ | refine auT ?_ | refine auF ?_ | with_reducible first | refine auKt ?_ | refine auKf ?_ | refine auNt ?_ | refine auNf ?_ | refine auEt ?_ | refine auEf ?_); conv => whnf)
            | ((with_reducible first | refine br_dec (fun h => ?_) (fun h => ?_) | refine br_ndec (fun h => ?_) (fun h => ?_) | refine br_ne (fun h => ?_) (fun h => ?_) | refine br_eq (fun h => ?_) (fun h => ?_)) <;> first | (exfalso; omega) | conv => whnf)
            | (refine br_intro (fun h => ?_) (fun h => ?_) <;> conv => whnf)
            | ((first | refine auNd ?_ | refine idx_nat (by omega) (fun x hx => ?_) | refine frz_auto ?_ | refine draw_plain ?_ | refine auIx (fun x hx => ?_)); conv => whnf)
            | ((first | refine bx_idx ?_ | refine bx_intro (fun b hb => ?_)); conv => whnf)
          exact pt_fin e pt_cut
        | false =>
          conv => whnf
          repeat' first
            | ((first | refine auIk ?_ | refine auIi ?_ | refine auT ?_ | refine auF ?_ | with_reducible first | refine auKt ?_ | refine auKf ?_ | refine auNt ?_ | refine auNf ?_ | refine auEt ?_ | refine auEf ?_); conv => whnf)
            | ((with_reducible first | refine br_dec (fun h => ?_) (fun h => ?_) | refine br_ndec (fun h => ?_) (fun h => ?_) | refine br_ne (fun h => ?_) (fun h => ?_) | refine br_eq (fun h => ?_) (fun h => ?_)) <;> first | (exfalso; omega) | conv => whnf)
            | (refine br_intro (fun h => ?_) (fun h => ?_) <;> conv => whnf)
            | ((first | refine auNd ?_ | refine idx_nat (by omega) (fun x hx => ?_) | refine frz_auto ?_ | refine draw_plain ?_ | refine auIx (fun x hx => ?_)); conv => whnf)
            | ((first | refine bx_idx ?_ | refine bx_intro (fun b hb => ?_)); conv => whnf)
          exact pt_fin e pt_cut
      · have e := pt_r hm hr
        conv => whnf
        repeat' first
          | ((first | refine auIk ?_ | refine auIi ?_ | refine auT ?_ | refine auF ?_ | with_reducible first | refine auKt ?_ | refine auKf ?_ | refine auNt ?_ | refine auNf ?_ | refine auEt ?_ | refine auEf ?_); conv => whnf)
          | ((with_reducible first | refine br_dec (fun h => ?_) (fun h => ?_) | refine br_ndec (fun h => ?_) (fun h => ?_) | refine br_ne (fun h => ?_) (fun h => ?_) | refine br_eq (fun h => ?_) (fun h => ?_)) <;> first | (exfalso; omega) | conv => whnf)
          | (refine br_intro (fun h => ?_) (fun h => ?_) <;> conv => whnf)
          | ((first | refine auNd ?_ | refine idx_nat (by omega) (fun x hx => ?_) | refine frz_auto ?_ | refine draw_plain ?_ | refine auIx (fun x hx => ?_)); conv => whnf)
          | ((first | refine bx_idx ?_ | refine bx_intro (fun b hb => ?_)); conv => whnf)
        all_goals exact pt_eq e
    · have e : ptR m lo hi bd = _ := pt_m hm
      conv => whnf
      repeat' first
        | ((first | refine auIk ?_ | refine auIi ?_ | refine auT ?_ | refine auF ?_ | with_reducible first | refine auKt ?_ | refine auKf ?_ | refine auNt ?_ | refine auNf ?_ | refine auEt ?_ | refine auEf ?_); conv => whnf)
        | ((with_reducible first | refine br_dec (fun h => ?_) (fun h => ?_) | refine br_ndec (fun h => ?_) (fun h => ?_) | refine br_ne (fun h => ?_) (fun h => ?_) | refine br_eq (fun h => ?_) (fun h => ?_)) <;> first | (exfalso; omega) | conv => whnf)
        | (refine br_intro (fun h => ?_) (fun h => ?_) <;> conv => whnf)
        | ((first | refine auNd ?_ | refine idx_nat (by omega) (fun x hx => ?_) | refine frz_auto ?_ | refine draw_plain ?_ | refine auIx (fun x hx => ?_)); conv => whnf)
        | ((first | refine bx_idx ?_ | refine bx_intro (fun b hb => ?_)); conv => whnf)
      all_goals exact pt_eq e
  · cases h
set_option maxRecDepth 100000 in
theorem fnOk_rPart7 : FnOk Try.prog 31 Try.f31 := ⟨by rfl, by kernel_rfl, by
  show okCode _ _ = true ∧ drawsOk _ = true
  exact ⟨by kernel_rfl, by kernel_rfl⟩⟩
noncomputable def cxyg3 : Cx := ⟨tb, [], [(15, spMC), (42, spRg)]⟩
theorem specsyg3 : SpecsOk Try.prog cxyg3.specs := .cons r05Check_ok (.cons ref02Rg_ok .nil)
def ptF (m : List pairT.El) (lo hi : ByteArray) (bd : Bool) (i : Nat) : List pairT.El := (m.take i).filter (fun p => hasB lo hi bd p.1)
theorem ptF_le {m : List pairT.El} {lo hi : ByteArray} {bd : Bool} {i : Nat} : (ptF m lo hi bd i).length ≤ i :=
  Nat.le_trans (List.length_filter_le _ _) (by rw [List.length_take]; omega)
theorem ptF_snoc {m : List pairT.El} {lo hi : ByteArray} {bd : Bool} {i : Nat} {x : pairT.El} (hx : m[i]? = some x) : ptF m lo hi bd (i + 1) = ptF m lo hi bd i ++ (if hasB lo hi bd x.1 = true then [x] else []) := by
  unfold ptF
  rw [List.take_add_one, hx, List.filter_append]
  congr 1
  show List.filter _ [x] = _
  rw [List.filter_cons]
  rfl
theorem ptF_end {m : List pairT.El} {lo hi : ByteArray} {bd : Bool} {i : Nat} (h : m.length ≤ i) : ptF m lo hi bd i = m.filter (fun p => hasB lo hi bd p.1) := by
  unfold ptF
  rw [List.take_of_length_le h]
theorem pt_vs {n n' g : Nat} {z z' : Int} (h : n = n') (hz : z = z') : [AV.own 2 g n, .int .i64 z] = [AV.own 2 g n', .int .i64 z'] := by rw [h, hz]
theorem pt_h {a b : AObj} {L L' : List pairT.El} {g : Nat} {T : TypeId} (h : L = L') : [a, b, .arr T pairT L false g] = [a, b, AObj.arr T pairT L' false g] := by rw [h]
set_option maxRecDepth 100000 in
set_option maxHeartbeats 4000000 in
theorem rPart7_ok : SpecOk Try.prog 31 spPt5 := by
  refine spec_body (C := cxyg3) mixed tbOk specsyg3 (callN_ok (C := cxyg3) mixed tbOk specsyg3 FnsOk.nil 0) fnOk_rPart7 ?_
  intro ys p r h hp
  unfold spPt5 at h
  split at h
  · rename_i m lo hi bd
    cases h
    by_cases hm : (mcL m).2 = 0
    · by_cases hr : rgE lo hi bd = 0
      · have e := pt_ok hm hr
        have hml := mcL_zero hm
        have hm4 := hml.1
        conv => whnf
        repeat' first
          | ((first | refine auIk ?_ | refine auIi ?_ | refine auT ?_ | refine auF ?_ | with_reducible first | refine auKt ?_ | refine auKf ?_ | refine auNt ?_ | refine auNf ?_ | refine auEt ?_ | refine auEf ?_); conv => whnf)
          | ((with_reducible first | refine br_dec (fun h => ?_) (fun h => ?_) | refine br_ndec (fun h => ?_) (fun h => ?_) | refine br_ne (fun h => ?_) (fun h => ?_) | refine br_eq (fun h => ?_) (fun h => ?_)) <;> first | (exfalso; omega) | conv => whnf)
          | (refine br_intro (fun h => ?_) (fun h => ?_) <;> conv => whnf)
          | ((first | refine auNd ?_ | refine idx_nat (by omega) (fun x hx => ?_) | refine frz_auto ?_ | refine draw_plain ?_ | refine auIx (fun x hx => ?_)); conv => whnf)
          | ((first | refine bx_idx ?_ | refine bx_intro (fun b hb => ?_)); conv => whnf)
        refine loop_inv [] [8, 9] (fun vs h => ∃ i g : Nat, vs = [.own 2 g (ptF m lo hi bd i).length, .int .i64 (i : Int)] ∧ h = [.cells 46 [.str lo, .str hi, .bool bd], .arr 50 pairT [] false 0, .arr 50 pairT (ptF m lo hi bd i) false g] ∧ i ≤ m.length) (fun vs _ => match vs with | [_, .int _ k] => m.length - k.toNat | _ => 0) ?_
        conv => whnf
        refine ⟨⟨0, 0, rfl, rfl, Nat.zero_le _⟩, ?_⟩
        rintro vs h' - ⟨i, g, rfl, rfl, hii⟩
        have hfl := ptF_le (m := m) (lo := lo) (hi := hi) (bd := bd) (i := i)
        by_cases hil : i < m.length
        · obtain ⟨x, hx⟩ : ∃ x, m[i]? = some x := ⟨_, List.getElem?_eq_getElem hil⟩
          have hsn := ptF_snoc (lo := lo) (hi := hi) (bd := bd) hx
          cases hb : hasB lo hi bd x.1 with
          | true =>
            rw [if_pos hb] at hsn
            conv => whnf
            repeat' first
              | ((first | refine auIk ?_ | refine auIi ?_ | refine auT ?_ | refine auF ?_ | with_reducible first | refine auKt ?_ | refine auKf ?_ | refine auNt ?_ | refine auNf ?_ | refine auEt ?_ | refine auEf ?_); conv => whnf)
              | ((with_reducible first | refine br_dec (fun h => ?_) (fun h => ?_) | refine br_ndec (fun h => ?_) (fun h => ?_) | refine br_ne (fun h => ?_) (fun h => ?_) | refine br_eq (fun h => ?_) (fun h => ?_)) <;> first | (exfalso; omega) | conv => whnf)
              | (refine br_intro (fun h => ?_) (fun h => ?_) <;> conv => whnf)
              | ((first | refine auNd ?_ | refine idx_nat (by omega) (fun x hx => ?_) | refine frz_auto ?_ | refine draw_plain ?_ | refine auIx (fun x hx => ?_)); conv => whnf)
              | ((first | refine bx_idx ?_ | refine bx_intro (fun b hb => ?_)); conv => whnf)
            all_goals first
              | (exfalso; simp [hasB, *] at hb; done)
              | (refine back_intro (by conv => whnf) rfl ⟨i + 1, g + 1, pt_vs ?_ (by omega), pt_h ?_, by omega⟩ ?_
                 · rw [hsn]; simp
                 · rw [hsn, List.take_length]; rfl
                 · show m.length - ((i : Int) + 1).toNat < m.length - (i : Int).toNat
                   omega)
          | false =>
            rw [if_neg (by rw [hb]; decide), List.append_nil] at hsn
            conv => whnf
            repeat' first
              | ((first | refine auIk ?_ | refine auIi ?_ | refine auT ?_ | refine auF ?_ | with_reducible first | refine auKt ?_ | refine auKf ?_ | refine auNt ?_ | refine auNf ?_ | refine auEt ?_ | refine auEf ?_); conv => whnf)
              | ((with_reducible first | refine br_dec (fun h => ?_) (fun h => ?_) | refine br_ndec (fun h => ?_) (fun h => ?_) | refine br_ne (fun h => ?_) (fun h => ?_) | refine br_eq (fun h => ?_) (fun h => ?_)) <;> first | (exfalso; omega) | conv => whnf)
              | (refine br_intro (fun h => ?_) (fun h => ?_) <;> conv => whnf)
              | ((first | refine auNd ?_ | refine idx_nat (by omega) (fun x hx => ?_) | refine frz_auto ?_ | refine draw_plain ?_ | refine auIx (fun x hx => ?_)); conv => whnf)
              | ((first | refine bx_idx ?_ | refine bx_intro (fun b hb => ?_)); conv => whnf)
            all_goals first
              | (exfalso; simp [hasB, *] at hb; done)
              | (refine back_intro (by conv => whnf) rfl ⟨i + 1, g, pt_vs (by rw [hsn]) (by omega), pt_h hsn.symm, by omega⟩ ?_
                 show m.length - ((i : Int) + 1).toNat < m.length - (i : Int).toNat
                 omega)
        · have hend := ptF_end (lo := lo) (hi := hi) (bd := bd) (m := m) (i := i) (by omega)
          conv => whnf
          repeat' first
            | ((first | refine auIk ?_ | refine auIi ?_ | refine auT ?_ | refine auF ?_ | with_reducible first | refine auKt ?_ | refine auKf ?_ | refine auNt ?_ | refine auNf ?_ | refine auEt ?_ | refine auEf ?_); conv => whnf)
            | ((with_reducible first | refine br_dec (fun h => ?_) (fun h => ?_) | refine br_ndec (fun h => ?_) (fun h => ?_) | refine br_ne (fun h => ?_) (fun h => ?_) | refine br_eq (fun h => ?_) (fun h => ?_)) <;> first | (exfalso; omega) | conv => whnf)
            | (refine br_intro (fun h => ?_) (fun h => ?_) <;> conv => whnf)
            | ((first | refine auNd ?_ | refine idx_nat (by omega) (fun x hx => ?_) | refine frz_auto ?_ | refine draw_plain ?_ | refine auIx (fun x hx => ?_)); conv => whnf)
            | ((first | refine bx_idx ?_ | refine bx_intro (fun b hb => ?_)); conv => whnf)
          exact pt_fin e hend
      · have e := pt_r hm hr
        conv => whnf
        repeat' first
          | ((first | refine auIk ?_ | refine auIi ?_ | refine auT ?_ | refine auF ?_ | with_reducible first | refine auKt ?_ | refine auKf ?_ | refine auNt ?_ | refine auNf ?_ | refine auEt ?_ | refine auEf ?_); conv => whnf)
          | ((with_reducible first | refine br_dec (fun h => ?_) (fun h => ?_) | refine br_ndec (fun h => ?_) (fun h => ?_) | refine br_ne (fun h => ?_) (fun h => ?_) | refine br_eq (fun h => ?_) (fun h => ?_)) <;> first | (exfalso; omega) | conv => whnf)
          | (refine br_intro (fun h => ?_) (fun h => ?_) <;> conv => whnf)
          | ((first | refine auNd ?_ | refine idx_nat (by omega) (fun x hx => ?_) | refine frz_auto ?_ | refine draw_plain ?_ | refine auIx (fun x hx => ?_)); conv => whnf)
          | ((first | refine bx_idx ?_ | refine bx_intro (fun b hb => ?_)); conv => whnf)
        all_goals exact pt_eq e
    · have e : ptR m lo hi bd = _ := pt_m hm
      conv => whnf
      repeat' first
        | ((first | refine auIk ?_ | refine auIi ?_ | refine auT ?_ | refine auF ?_ | with_reducible first | refine auKt ?_ | refine auKf ?_ | refine auNt ?_ | refine auNf ?_ | refine auEt ?_ | refine auEf ?_); conv => whnf)
        | ((with_reducible first | refine br_dec (fun h => ?_) (fun h => ?_) | refine br_ndec (fun h => ?_) (fun h => ?_) | refine br_ne (fun h => ?_) (fun h => ?_) | refine br_eq (fun h => ?_) (fun h => ?_)) <;> first | (exfalso; omega) | conv => whnf)
        | (refine br_intro (fun h => ?_) (fun h => ?_) <;> conv => whnf)
        | ((first | refine auNd ?_ | refine idx_nat (by omega) (fun x hx => ?_) | refine frz_auto ?_ | refine draw_plain ?_ | refine auIx (fun x hx => ?_)); conv => whnf)
        | ((first | refine bx_idx ?_ | refine bx_intro (fun b hb => ?_)); conv => whnf)
      all_goals exact pt_eq e
  · cases h
end Go.Proofs.Ytbbklijmnknmhaa
namespace Go.Proofs.Ytbbklijmnknmhaa
open Av Bk Go.Proofs Go.Lib

end Go.Proofs.Ytbbklijmnknmhaa
namespace Av
open Go Go.ChangeShapes Go.WideShapes Go.ChangeAt Go.RowKit Go.Joins Go.Deep

/-- Objects of boxes that have none. -/
def NoBx (B : Hp) : Prop := ∀ o ∈ B, ∃ T t, o = .oth (.bxs T t [])
def St.bx (s : St) (B : Hp) : St := ⟨fun _ => .bool false, B, s.w, s.F⟩
theorem bx_noI {s : St} {B : Hp} (hB : NoBx B) {b : Nat} : ¬ OwnI (s.bx B) b := by
  rintro ⟨i, o, h1, _, h3⟩
  obtain ⟨T, t, rfl⟩ := hB o (List.mem_of_getElem? h1)
  rcases h3 with h3 | h3
  · cases h3
  · have h3 : b ∈ ([] : List Nat) := h3
    simp at h3
theorem bx_ok {s : St} (hok : Ok s) {B : Hp} (hB : NoBx B) : Ok (s.bx B) where
  obj := fun id o h => by
    obtain ⟨T, t, rfl⟩ := hB o (List.mem_of_getElem? h)
    exact ⟨rfl, by simp, fun b x hx => by simp at hx⟩
  inj := fun i j o p b hi _ ho _ hb _ => absurd ⟨i, o, hi, ho, hb⟩ (bx_noI hB)
  fb := hok.fb
  dis := fun b h => absurd h (bx_noI hB)
theorem bx_RL {s : St} (hh : s.h = []) {B : Hp} (hB : NoBx B) {xs : List AV} {cs : List Value} (hr : RL s xs cs) : RL (s.bx B) xs cs :=
  RL_pure (s2 := s.bx B) hh rfl (fun b hn h => h.elim (fun h => hn (.inl h)) (bx_noI hB)) xs cs hr
theorem bx_step {s s' : St} (hh : s.h = []) {B : Hp} (hB : NoBx B) (hst : Step (s.bx B) s') : Step s (s'.cut 0) where
  os := hst.os
  tape := hst.tape
  output := hst.output
  drawn := hst.drawn
  size := hst.size
  kn := fun i hi => by unfold Av.kn at hi; rw [hh] at hi; simp at hi
  keep := fun b hb _ => ⟨fun ⟨id, o, h, _⟩ => by simp [St.cut] at h, (hst.keep b hb (bx_noI hB)).2⟩
  frn := hst.frn
  cells := fun i T cs' hi _ => by unfold Av.kn at hi; rw [hh] at hi; simp at hi
  oth := fun i o' hi _ => by unfold Av.kn at hi; rw [hh] at hi; simp at hi
  arr := fun i T t l' f' g hi _ => by unfold Av.kn at hi; rw [hh] at hi; simp at hi
section
variable {P : Program}
theorem spec_bodyB {C : Cx} (hm : P.follows .mixedOrders = true) (hT : TbOk P C.tb) (hD : SpecsOk P C.specs) {call : CallA} (hcall : CallOk P call) {g : FuncId} {fn : Func} (hf : FnOk P g fn) {sp : DSpec} {B : Hp} (hB : NoBx B)
    (h : ∀ ys p r, sp ys = some (p, r) → p → bodyA C call fn ys B (fun v h => (viewR h v fun y => .ok y none).sat fun y _ => y = r)) : SpecOk P g sp := by
  refine ⟨hf.enters, fun ys p r hsp hp s hok hh cs hr => ?_⟩
  have hb := h ys p r hsp hp
  refine Calls.mono (bodyA_ok hm hT hD hcall hf (s := s.bx B) hb (bx_ok hok hB) (bx_RL hh hB hr)) ?_
  rintro e w' ⟨s', v, cr, rfl, rfl, hst, hok', hv, hK⟩
  obtain ⟨y, ob, his, rfl⟩ := Res.sat_is hK
  have hFo : ∀ b, s'.F b → Own s' b := fun b hb => .inl hb
  obtain ⟨z, hz, hR⟩ := viewR_ok hok' (SubH.refl _) (F := s'.F) hFo v cr _ y ob hv (fun _ b hb => hok'.dis b hb) his
  obtain ⟨rfl, _⟩ := hz
  have hcut : s'.cut 0 = s'.callee s'.F := by
    unfold St.cut St.callee
    rw [List.take_zero]
  refine ⟨s'.cut 0, cr, rfl, rfl, bx_step hh hB hst, cut_ok hok' (fun id T cs hlt => by omega), by rw [hcut]; rfl, by rw [hcut]; exact hR⟩
variable {H : Type} {enc : TypeId × Value → H} {w : World} {base : Nat} {spare : Nat → Bool} {held : Bool}
end
end Av
namespace Go.Proofs.Ytbbklijmnknmhaa
open Av Bk

abbrev cuT : Ty := .st [.sl pairT, .int .i64]
abbrev B5 : Hp := [.oth (.bxs 22 (.sl pairT) []), .oth (.bxs 109 cuT [])]
theorem B5_no : NoBx B5 := by
  intro o ho
  rcases List.mem_cons.1 ho with rfl | ho
  · exact ⟨_, _, rfl⟩
  · rcases List.mem_cons.1 ho with rfl | ho
    · exact ⟨_, _, rfl⟩
    · cases ho
set_option maxRecDepth 100000 in
theorem fnOk_ex5 : FnOk Try.prog 49 Try.f49 := ⟨by rfl, by kernel_rfl, by
  show okCode _ _ = true ∧ drawsOk _ = true
  exact ⟨by kernel_rfl, by kernel_rfl⟩⟩
set_option maxRecDepth 100000 in
theorem fnOk_mNew : FnOk Try.prog 33 Try.f33 := ⟨by rfl, by kernel_rfl, by
  show okCode _ _ = true ∧ drawsOk _ = true
  exact ⟨by kernel_rfl, by kernel_rfl⟩⟩
set_option maxRecDepth 100000 in
theorem fnOk_xNone : FnOk Try.prog 71 Try.f71 := ⟨by rfl, by kernel_rfl, by
  show okCode _ _ = true ∧ drawsOk _ = true
  exact ⟨by kernel_rfl, by kernel_rfl⟩⟩
set_option maxRecDepth 100000 in
theorem fnOk_xPin : FnOk Try.prog 47 Try.f47 := ⟨by rfl, by kernel_rfl, by
  show okCode _ _ = true ∧ drawsOk _ = true
  exact ⟨by kernel_rfl, by kernel_rfl⟩⟩
set_option maxRecDepth 100000 in
theorem fnOk_xUnpin : FnOk Try.prog 48 Try.f48 := ⟨by rfl, by kernel_rfl, by
  show okCode _ _ = true ∧ drawsOk _ = true
  exact ⟨by kernel_rfl, by kernel_rfl⟩⟩
set_option maxRecDepth 100000 in
theorem fnOk_xMap : FnOk Try.prog 40 Try.f40 := ⟨by rfl, by kernel_rfl, by
  show okCode _ _ = true ∧ drawsOk _ = true
  exact ⟨by kernel_rfl, by kernel_rfl⟩⟩
set_option maxRecDepth 100000 in
theorem fnOk_xVer : FnOk Try.prog 75 Try.f75 := ⟨by rfl, by kernel_rfl, by
  show okCode _ _ = true ∧ drawsOk _ = true
  exact ⟨by kernel_rfl, by kernel_rfl⟩⟩
set_option maxRecDepth 100000 in
theorem fnOk_tpGive : FnOk Try.prog 84 Try.f84 := ⟨by rfl, by kernel_rfl, by
  show okCode _ _ = true ∧ drawsOk _ = true
  exact ⟨by kernel_rfl, by kernel_rfl⟩⟩
set_option maxRecDepth 100000 in
theorem fnOk_tpGive1 : FnOk Try.prog 101 Try.f101 := ⟨by rfl, by kernel_rfl, by
  show okCode _ _ = true ∧ drawsOk _ = true
  exact ⟨by kernel_rfl, by kernel_rfl⟩⟩
set_option maxRecDepth 100000 in
theorem fnOk_tpDrop : FnOk Try.prog 85 Try.f85 := ⟨by rfl, by kernel_rfl, by
  show okCode _ _ = true ∧ drawsOk _ = true
  exact ⟨by kernel_rfl, by kernel_rfl⟩⟩
set_option maxRecDepth 100000 in
theorem fnOk_tpLook : FnOk Try.prog 95 Try.f95 := ⟨by rfl, by kernel_rfl, by
  show okCode _ _ = true ∧ drawsOk _ = true
  exact ⟨by kernel_rfl, by kernel_rfl⟩⟩
set_option maxRecDepth 100000 in
theorem fnOk_tpIdx : FnOk Try.prog 100 Try.f100 := ⟨by rfl, by kernel_rfl, by
  show okCode _ _ = true ∧ drawsOk _ = true
  exact ⟨by kernel_rfl, by kernel_rfl⟩⟩
noncomputable def cxyi : Cx := ⟨tb, [(49, Try.f49), (33, Try.f33), (71, Try.f71), (47, Try.f47), (48, Try.f48), (40, Try.f40), (75, Try.f75), (84, Try.f84), (101, Try.f101), (85, Try.f85), (95, Try.f95), (100, Try.f100)], [(26, .d spFl5), (28, .d spCe5), (16, .d spWr), (19, .d spDiff), (18, .d spSameP), (21, .d spSameI), (51, .f spClP)]⟩
theorem specsyi : SpecsOk Try.prog cxyi.specs := .cons mFloor_ok (.cons mCeil_ok (.cons mWrite_ok (.cons mDiff_ok (.cons same05_ok (.cons sameIt_ok (.consF cloneP_ok .nil))))))
theorem fnsyi : FnsOk Try.prog cxyi.fns := .cons fnOk_ex5 (.cons fnOk_mNew (.cons fnOk_xNone (.cons fnOk_xPin (.cons fnOk_xUnpin (.cons fnOk_xMap (.cons fnOk_xVer (.cons fnOk_tpGive (.cons fnOk_tpGive1 (.cons fnOk_tpDrop (.cons fnOk_tpLook (.cons fnOk_tpIdx .nil)))))))))))
def spAw5 : DSpec
  | [] => some (True, .bool true)
  | _ => none
set_option maxRecDepth 100000 in
theorem fnOk_awake5 : FnOk Try.prog 13 Try.f13 := ⟨by rfl, by kernel_rfl, by
  show okCode _ _ = true ∧ drawsOk _ = true
  exact ⟨by kernel_rfl, by kernel_rfl⟩⟩
set_option maxRecDepth 100000 in
set_option maxHeartbeats 8000000 in
theorem awake5_ok : SpecOk Try.prog 13 spAw5 := by
  refine spec_bodyB (C := cxyi) mixed tbOk specsyi (callN_ok (C := cxyi) mixed tbOk specsyi fnsyi 6) fnOk_awake5 B5_no ?_
  intro ys p r h hp
  unfold spAw5 at h
  split at h
  · cases h
    conv => whnf
    repeat' first
      | (refine br_true (by first | with_reducible exact rfl | decide | rfl) ?_; conv => whnf)
      | (refine br_false (by first | with_reducible exact rfl | decide | rfl) ?_; conv => whnf)
      | (refine need_in (by first | exact trivial | exact ⟨rfl, Nat.le_refl _⟩ | exact ⟨rfl, Nat.le_of_ble_eq_true rfl⟩ | exact ⟨rfl, Nat.le_of_ble_eq_true rfl, Nat.le_of_ble_eq_true rfl, Nat.le_of_ble_eq_true rfl⟩ | decide | (simp only [inR]; omega) | omega) ?_; conv => whnf)
      | (refine frz_auto ?_; conv => whnf)
      | (refine draw_plain ?_; conv => whnf)
      | (refine idx_cl ?_; (conv => whnf); refine ⟨by first | decide | (refine ⟨?_, ?_⟩ <;> simp) | (refine ⟨?_, ?_⟩ <;> (simp; omega)), ?_⟩; conv => whnf)
      | (refine bx_intro (fun b hb => ?_); conv => whnf)
      | (refine loop_turns 3 ?_; conv => whnf)
      | fail
    rfl
  · cases h
end Go.Proofs.Ytbbklijmnknmhaa
namespace Go.Proofs.Ytbbklijmnknmhaa
open Av Bk

theorem eqP_refl (x : pairT.El) : eqT pairT x x = true := by
  show (sEq x.1 x.1 && sEq x.2.1 x.2.1) = true
  rw [sEq_refl, sEq_refl]
  rfl
theorem sameP_refl : ∀ l : List pairT.El, sameL pairT l l = true
  | [] => rfl
  | x :: l => by
    rw [sameL, sameP_refl l, eqP_refl]
    rfl
/-! ### Lists that ascend -/
/-- The items of a key. -/
abbrev atK (l : List itemT.El) (k : ByteArray) : List itemT.El := l.filter (fun x => sEq x.2.1 k)
/-! ### Differences by key -/
theorem find_at {l : List itemT.El} {k : ByteArray} : l.find? (fun x => sEq x.2.1 k) = (atK l k).head? := by
  rw [List.head?_filter]
end Go.Proofs.Ytbbklijmnknmhaa
namespace Go.Proofs.Ytbbklijmnknmhaa
open Av Bk

theorem farM_len {m : List pairT.El} (h : farM m = false) : m.length ≤ 4005 := by
  unfold farM at h
  split at h
  · cases h
  · rename_i ho
    omega
set_option maxRecDepth 100000 in
theorem fnOk_lFi : FnOk Try.prog 6 Try.f6 := ⟨by rfl, by kernel_rfl, by
  show okCode _ _ = true ∧ drawsOk _ = true
  exact ⟨by kernel_rfl, by kernel_rfl⟩⟩
noncomputable def lFi_C : Cx := ⟨tb, [], [(13, spAw5), (11, spFarM), (24, spGt5), (25, spGt5), (26, spFl5), (27, spFl5), (28, spCe5), (29, spCe5), (30, spPt5), (31, spPt5), (18, spSameP)]⟩
theorem lFi_D : SpecsOk Try.prog lFi_C.specs := .cons awake5_ok (.cons farM_ok (.cons mGet_ok (.cons rGet7_ok (.cons mFloor_ok (.cons rFloor7_ok (.cons mCeil_ok (.cons rCeil7_ok (.cons mPart_ok (.cons rPart7_ok (.cons same05_ok .nil))))))))))
theorem lFi_F : FnsOk Try.prog lFi_C.fns := FnsOk.nil
abbrev lFi_N : Nat := 0
abbrev lFi_T : List Ty := [.sl pairT, .str, rgT]
abbrev lFi_FN := fnOk_lFi
theorem ptR_len {m : List pairT.El} {lo hi : ByteArray} {bd : Bool} : (ptR m lo hi bd).1.length ≤ m.length := by
  unfold ptR
  split
  · simp
  · split
    · simp
    · exact List.length_filter_le _ _
set_option maxRecDepth 100000 in
set_option maxHeartbeats 4000000 in
theorem lFi : ∀ es : Ty.Els lFi_T, tyOks lFi_T es → bodyA lFi_C (callN lFi_C lFi_N) Try.f6 (avTs lFi_T es) [] (fun v _ => v = .bool true) := by
  rintro ⟨m, k, ⟨lo, hi, bd, _⟩, _⟩ -
  show bodyA _ _ _ [.lst pairT m, .str k, .agg [.str lo, .str hi, .bool bd]] [] _
  cases hF : farM m with
  | true =>
    conv => whnf
    repeat' first
      | ((first | refine auIk ?_ | refine auIi ?_ | refine auT ?_ | refine auF ?_ | with_reducible first | refine auKt ?_ | refine auKf ?_ | refine auNt ?_ | refine auNf ?_ | refine auEt ?_ | refine auEf ?_); conv => whnf)
      | ((with_reducible first | refine br_dec (fun h => ?_) (fun h => ?_) | refine br_ndec (fun h => ?_) (fun h => ?_) | refine br_ne (fun h => ?_) (fun h => ?_) | refine br_eq (fun h => ?_) (fun h => ?_)) <;> first | (exfalso; omega) | conv => whnf)
      | (refine br_intro (fun h => ?_) (fun h => ?_) <;> conv => whnf)
      | ((first | refine auNd ?_ | refine idx_nat (by omega) (fun x hx => ?_) | refine frz_auto ?_ | refine draw_plain ?_ | refine auIx (fun x hx => ?_)); conv => whnf)
      | ((first | refine bx_idx ?_ | refine bx_intro (fun b hb => ?_)); conv => whnf)
  | false =>
    have hm := farM_len hF
    have hs := ptR_len (m := m) (lo := lo) (hi := hi) (bd := bd)
    have hs : (ptR m lo hi bd).1.length ≤ 4611686018427387904 := by omega
    have hr := sameP_refl (ptR m lo hi bd).1
    have h0 : (!sEq (gtR m k).1 (gtR m k).1) = false := by rw [sEq_refl]; rfl
    have h1 : eqT (.st [.str, .str]) ((flR m k).1.1, (flR m k).1.2.1, ()) ((flR m k).1.1, (flR m k).1.2.1, ()) = true := eqP_refl _
    have h1n : (!eqT (.st [.str, .str]) ((flR m k).1.1, (flR m k).1.2.1, ()) ((flR m k).1.1, (flR m k).1.2.1, ())) = false := by rw [h1]; rfl
    have h2 : eqT (.st [.str, .str]) ((ceR m k).1.1, (ceR m k).1.2.1, ()) ((ceR m k).1.1, (ceR m k).1.2.1, ()) = true := eqP_refl _
    conv => whnf
    repeat' first
      | ((first | refine auIk ?_ | refine auIi ?_ | refine auT ?_ | refine auF ?_ | with_reducible first | refine auKt ?_ | refine auKf ?_ | refine auNt ?_ | refine auNf ?_ | refine auEt ?_ | refine auEf ?_); conv => whnf)
      | ((with_reducible first | refine br_dec (fun h => ?_) (fun h => ?_) | refine br_ndec (fun h => ?_) (fun h => ?_) | refine br_ne (fun h => ?_) (fun h => ?_) | refine br_eq (fun h => ?_) (fun h => ?_)) <;> first | (exfalso; omega) | conv => whnf)
      | (refine br_intro (fun h => ?_) (fun h => ?_) <;> conv => whnf)
      | ((first | refine auNd ?_ | refine idx_nat (by omega) (fun x hx => ?_) | refine frz_auto ?_ | refine draw_plain ?_ | refine auIx (fun x hx => ?_)); conv => whnf)
      | ((first | refine bx_idx ?_ | refine bx_intro (fun b hb => ?_)); conv => whnf)
end Go.Proofs.Ytbbklijmnknmhaa
namespace Go.Proofs.Ytbbklijmnknmhaa
open Go.ChangeShapes Go.WideShapes Go.ChangeAt Go.RowKit Go.Joins Go.Deep Av

theorem Try.own : ownKnob Try.prog.godebug = none := by kernel_rfl
theorem Try.laidOut : laidOutB Try.prog = true := by kernel_rfl

section
variable {H : Type} {enc : TypeId × Value → H} {w : World}

/-- Every argument reads as it did. -/
theorem all_below {W W' : World} (hb : Below W.heap.size W W') : ∀ (ts : List TypeId) (vs : List Value) (ds : List (DataW H)) (ps : List MemPlace), (∀ t ∈ ts, Try.prog.readableRec t = true ∧ t < Try.prog.types.size) →
    DataW.TrodAll enc Try.prog W 0 (fun _ => true) true ts vs ds ps → (∀ x ∈ ps, x.block < W.heap.size) → DataW.TrodAll enc Try.prog W' 0 (fun b => decide (b < W.heap.size)) true ts vs ds ps
  | [], vs, ds, ps, _, h, _ => by
    obtain ⟨rfl, rfl, rfl⟩ := trodAll_nil h
    exact trodAll_mk0
  | t :: ts, vs, ds, ps, hr, h, hlt => by
    obtain ⟨v, vs', d, ds', p, q, rfl, rfl, rfl, h1, h2⟩ := trodAll_cons h
    obtain ⟨r1, r2⟩ := hr t (by simp)
    exact trodAll_cons_mk (Below.trod Try.laidOut r1 r2 h1 hb (fun x hx => hlt x (by simp [hx]))) (all_below hb ts vs' ds' q (fun t' ht' => hr t' (by simp [ht'])) h2 (fun x hx => hlt x (by simp [hx])))

/-- What the row asks of the end of a law. -/
theorem law_post {f : Func} {s : ChangeSpec} {W W' : World} {args : Array Value} {ds gs : List (DataW H)} {before : List MemPlace} (hW : DataW.Whole enc Try.prog f.params.toList s.vars false W args.toList ds gs before)
    (hv : s.vars = []) (hres : (s.fn H (ds ++ [])).results = [.lit (.bool true)]) (hargs : (s.fn H (ds ++ [])).args = ds) (hvs : (s.fn H (ds ++ [])).vars = []) (hR : f.resultTypes = #[4])
    (hr : ∀ t ∈ f.params.toList, Try.prog.readableRec t = true ∧ t < Try.prog.types.size) (hb : Below W.heap.size W W') :
    s.post enc Try.prog f false true false false W args (.bool true) W' := by
  have hlt := hW.lt
  have hW' := hW
  obtain ⟨p, q, hA, hV, rfl, _, _⟩ := hW
  rw [hv] at hV
  obtain ⟨rfl, rfl⟩ := trodVars_none hV
  refine ⟨ds, [], p ++ [], [], p, [], hW', ?_, ?_, ?_, hb.frame _, fun h => by cases h⟩
  · rw [hres, hR]
    exact trodAll_mk1 (shut_bool Try.underlying4 true)
  · rw [hargs]
    exact all_below hb _ _ _ _ hr hA (fun x hx => hlt x (by simp [hx]))
  · rw [hv, hvs]
    exact rfl


theorem trodAll_len {W : World} {base : Nat} {spare : Nat → Bool} {held : Bool} : ∀ {ts : List TypeId} {vs : List Value} {ds : List (DataW H)} {ps : List MemPlace}, DataW.TrodAll enc Try.prog W base spare held ts vs ds ps → ds.length = ts.length
  | [], vs, ds, ps, h => by
    obtain ⟨rfl, rfl, rfl⟩ := trodAll_nil h
    rfl
  | t :: ts, vs, ds, ps, h => by
    obtain ⟨v, vs', D, ds', p, q, rfl, rfl, rfl, h1, h2⟩ := trodAll_cons h
    simp only [List.length_cons, trodAll_len h2]
theorem arr_get {α : Type} {a : Array α} {j : Nat} {x : α} (h : a.toList[j]? = some x) : a[j]? = some x := by simpa using h
end
end Go.Proofs.Ytbbklijmnknmhaa
