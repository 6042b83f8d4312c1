/-
  What a map has at a key, and near it, by both.
  The value of a key by the reference; the pairs of a range, by both.
  Differences turned round, by the code.
  Walks that begin with boxes of which none is there yet.
  Whether models are awake.
  Differences by key; equal lists: plain Lean.
  Writes that are more than is looked at; the laws of maps, of finds, of differences.
  From a law's contract to its row: every argument reads behind the call as it read before.
-/
import Derived.Test.YtbbklijmnknmhaaYe
import Derived.Test.YtbbklijmnknmhaaUe
import Derived.Test.YtbbklijmnknmhaaYa
import Derived.Test.YtbbklijmnknmhaaRows
import Derived.Test.YtbbklijmnknmhaaE5
import Derived.ProofKit
namespace Go.Proofs.Ytbbklijmnknmhaa
open Av Bk

/-- What is asked of a map and a key: an error, or what there is. -/
def gate5 {α : Type} (m : List pairT.El) (k : ByteArray) (z : α) (r : α × Int) : α × Int := if (mcL m).2 ≠ 0 then (z, (mcL m).2) else if 32 < (k.size : Int) then (z, 3) else r
theorem gate_m {α : Type} {m : List pairT.El} {k : ByteArray} {z : α} {r : α × Int} (h : (mcL m).2 ≠ 0) : gate5 m k z r = (z, (mcL m).2) := if_pos h
theorem gate_k {α : Type} {m : List pairT.El} {k : ByteArray} {z : α} {r : α × Int} (h : (mcL m).2 = 0) (hk : 32 < (k.size : Int)) : gate5 m k z r = (z, 3) := by
  unfold gate5
  rw [if_neg (by simpa using h), if_pos hk]
theorem gate_r {α : Type} {m : List pairT.El} {k : ByteArray} {z : α} {r : α × Int} (h : (mcL m).2 = 0) (hk : ¬ 32 < (k.size : Int)) : gate5 m k z r = r := by
  unfold gate5
  rw [if_neg (by simpa using h), if_neg hk]
abbrev zP5 : pairT.El := mkP ⟨#[]⟩ ⟨#[]⟩
def flR (m : List pairT.El) (k : ByteArray) : pairT.El × Int := gate5 m k zP5 (if (lkV m k).isSome = true then ((m[lbP k m]?).getD zP5, 0) else if lbP k m = 0 then (zP5, 4) else ((m[lbP k m - 1]?).getD zP5, 0))
def ceR (m : List pairT.El) (k : ByteArray) : pairT.El × Int := gate5 m k zP5 (if lbP k m < m.length then ((m[lbP k m]?).getD zP5, 0) else (zP5, 4))
def spFl5 : DSpec
  | [.lst (.st [.str, .str]) m, .str k] => some (m.length ≤ 4611686018427387904, .tup [.agg [.str (flR m k).1.1, .str (flR m k).1.2.1], .int .i64 (flR m k).2])
  | _ => none
def spCe5 : DSpec
  | [.lst (.st [.str, .str]) m, .str k] => some (m.length ≤ 4611686018427387904, .tup [.agg [.str (ceR m k).1.1, .str (ceR m k).1.2.1], .int .i64 (ceR m k).2])
  | _ => none
theorem pr_eq {a b : pairT.El × Int} (h : b = a) : AV.tup [.agg [.str a.1.1, .str a.1.2.1], .int .i64 a.2] = AV.tup [.agg [.str b.1.1, .str b.1.2.1], .int .i64 b.2] := by rw [h]
set_option maxRecDepth 100000 in
theorem fnOk_mLook : FnOk Try.prog 59 Try.f59 := ⟨by rfl, by kernel_rfl, by
  show okCode _ _ = true ∧ drawsOk _ = true
  exact ⟨by kernel_rfl, by kernel_rfl⟩⟩
noncomputable def cxyf : Cx := ⟨tb, [(59, Try.f59)], [(14, spMC), (91, spKey), (52, spFd)]⟩
theorem specsyf : SpecsOk Try.prog cxyf.specs := .cons modelCheck_ok (.cons keysCheck_ok (.cons mFind_ok .nil))
theorem fnsyf : FnsOk Try.prog cxyf.fns := .cons fnOk_mLook .nil
set_option maxRecDepth 100000 in
theorem fnOk_mFloor : FnOk Try.prog 26 Try.f26 := ⟨by rfl, by kernel_rfl, by
  show okCode _ _ = true ∧ drawsOk _ = true
  exact ⟨by kernel_rfl, by kernel_rfl⟩⟩
set_option maxRecDepth 100000 in
set_option maxHeartbeats 4000000 in
theorem mFloor_ok : SpecOk Try.prog 26 spFl5 := by
  refine spec_body (C := cxyf) mixed tbOk specsyf (callN_ok (C := cxyf) mixed tbOk specsyf fnsyf 1) fnOk_mFloor ?_
  intro ys p r h hp
  unfold spFl5 at h
  split at h
  · rename_i m k
    cases h
    by_cases hm : (mcL m).2 = 0
    · by_cases hk : 32 < (k.size : Int)
      · have e : flR m k = _ := gate_k hm hk
        have hk2 : (bif decide (32 < (k.size : Int)) then (3 : Int) else 0) = 3 := by simp [hk]
        conv => whnf
        repeat' first
          | ((first | refine auIk ?_ | refine auIi ?_ | refine auT ?_ | refine auF ?_ | with_reducible first | refine auKt ?_ | refine auKf ?_ | refine auNt ?_ | refine auNf ?_ | refine auEt ?_ | refine auEf ?_); conv => whnf)
          | ((with_reducible first | refine br_dec (fun h => ?_) (fun h => ?_) | refine br_ndec (fun h => ?_) (fun h => ?_) | refine br_ne (fun h => ?_) (fun h => ?_) | refine br_eq (fun h => ?_) (fun h => ?_)) <;> first | (exfalso; omega) | conv => whnf)
          | (refine br_intro (fun h => ?_) (fun h => ?_) <;> conv => whnf)
          | ((first | refine auNd ?_ | refine idx_nat (by omega) (fun x hx => ?_) | refine frz_auto ?_ | refine draw_plain ?_ | refine auIx (fun x hx => ?_)); conv => whnf)
          | ((first | refine bx_idx ?_ | refine bx_intro (fun b hb => ?_)); conv => whnf)
        all_goals ((try rw [hk2]); (try rw [hg]); exact pr_eq e)
      · have e : flR m k = _ := gate_r hm hk
        have hk2 : (bif decide (32 < (k.size : Int)) then (3 : Int) else 0) = 0 := by simp [hk]
        have hml := mcL_zero hm
        have hlb := lkV_lb hml.2.2 k
        have hle := lbP_le k m
        have hm5 : m.length ≤ 100000 := by have := hml.1; omega
        have hneed : ascP m ∧ m.length ≤ 100000 := ⟨hml.2.2, hm5⟩
        skip
        by_cases hlt : lbP k m < m.length
        · obtain ⟨y, hy⟩ : ∃ y, m[lbP k m]? = some y := ⟨_, List.getElem?_eq_getElem hlt⟩
          rw [hy] at hlb
          cases hs : sEq y.1 k with
          | true =>
            have hks : lkV m k = some y.2.1 := by rw [hlb]; exact if_pos hs
            have hki : (lkV m k).isSome = true := by rw [hks]; rfl
            have hkb : (!(lkV m k).isSome) = false := by rw [hki]; rfl
            rw [hks] at e
            conv => whnf
            repeat' first
              | ((first | refine auIk ?_ | refine auIi ?_ | refine auT ?_ | refine auF ?_ | with_reducible first | refine auKt ?_ | refine auKf ?_ | refine auNt ?_ | refine auNf ?_ | refine auEt ?_ | refine auEf ?_); conv => whnf)
              | ((with_reducible first | refine br_dec (fun h => ?_) (fun h => ?_) | refine br_ndec (fun h => ?_) (fun h => ?_) | refine br_ne (fun h => ?_) (fun h => ?_) | refine br_eq (fun h => ?_) (fun h => ?_)) <;> first | (exfalso; omega) | conv => whnf)
              | (refine br_intro (fun h => ?_) (fun h => ?_) <;> conv => whnf)
              | ((first | refine auNd ?_ | refine idx_nat (by omega) (fun x hx => ?_) | refine frz_auto ?_ | refine draw_plain ?_ | refine auIx (fun x hx => ?_)); conv => whnf)
              | ((first | refine bx_idx ?_ | refine bx_intro (fun b hb => ?_)); conv => whnf)
            all_goals first
              | (refine pr_eq (a := (y, 0)) (e.trans ?_)
                 first
                   | (rw [if_pos hlt, hy]; rfl)
                   | (rw [hy]; rfl)
                 done)
              | (refine pr_eq (a := (zP5, 4)) (e.trans ?_); simp [*]; done)
              | (refine pr_eq (a := (zP5, 4)) (e.trans ?_); have hz : lbP k m = 0 := by omega
                 simp [hz]; done)
              | (rw [show ((lbP k m : Int) - 1).toNat = lbP k m - 1 by omega] at hx
                 refine pr_eq (a := (x, 0)) (e.trans ?_)
                 have hz : ¬ lbP k m = 0 := by omega
                 rw [if_neg (by simp), if_neg hz, hx]; rfl)
          | false =>
            have hks : lkV m k = none := by rw [hlb]; exact if_neg (by rw [hs]; decide)
            have hki : (lkV m k).isSome = false := by rw [hks]; rfl
            have hkb : (!(lkV m k).isSome) = true := by rw [hki]; rfl
            rw [hks] at e
            conv => whnf
            repeat' first
              | ((first | refine auIk ?_ | refine auIi ?_ | refine auT ?_ | refine auF ?_ | with_reducible first | refine auKt ?_ | refine auKf ?_ | refine auNt ?_ | refine auNf ?_ | refine auEt ?_ | refine auEf ?_); conv => whnf)
              | ((with_reducible first | refine br_dec (fun h => ?_) (fun h => ?_) | refine br_ndec (fun h => ?_) (fun h => ?_) | refine br_ne (fun h => ?_) (fun h => ?_) | refine br_eq (fun h => ?_) (fun h => ?_)) <;> first | (exfalso; omega) | conv => whnf)
              | (refine br_intro (fun h => ?_) (fun h => ?_) <;> conv => whnf)
              | ((first | refine auNd ?_ | refine idx_nat (by omega) (fun x hx => ?_) | refine frz_auto ?_ | refine draw_plain ?_ | refine auIx (fun x hx => ?_)); conv => whnf)
              | ((first | refine bx_idx ?_ | refine bx_intro (fun b hb => ?_)); conv => whnf)
            all_goals first
              | (refine pr_eq (a := (y, 0)) (e.trans ?_)
                 first
                   | (rw [if_pos hlt, hy]; rfl)
                   | (rw [hy]; rfl)
                 done)
              | (refine pr_eq (a := (zP5, 4)) (e.trans ?_); simp [*]; done)
              | (refine pr_eq (a := (zP5, 4)) (e.trans ?_); have hz : lbP k m = 0 := by omega
                 simp [hz]; done)
              | (rw [show ((lbP k m : Int) - 1).toNat = lbP k m - 1 by omega] at hx
                 refine pr_eq (a := (x, 0)) (e.trans ?_)
                 have hz : ¬ lbP k m = 0 := by omega
                 rw [if_neg (by simp), if_neg hz, hx]; rfl)
        · have hnone : m[lbP k m]? = none := List.getElem?_eq_none (by omega)
          rw [hnone] at hlb
          have hki : (lkV m k).isSome = false := by rw [hlb]; rfl
          have hkb : (!(lkV m k).isSome) = true := by rw [hki]; rfl
          rw [hlb] at e
          conv => whnf
          repeat' first
            | ((first | refine auIk ?_ | refine auIi ?_ | refine auT ?_ | refine auF ?_ | with_reducible first | refine auKt ?_ | refine auKf ?_ | refine auNt ?_ | refine auNf ?_ | refine auEt ?_ | refine auEf ?_); conv => whnf)
            | ((with_reducible first | refine br_dec (fun h => ?_) (fun h => ?_) | refine br_ndec (fun h => ?_) (fun h => ?_) | refine br_ne (fun h => ?_) (fun h => ?_) | refine br_eq (fun h => ?_) (fun h => ?_)) <;> first | (exfalso; omega) | conv => whnf)
            | (refine br_intro (fun h => ?_) (fun h => ?_) <;> conv => whnf)
            | ((first | refine auNd ?_ | refine idx_nat (by omega) (fun x hx => ?_) | refine frz_auto ?_ | refine draw_plain ?_ | refine auIx (fun x hx => ?_)); conv => whnf)
            | ((first | refine bx_idx ?_ | refine bx_intro (fun b hb => ?_)); conv => whnf)
          all_goals first
            | (refine pr_eq (a := (zP5, 4)) (e.trans ?_); simp [*]; done)
            | (refine pr_eq (a := (zP5, 4)) (e.trans ?_); have hz : lbP k m = 0 := by omega
               simp [hz]; done)
            | (rw [show ((lbP k m : Int) - 1).toNat = lbP k m - 1 by omega] at hx
               refine pr_eq (a := (x, 0)) (e.trans ?_)
               have hz : ¬ lbP k m = 0 := by omega
               rw [if_neg (by simp), if_neg hz, hx]; rfl)
    · have e : flR m k = _ := gate_m hm
      skip
      conv => whnf
      repeat' first
        | ((first | refine auIk ?_ | refine auIi ?_ | refine auT ?_ | refine auF ?_ | with_reducible first | refine auKt ?_ | refine auKf ?_ | refine auNt ?_ | refine auNf ?_ | refine auEt ?_ | refine auEf ?_); conv => whnf)
        | ((with_reducible first | refine br_dec (fun h => ?_) (fun h => ?_) | refine br_ndec (fun h => ?_) (fun h => ?_) | refine br_ne (fun h => ?_) (fun h => ?_) | refine br_eq (fun h => ?_) (fun h => ?_)) <;> first | (exfalso; omega) | conv => whnf)
        | (refine br_intro (fun h => ?_) (fun h => ?_) <;> conv => whnf)
        | ((first | refine auNd ?_ | refine idx_nat (by omega) (fun x hx => ?_) | refine frz_auto ?_ | refine draw_plain ?_ | refine auIx (fun x hx => ?_)); conv => whnf)
        | ((first | refine bx_idx ?_ | refine bx_intro (fun b hb => ?_)); conv => whnf)
      all_goals ((try rw [hg]); exact pr_eq e)
  · cases h
set_option maxRecDepth 100000 in
theorem fnOk_mCeil : FnOk Try.prog 28 Try.f28 := ⟨by rfl, by kernel_rfl, by
  show okCode _ _ = true ∧ drawsOk _ = true
  exact ⟨by kernel_rfl, by kernel_rfl⟩⟩
set_option maxRecDepth 100000 in
set_option maxHeartbeats 4000000 in
theorem mCeil_ok : SpecOk Try.prog 28 spCe5 := by
  refine spec_body (C := cxyf) mixed tbOk specsyf (callN_ok (C := cxyf) mixed tbOk specsyf fnsyf 1) fnOk_mCeil ?_
  intro ys p r h hp
  unfold spCe5 at h
  split at h
  · rename_i m k
    cases h
    by_cases hm : (mcL m).2 = 0
    · by_cases hk : 32 < (k.size : Int)
      · have e : ceR m k = _ := gate_k hm hk
        have hk2 : (bif decide (32 < (k.size : Int)) then (3 : Int) else 0) = 3 := by simp [hk]
        conv => whnf
        repeat' first
          | ((first | refine auIk ?_ | refine auIi ?_ | refine auT ?_ | refine auF ?_ | with_reducible first | refine auKt ?_ | refine auKf ?_ | refine auNt ?_ | refine auNf ?_ | refine auEt ?_ | refine auEf ?_); conv => whnf)
          | ((with_reducible first | refine br_dec (fun h => ?_) (fun h => ?_) | refine br_ndec (fun h => ?_) (fun h => ?_) | refine br_ne (fun h => ?_) (fun h => ?_) | refine br_eq (fun h => ?_) (fun h => ?_)) <;> first | (exfalso; omega) | conv => whnf)
          | (refine br_intro (fun h => ?_) (fun h => ?_) <;> conv => whnf)
          | ((first | refine auNd ?_ | refine idx_nat (by omega) (fun x hx => ?_) | refine frz_auto ?_ | refine draw_plain ?_ | refine auIx (fun x hx => ?_)); conv => whnf)
          | ((first | refine bx_idx ?_ | refine bx_intro (fun b hb => ?_)); conv => whnf)
        all_goals ((try rw [hk2]); (try rw [hg]); exact pr_eq e)
      · have e : ceR m k = _ := gate_r hm hk
        have hk2 : (bif decide (32 < (k.size : Int)) then (3 : Int) else 0) = 0 := by simp [hk]
        have hml := mcL_zero hm
        have hlb := lkV_lb hml.2.2 k
        have hle := lbP_le k m
        have hm5 : m.length ≤ 100000 := by have := hml.1; omega
        have hneed : ascP m ∧ m.length ≤ 100000 := ⟨hml.2.2, hm5⟩
        skip
        by_cases hlt : lbP k m < m.length
        · obtain ⟨y, hy⟩ : ∃ y, m[lbP k m]? = some y := ⟨_, List.getElem?_eq_getElem hlt⟩
          rw [hy] at hlb
          cases hs : sEq y.1 k with
          | true =>
            have hks : lkV m k = some y.2.1 := by rw [hlb]; exact if_pos hs
            have hki : (lkV m k).isSome = true := by rw [hks]; rfl
            have hkb : (!(lkV m k).isSome) = false := by rw [hki]; rfl
            skip
            conv => whnf
            repeat' first
              | ((first | refine auIk ?_ | refine auIi ?_ | refine auT ?_ | refine auF ?_ | with_reducible first | refine auKt ?_ | refine auKf ?_ | refine auNt ?_ | refine auNf ?_ | refine auEt ?_ | refine auEf ?_); conv => whnf)
              | ((with_reducible first | refine br_dec (fun h => ?_) (fun h => ?_) | refine br_ndec (fun h => ?_) (fun h => ?_) | refine br_ne (fun h => ?_) (fun h => ?_) | refine br_eq (fun h => ?_) (fun h => ?_)) <;> first | (exfalso; omega) | conv => whnf)
              | (refine br_intro (fun h => ?_) (fun h => ?_) <;> conv => whnf)
              | ((first | refine auNd ?_ | refine idx_nat (by omega) (fun x hx => ?_) | refine frz_auto ?_ | refine draw_plain ?_ | refine auIx (fun x hx => ?_)); conv => whnf)
              | ((first | refine bx_idx ?_ | refine bx_intro (fun b hb => ?_)); conv => whnf)
            all_goals first
              | (refine pr_eq (a := (y, 0)) (e.trans ?_)
                 first
                   | (rw [if_pos hlt, hy]; rfl)
                   | (rw [hy]; rfl)
                 done)
              | (refine pr_eq (a := (zP5, 4)) (e.trans ?_); simp [*]; done)
              | (refine pr_eq (a := (zP5, 4)) (e.trans ?_); have hz : lbP k m = 0 := by omega
                 simp [hz]; done)
              | (rw [show ((lbP k m : Int) - 1).toNat = lbP k m - 1 by omega] at hx
                 refine pr_eq (a := (x, 0)) (e.trans ?_)
                 have hz : ¬ lbP k m = 0 := by omega
                 rw [if_neg (by simp), if_neg hz, hx]; rfl)
          | false =>
            have hks : lkV m k = none := by rw [hlb]; exact if_neg (by rw [hs]; decide)
            have hki : (lkV m k).isSome = false := by rw [hks]; rfl
            have hkb : (!(lkV m k).isSome) = true := by rw [hki]; rfl
            skip
            conv => whnf
            repeat' first
              | ((first | refine auIk ?_ | refine auIi ?_ | refine auT ?_ | refine auF ?_ | with_reducible first | refine auKt ?_ | refine auKf ?_ | refine auNt ?_ | refine auNf ?_ | refine auEt ?_ | refine auEf ?_); conv => whnf)
              | ((with_reducible first | refine br_dec (fun h => ?_) (fun h => ?_) | refine br_ndec (fun h => ?_) (fun h => ?_) | refine br_ne (fun h => ?_) (fun h => ?_) | refine br_eq (fun h => ?_) (fun h => ?_)) <;> first | (exfalso; omega) | conv => whnf)
              | (refine br_intro (fun h => ?_) (fun h => ?_) <;> conv => whnf)
              | ((first | refine auNd ?_ | refine idx_nat (by omega) (fun x hx => ?_) | refine frz_auto ?_ | refine draw_plain ?_ | refine auIx (fun x hx => ?_)); conv => whnf)
              | ((first | refine bx_idx ?_ | refine bx_intro (fun b hb => ?_)); conv => whnf)
            all_goals first
              | (refine pr_eq (a := (y, 0)) (e.trans ?_)
                 first
                   | (rw [if_pos hlt, hy]; rfl)
                   | (rw [hy]; rfl)
                 done)
              | (refine pr_eq (a := (zP5, 4)) (e.trans ?_); simp [*]; done)
              | (refine pr_eq (a := (zP5, 4)) (e.trans ?_); have hz : lbP k m = 0 := by omega
                 simp [hz]; done)
              | (rw [show ((lbP k m : Int) - 1).toNat = lbP k m - 1 by omega] at hx
                 refine pr_eq (a := (x, 0)) (e.trans ?_)
                 have hz : ¬ lbP k m = 0 := by omega
                 rw [if_neg (by simp), if_neg hz, hx]; rfl)
        · have hnone : m[lbP k m]? = none := List.getElem?_eq_none (by omega)
          rw [hnone] at hlb
          have hki : (lkV m k).isSome = false := by rw [hlb]; rfl
          have hkb : (!(lkV m k).isSome) = true := by rw [hki]; rfl
          skip
          conv => whnf
          repeat' first
            | ((first | refine auIk ?_ | refine auIi ?_ | refine auT ?_ | refine auF ?_ | with_reducible first | refine auKt ?_ | refine auKf ?_ | refine auNt ?_ | refine auNf ?_ | refine auEt ?_ | refine auEf ?_); conv => whnf)
            | ((with_reducible first | refine br_dec (fun h => ?_) (fun h => ?_) | refine br_ndec (fun h => ?_) (fun h => ?_) | refine br_ne (fun h => ?_) (fun h => ?_) | refine br_eq (fun h => ?_) (fun h => ?_)) <;> first | (exfalso; omega) | conv => whnf)
            | (refine br_intro (fun h => ?_) (fun h => ?_) <;> conv => whnf)
            | ((first | refine auNd ?_ | refine idx_nat (by omega) (fun x hx => ?_) | refine frz_auto ?_ | refine draw_plain ?_ | refine auIx (fun x hx => ?_)); conv => whnf)
            | ((first | refine bx_idx ?_ | refine bx_intro (fun b hb => ?_)); conv => whnf)
          all_goals first
            | (refine pr_eq (a := (zP5, 4)) (e.trans ?_); simp [*]; done)
            | (refine pr_eq (a := (zP5, 4)) (e.trans ?_); have hz : lbP k m = 0 := by omega
               simp [hz]; done)
            | (rw [show ((lbP k m : Int) - 1).toNat = lbP k m - 1 by omega] at hx
               refine pr_eq (a := (x, 0)) (e.trans ?_)
               have hz : ¬ lbP k m = 0 := by omega
               rw [if_neg (by simp), if_neg hz, hx]; rfl)
    · have e : ceR m k = _ := gate_m hm
      skip
      conv => whnf
      repeat' first
        | ((first | refine auIk ?_ | refine auIi ?_ | refine auT ?_ | refine auF ?_ | with_reducible first | refine auKt ?_ | refine auKf ?_ | refine auNt ?_ | refine auNf ?_ | refine auEt ?_ | refine auEf ?_); conv => whnf)
        | ((with_reducible first | refine br_dec (fun h => ?_) (fun h => ?_) | refine br_ndec (fun h => ?_) (fun h => ?_) | refine br_ne (fun h => ?_) (fun h => ?_) | refine br_eq (fun h => ?_) (fun h => ?_)) <;> first | (exfalso; omega) | conv => whnf)
        | (refine br_intro (fun h => ?_) (fun h => ?_) <;> conv => whnf)
        | ((first | refine auNd ?_ | refine idx_nat (by omega) (fun x hx => ?_) | refine frz_auto ?_ | refine draw_plain ?_ | refine auIx (fun x hx => ?_)); conv => whnf)
        | ((first | refine bx_idx ?_ | refine bx_intro (fun b hb => ?_)); conv => whnf)
      all_goals ((try rw [hg]); exact pr_eq e)
  · cases h
end Go.Proofs.Ytbbklijmnknmhaa
namespace Go.Proofs.Ytbbklijmnknmhaa
open Av Bk

end Go.Proofs.Ytbbklijmnknmhaa
namespace Go.Proofs.Ytbbklijmnknmhaa
open Av Bk Go.Proofs Go.Lib

end Go.Proofs.Ytbbklijmnknmhaa
namespace Av
open Go Go.ChangeShapes Go.WideShapes Go.ChangeAt Go.RowKit Go.Joins Go.Deep

/-- Objects of boxes that have none. -/
def NoBx (B : Hp) : Prop := ∀ o ∈ B, ∃ T t, o = .oth (.bxs T t [])
def St.bx (s : St) (B : Hp) : St := ⟨fun _ => .bool false, B, s.w, s.F⟩
theorem bx_noI {s : St} {B : Hp} (hB : NoBx B) {b : Nat} : ¬ OwnI (s.bx B) b := by
  rintro ⟨i, o, h1, _, h3⟩
  obtain ⟨T, t, rfl⟩ := hB o (List.mem_of_getElem? h1)
  rcases h3 with h3 | h3
  · cases h3
  · have h3 : b ∈ ([] : List Nat) := h3
    simp at h3
theorem bx_ok {s : St} (hok : Ok s) {B : Hp} (hB : NoBx B) : Ok (s.bx B) where
  obj := fun id o h => by
    obtain ⟨T, t, rfl⟩ := hB o (List.mem_of_getElem? h)
    exact ⟨rfl, by simp, fun b x hx => by simp at hx⟩
  inj := fun i j o p b hi _ ho _ hb _ => absurd ⟨i, o, hi, ho, hb⟩ (bx_noI hB)
  fb := hok.fb
  dis := fun b h => absurd h (bx_noI hB)
theorem bx_RL {s : St} (hh : s.h = []) {B : Hp} (hB : NoBx B) {xs : List AV} {cs : List Value} (hr : RL s xs cs) : RL (s.bx B) xs cs :=
  RL_pure (s2 := s.bx B) hh rfl (fun b hn h => h.elim (fun h => hn (.inl h)) (bx_noI hB)) xs cs hr
theorem bx_step {s s' : St} (hh : s.h = []) {B : Hp} (hB : NoBx B) (hst : Step (s.bx B) s') : Step s (s'.cut 0) where
  os := hst.os
  tape := hst.tape
  output := hst.output
  drawn := hst.drawn
  size := hst.size
  kn := fun i hi => by unfold Av.kn at hi; rw [hh] at hi; simp at hi
  keep := fun b hb _ => ⟨fun ⟨id, o, h, _⟩ => by simp [St.cut] at h, (hst.keep b hb (bx_noI hB)).2⟩
  frn := hst.frn
  cells := fun i T cs' hi _ => by unfold Av.kn at hi; rw [hh] at hi; simp at hi
  oth := fun i o' hi _ => by unfold Av.kn at hi; rw [hh] at hi; simp at hi
  arr := fun i T t l' f' g hi _ => by unfold Av.kn at hi; rw [hh] at hi; simp at hi
section
variable {P : Program}
theorem spec_bodyB {C : Cx} (hm : P.follows .mixedOrders = true) (hT : TbOk P C.tb) (hD : SpecsOk P C.specs) {call : CallA} (hcall : CallOk P call) {g : FuncId} {fn : Func} (hf : FnOk P g fn) {sp : DSpec} {B : Hp} (hB : NoBx B)
    (h : ∀ ys p r, sp ys = some (p, r) → p → bodyA C call fn ys B (fun v h => (viewR h v fun y => .ok y none).sat fun y _ => y = r)) : SpecOk P g sp := by
  refine ⟨hf.enters, fun ys p r hsp hp s hok hh cs hr => ?_⟩
  have hb := h ys p r hsp hp
  refine Calls.mono (bodyA_ok hm hT hD hcall hf (s := s.bx B) hb (bx_ok hok hB) (bx_RL hh hB hr)) ?_
  rintro e w' ⟨s', v, cr, rfl, rfl, hst, hok', hv, hK⟩
  obtain ⟨y, ob, his, rfl⟩ := Res.sat_is hK
  have hFo : ∀ b, s'.F b → Own s' b := fun b hb => .inl hb
  obtain ⟨z, hz, hR⟩ := viewR_ok hok' (SubH.refl _) (F := s'.F) hFo v cr _ y ob hv (fun _ b hb => hok'.dis b hb) his
  obtain ⟨rfl, _⟩ := hz
  have hcut : s'.cut 0 = s'.callee s'.F := by
    unfold St.cut St.callee
    rw [List.take_zero]
  refine ⟨s'.cut 0, cr, rfl, rfl, bx_step hh hB hst, cut_ok hok' (fun id T cs hlt => by omega), by rw [hcut]; rfl, by rw [hcut]; exact hR⟩
variable {H : Type} {enc : TypeId × Value → H} {w : World} {base : Nat} {spare : Nat → Bool} {held : Bool}
end
end Av
namespace Go.Proofs.Ytbbklijmnknmhaa
open Av Bk

abbrev cuT : Ty := .st [.sl pairT, .int .i64]
abbrev B5 : Hp := [.oth (.bxs 22 (.sl pairT) []), .oth (.bxs 109 cuT [])]
theorem B5_no : NoBx B5 := by
  intro o ho
  rcases List.mem_cons.1 ho with rfl | ho
  · exact ⟨_, _, rfl⟩
  · rcases List.mem_cons.1 ho with rfl | ho
    · exact ⟨_, _, rfl⟩
    · cases ho
set_option maxRecDepth 100000 in
theorem fnOk_ex5 : FnOk Try.prog 49 Try.f49 := ⟨by rfl, by kernel_rfl, by
  show okCode _ _ = true ∧ drawsOk _ = true
  exact ⟨by kernel_rfl, by kernel_rfl⟩⟩
set_option maxRecDepth 100000 in
theorem fnOk_mNew : FnOk Try.prog 33 Try.f33 := ⟨by rfl, by kernel_rfl, by
  show okCode _ _ = true ∧ drawsOk _ = true
  exact ⟨by kernel_rfl, by kernel_rfl⟩⟩
set_option maxRecDepth 100000 in
theorem fnOk_xNone : FnOk Try.prog 71 Try.f71 := ⟨by rfl, by kernel_rfl, by
  show okCode _ _ = true ∧ drawsOk _ = true
  exact ⟨by kernel_rfl, by kernel_rfl⟩⟩
set_option maxRecDepth 100000 in
theorem fnOk_xPin : FnOk Try.prog 47 Try.f47 := ⟨by rfl, by kernel_rfl, by
  show okCode _ _ = true ∧ drawsOk _ = true
  exact ⟨by kernel_rfl, by kernel_rfl⟩⟩
set_option maxRecDepth 100000 in
theorem fnOk_xUnpin : FnOk Try.prog 48 Try.f48 := ⟨by rfl, by kernel_rfl, by
  show okCode _ _ = true ∧ drawsOk _ = true
  exact ⟨by kernel_rfl, by kernel_rfl⟩⟩
set_option maxRecDepth 100000 in
theorem fnOk_xMap : FnOk Try.prog 40 Try.f40 := ⟨by rfl, by kernel_rfl, by
  show okCode _ _ = true ∧ drawsOk _ = true
  exact ⟨by kernel_rfl, by kernel_rfl⟩⟩
set_option maxRecDepth 100000 in
theorem fnOk_xVer : FnOk Try.prog 75 Try.f75 := ⟨by rfl, by kernel_rfl, by
  show okCode _ _ = true ∧ drawsOk _ = true
  exact ⟨by kernel_rfl, by kernel_rfl⟩⟩
set_option maxRecDepth 100000 in
theorem fnOk_tpGive : FnOk Try.prog 84 Try.f84 := ⟨by rfl, by kernel_rfl, by
  show okCode _ _ = true ∧ drawsOk _ = true
  exact ⟨by kernel_rfl, by kernel_rfl⟩⟩
set_option maxRecDepth 100000 in
theorem fnOk_tpGive1 : FnOk Try.prog 101 Try.f101 := ⟨by rfl, by kernel_rfl, by
  show okCode _ _ = true ∧ drawsOk _ = true
  exact ⟨by kernel_rfl, by kernel_rfl⟩⟩
set_option maxRecDepth 100000 in
theorem fnOk_tpDrop : FnOk Try.prog 85 Try.f85 := ⟨by rfl, by kernel_rfl, by
  show okCode _ _ = true ∧ drawsOk _ = true
  exact ⟨by kernel_rfl, by kernel_rfl⟩⟩
set_option maxRecDepth 100000 in
theorem fnOk_tpLook : FnOk Try.prog 95 Try.f95 := ⟨by rfl, by kernel_rfl, by
  show okCode _ _ = true ∧ drawsOk _ = true
  exact ⟨by kernel_rfl, by kernel_rfl⟩⟩
set_option maxRecDepth 100000 in
theorem fnOk_tpIdx : FnOk Try.prog 100 Try.f100 := ⟨by rfl, by kernel_rfl, by
  show okCode _ _ = true ∧ drawsOk _ = true
  exact ⟨by kernel_rfl, by kernel_rfl⟩⟩
noncomputable def cxyi : Cx := ⟨tb, [(49, Try.f49), (33, Try.f33), (71, Try.f71), (47, Try.f47), (48, Try.f48), (40, Try.f40), (75, Try.f75), (84, Try.f84), (101, Try.f101), (85, Try.f85), (95, Try.f95), (100, Try.f100)], [(26, .d spFl5), (28, .d spCe5), (16, .d spWr), (19, .d spDiff), (18, .d spSameP), (21, .d spSameI), (51, .f spClP)]⟩
theorem specsyi : SpecsOk Try.prog cxyi.specs := .cons mFloor_ok (.cons mCeil_ok (.cons mWrite_ok (.cons mDiff_ok (.cons same05_ok (.cons sameIt_ok (.consF cloneP_ok .nil))))))
theorem fnsyi : FnsOk Try.prog cxyi.fns := .cons fnOk_ex5 (.cons fnOk_mNew (.cons fnOk_xNone (.cons fnOk_xPin (.cons fnOk_xUnpin (.cons fnOk_xMap (.cons fnOk_xVer (.cons fnOk_tpGive (.cons fnOk_tpGive1 (.cons fnOk_tpDrop (.cons fnOk_tpLook (.cons fnOk_tpIdx .nil)))))))))))
def spAw5 : DSpec
  | [] => some (True, .bool true)
  | _ => none
set_option maxRecDepth 100000 in
theorem fnOk_awake5 : FnOk Try.prog 13 Try.f13 := ⟨by rfl, by kernel_rfl, by
  show okCode _ _ = true ∧ drawsOk _ = true
  exact ⟨by kernel_rfl, by kernel_rfl⟩⟩
set_option maxRecDepth 100000 in
set_option maxHeartbeats 8000000 in
theorem awake5_ok : SpecOk Try.prog 13 spAw5 := by
  refine spec_bodyB (C := cxyi) mixed tbOk specsyi (callN_ok (C := cxyi) mixed tbOk specsyi fnsyi 6) fnOk_awake5 B5_no ?_
  intro ys p r h hp
  unfold spAw5 at h
  split at h
  · cases h
    conv => whnf
    repeat' first
      | (refine br_true (by first | with_reducible exact rfl | decide | rfl) ?_; conv => whnf)
      | (refine br_false (by first | with_reducible exact rfl | decide | rfl) ?_; conv => whnf)
      | (refine need_in (by first | exact trivial | exact ⟨rfl, Nat.le_refl _⟩ | exact ⟨rfl, Nat.le_of_ble_eq_true rfl⟩ | exact ⟨rfl, Nat.le_of_ble_eq_true rfl, Nat.le_of_ble_eq_true rfl, Nat.le_of_ble_eq_true rfl⟩ | decide | (simp only [inR]; omega) | omega) ?_; conv => whnf)
      | (refine frz_auto ?_; conv => whnf)
      | (refine draw_plain ?_; conv => whnf)
      | (refine idx_cl ?_; (conv => whnf); refine ⟨by first | decide | (refine ⟨?_, ?_⟩ <;> simp) | (refine ⟨?_, ?_⟩ <;> (simp; omega)), ?_⟩; conv => whnf)
      | (refine bx_intro (fun b hb => ?_); conv => whnf)
      | (refine loop_turns 3 ?_; conv => whnf)
      | fail
    rfl
  · cases h
end Go.Proofs.Ytbbklijmnknmhaa
namespace Go.Proofs.Ytbbklijmnknmhaa
open Av Bk

/-! ### Lists that ascend -/
/-- The items of a key. -/
abbrev atK (l : List itemT.El) (k : ByteArray) : List itemT.El := l.filter (fun x => sEq x.2.1 k)
/-! ### Differences by key -/
theorem find_at {l : List itemT.El} {k : ByteArray} : l.find? (fun x => sEq x.2.1 k) = (atK l k).head? := by
  rw [List.head?_filter]
end Go.Proofs.Ytbbklijmnknmhaa
namespace Go.Proofs.Ytbbklijmnknmhaa
open Av Bk

def bigW (x : wrT.El) : Bool := decide (200 < (x.1.size : Int)) || decide (200 < (x.2.1.size : Int))
def wideW (l : List wrT.El) : Bool := if 12 < (l.length : Int) then true else l.any bigW
def spWd5 : DSpec
  | [.lst (.st [.str, .str, .bool]) l] => some (True, .bool (wideW l))
  | _ => none
set_option maxRecDepth 100000 in
theorem fnOk_wide5 : FnOk Try.prog 12 Try.f12 := ⟨by rfl, by kernel_rfl, by
  show okCode _ _ = true ∧ drawsOk _ = true
  exact ⟨by kernel_rfl, by kernel_rfl⟩⟩
set_option maxRecDepth 100000 in
set_option maxHeartbeats 4000000 in
theorem wide5_ok : SpecOk Try.prog 12 spWd5 := by
  refine spec_body (C := cx0) mixed tbOk SpecsOk.nil (callN_ok (C := cx0) mixed tbOk SpecsOk.nil FnsOk.nil 0) fnOk_wide5 ?_
  intro ys p r h hp
  unfold spWd5 at h
  split at h
  · rename_i l
    cases h
    by_cases ho : 12 < (l.length : Int)
    · have hF : wideW l = true := by unfold wideW; rw [if_pos ho]
      conv => whnf
      repeat' first
        | ((first | refine auIk ?_ | refine auIi ?_ | refine auT ?_ | refine auF ?_ | with_reducible first | refine auKt ?_ | refine auKf ?_ | refine auNt ?_ | refine auNf ?_ | refine auEt ?_ | refine auEf ?_); conv => whnf)
        | ((with_reducible first | refine br_dec (fun h => ?_) (fun h => ?_) | refine br_ndec (fun h => ?_) (fun h => ?_) | refine br_ne (fun h => ?_) (fun h => ?_) | refine br_eq (fun h => ?_) (fun h => ?_)) <;> first | (exfalso; omega) | conv => whnf)
        | (refine br_intro (fun h => ?_) (fun h => ?_) <;> conv => whnf)
        | ((first | refine auNd ?_ | refine idx_nat (by omega) (fun x hx => ?_) | refine frz_auto ?_ | refine draw_plain ?_ | refine auIx (fun x hx => ?_)); conv => whnf)
        | ((first | refine bx_idx ?_ | refine bx_intro (fun b hb => ?_)); conv => whnf)
      all_goals first | (rw [hF]; done) | (exfalso; omega) | skip
    · have hF : wideW l = l.any bigW := by unfold wideW; rw [if_neg ho]
      conv => whnf
      repeat' first
        | ((first | refine auIk ?_ | refine auIi ?_ | refine auT ?_ | refine auF ?_ | with_reducible first | refine auKt ?_ | refine auKf ?_ | refine auNt ?_ | refine auNf ?_ | refine auEt ?_ | refine auEf ?_); conv => whnf)
        | ((with_reducible first | refine br_dec (fun h => ?_) (fun h => ?_) | refine br_ndec (fun h => ?_) (fun h => ?_) | refine br_ne (fun h => ?_) (fun h => ?_) | refine br_eq (fun h => ?_) (fun h => ?_)) <;> first | (exfalso; omega) | conv => whnf)
        | (refine br_intro (fun h => ?_) (fun h => ?_) <;> conv => whnf)
        | ((first | refine auNd ?_ | refine idx_nat (by omega) (fun x hx => ?_) | refine frz_auto ?_ | refine draw_plain ?_ | refine auIx (fun x hx => ?_)); conv => whnf)
        | ((first | refine bx_idx ?_ | refine bx_intro (fun b hb => ?_)); conv => whnf)
      refine loop_inv [] [3] (fun vs h => ∃ i : Nat, vs = [.int .i64 (i : Int)] ∧ h = [] ∧ i ≤ l.length ∧ ∀ y ∈ l.take i, bigW y = false) (fun vs _ => match vs with | [.int _ k] => l.length - k.toNat | _ => 0) ?_
      conv => whnf
      refine ⟨⟨0, rfl, rfl, by omega, by simp⟩, ?_⟩
      rintro vs h' - ⟨i, rfl, rfl, hi, hall⟩
      by_cases hil : i < l.length
      · obtain ⟨x, hx⟩ : ∃ x, l[i]? = some x := ⟨_, List.getElem?_eq_getElem hil⟩
        conv => whnf
        repeat' first
          | ((first | refine auIk ?_ | refine auIi ?_ | refine auT ?_ | refine auF ?_ | with_reducible first | refine auKt ?_ | refine auKf ?_ | refine auNt ?_ | refine auNf ?_ | refine auEt ?_ | refine auEf ?_); conv => whnf)
          | ((with_reducible first | refine br_dec (fun h => ?_) (fun h => ?_) | refine br_ndec (fun h => ?_) (fun h => ?_) | refine br_ne (fun h => ?_) (fun h => ?_) | refine br_eq (fun h => ?_) (fun h => ?_)) <;> first | (exfalso; omega) | conv => whnf)
          | (refine br_intro (fun h => ?_) (fun h => ?_) <;> conv => whnf)
          | ((first | refine auNd ?_ | refine idx_nat (by omega) (fun x hx => ?_) | refine frz_auto ?_ | refine draw_plain ?_ | refine auIx (fun x hx => ?_)); conv => whnf)
          | ((first | refine bx_idx ?_ | refine bx_intro (fun b hb => ?_)); conv => whnf)
        all_goals first
          | (rw [hF, any_at hx (by clear hF hall; simp [bigW, *])]; done)
          | (refine back_intro (by conv => whnf) rfl ⟨i + 1, rfl, rfl, by omega, take_succ_all hall hx (by clear hF hall; simp [bigW]; omega)⟩ ?_
             show l.length - ((i : Int) + 1).toNat < l.length - (i : Int).toNat
             omega)
      · conv => whnf
        repeat' first
          | ((first | refine auIk ?_ | refine auIi ?_ | refine auT ?_ | refine auF ?_ | with_reducible first | refine auKt ?_ | refine auKf ?_ | refine auNt ?_ | refine auNf ?_ | refine auEt ?_ | refine auEf ?_); conv => whnf)
          | ((with_reducible first | refine br_dec (fun h => ?_) (fun h => ?_) | refine br_ndec (fun h => ?_) (fun h => ?_) | refine br_ne (fun h => ?_) (fun h => ?_) | refine br_eq (fun h => ?_) (fun h => ?_)) <;> first | (exfalso; omega) | conv => whnf)
          | (refine br_intro (fun h => ?_) (fun h => ?_) <;> conv => whnf)
          | ((first | refine auNd ?_ | refine idx_nat (by omega) (fun x hx => ?_) | refine frz_auto ?_ | refine draw_plain ?_ | refine auIx (fun x hx => ?_)); conv => whnf)
          | ((first | refine bx_idx ?_ | refine bx_intro (fun b hb => ?_)); conv => whnf)
        rw [hF, any_end hall (by omega)]
  · cases h
set_option maxRecDepth 100000 in
theorem fnOk_lNo : FnOk Try.prog 10 Try.f10 := ⟨by rfl, by kernel_rfl, by
  show okCode _ _ = true ∧ drawsOk _ = true
  exact ⟨by kernel_rfl, by kernel_rfl⟩⟩
set_option maxRecDepth 100000 in
theorem fnOk_xOpen : FnOk Try.prog 41 Try.f41 := ⟨by rfl, by kernel_rfl, by
  show okCode _ _ = true ∧ drawsOk _ = true
  exact ⟨by kernel_rfl, by kernel_rfl⟩⟩
set_option maxRecDepth 100000 in
theorem fnOk_xNext : FnOk Try.prog 44 Try.f44 := ⟨by rfl, by kernel_rfl, by
  show okCode _ _ = true ∧ drawsOk _ = true
  exact ⟨by kernel_rfl, by kernel_rfl⟩⟩
set_option maxRecDepth 100000 in
theorem fnOk_xPrev : FnOk Try.prog 45 Try.f45 := ⟨by rfl, by kernel_rfl, by
  show okCode _ _ = true ∧ drawsOk _ = true
  exact ⟨by kernel_rfl, by kernel_rfl⟩⟩
set_option maxRecDepth 100000 in
theorem fnOk_xMove : FnOk Try.prog 78 Try.f78 := ⟨by rfl, by kernel_rfl, by
  show okCode _ _ = true ∧ drawsOk _ = true
  exact ⟨by kernel_rfl, by kernel_rfl⟩⟩
set_option maxRecDepth 100000 in
theorem fnOk_xShut : FnOk Try.prog 46 Try.f46 := ⟨by rfl, by kernel_rfl, by
  show okCode _ _ = true ∧ drawsOk _ = true
  exact ⟨by kernel_rfl, by kernel_rfl⟩⟩
set_option maxRecDepth 100000 in
theorem fnOk_xLive : FnOk Try.prog 36 Try.f36 := ⟨by rfl, by kernel_rfl, by
  show okCode _ _ = true ∧ drawsOk _ = true
  exact ⟨by kernel_rfl, by kernel_rfl⟩⟩
set_option maxRecDepth 100000 in
theorem fnOk_xWrite : FnOk Try.prog 43 Try.f43 := ⟨by rfl, by kernel_rfl, by
  show okCode _ _ = true ∧ drawsOk _ = true
  exact ⟨by kernel_rfl, by kernel_rfl⟩⟩
noncomputable def lNo_C : Cx := ⟨tb, [(71, Try.f71), (40, Try.f40), (47, Try.f47), (41, Try.f41), (44, Try.f44), (45, Try.f45), (78, Try.f78), (36, Try.f36), (43, Try.f43), (48, Try.f48), (46, Try.f46)], [(13, spAw5), (12, spWd5)]⟩
theorem lNo_D : SpecsOk Try.prog lNo_C.specs := .cons awake5_ok (.cons wide5_ok .nil)
theorem lNo_F : FnsOk Try.prog lNo_C.fns := .cons fnOk_xNone (.cons fnOk_xMap (.cons fnOk_xPin (.cons fnOk_xOpen (.cons fnOk_xNext (.cons fnOk_xPrev (.cons fnOk_xMove (.cons fnOk_xLive (.cons fnOk_xWrite (.cons fnOk_xUnpin (.cons fnOk_xShut .nil))))))))))
abbrev lNo_N : Nat := 5
abbrev hdT : Ty := .st [.int .i64, .int .i64]
abbrev lNo_T : List Ty := [hdT, rgT, .sl wrT]
abbrev lNo_FN := fnOk_lNo
set_option maxRecDepth 100000 in
set_option maxHeartbeats 4000000 in
theorem lNo : ∀ es : Ty.Els lNo_T, tyOks lNo_T es → bodyA lNo_C (callN lNo_C lNo_N) Try.f10 (avTs lNo_T es) [] (fun v _ => v = .bool true) := by
  rintro ⟨⟨i, g, _⟩, ⟨lo, hi, bd, _⟩, l, _⟩ -
  show bodyA _ _ _ [.agg [.int .i64 i, .int .i64 g], .agg [.str lo, .str hi, .bool bd], .lst wrT l] [] _
  cases hW : wideW l with
  | true =>
    conv => whnf
    repeat' first
      | ((first | refine auIk ?_ | refine auIi ?_ | refine auT ?_ | refine auF ?_ | with_reducible first | refine auKt ?_ | refine auKf ?_ | refine auNt ?_ | refine auNf ?_ | refine auEt ?_ | refine auEf ?_); conv => whnf)
      | ((with_reducible first | refine br_dec (fun h => ?_) (fun h => ?_) | refine br_ndec (fun h => ?_) (fun h => ?_) | refine br_ne (fun h => ?_) (fun h => ?_) | refine br_eq (fun h => ?_) (fun h => ?_)) <;> first | (exfalso; omega) | conv => whnf)
      | (refine br_intro (fun h => ?_) (fun h => ?_) <;> conv => whnf)
      | ((first | refine auNd ?_ | refine idx_nat (by omega) (fun x hx => ?_) | refine frz_auto ?_ | refine draw_plain ?_ | refine auIx (fun x hx => ?_)); conv => whnf)
      | ((first | refine bx_idx ?_ | refine bx_intro (fun b hb => ?_)); conv => whnf)
  | false =>
    conv => whnf
    repeat' first
      | ((first | refine auIk ?_ | refine auIi ?_ | refine auT ?_ | refine auF ?_ | with_reducible first | refine auKt ?_ | refine auKf ?_ | refine auNt ?_ | refine auNf ?_ | refine auEt ?_ | refine auEf ?_); conv => whnf)
      | ((with_reducible first | refine br_dec (fun h => ?_) (fun h => ?_) | refine br_ndec (fun h => ?_) (fun h => ?_) | refine br_ne (fun h => ?_) (fun h => ?_) | refine br_eq (fun h => ?_) (fun h => ?_)) <;> first | (exfalso; omega) | conv => whnf)
      | (refine br_intro (fun h => ?_) (fun h => ?_) <;> conv => whnf)
      | ((first | refine auNd ?_ | refine idx_nat (by omega) (fun x hx => ?_) | refine frz_auto ?_ | refine draw_plain ?_ | refine auIx (fun x hx => ?_)); conv => whnf)
      | ((first | refine bx_idx ?_ | refine bx_intro (fun b hb => ?_)); conv => whnf)
    refine loop_turns 3 ?_
    conv => whnf
    repeat' first
      | ((first | refine auIk ?_ | refine auIi ?_ | refine auT ?_ | refine auF ?_ | with_reducible first | refine auKt ?_ | refine auKf ?_ | refine auNt ?_ | refine auNf ?_ | refine auEt ?_ | refine auEf ?_); conv => whnf)
      | ((with_reducible first | refine br_dec (fun h => ?_) (fun h => ?_) | refine br_ndec (fun h => ?_) (fun h => ?_) | refine br_ne (fun h => ?_) (fun h => ?_) | refine br_eq (fun h => ?_) (fun h => ?_)) <;> first | (exfalso; omega) | conv => whnf)
      | (refine br_intro (fun h => ?_) (fun h => ?_) <;> conv => whnf)
      | ((first | refine auNd ?_ | refine idx_nat (by omega) (fun x hx => ?_) | refine frz_auto ?_ | refine draw_plain ?_ | refine auIx (fun x hx => ?_)); conv => whnf)
      | ((first | refine bx_idx ?_ | refine bx_intro (fun b hb => ?_)); conv => whnf)
end Go.Proofs.Ytbbklijmnknmhaa
namespace Go.Proofs.Ytbbklijmnknmhaa
open Go.ChangeShapes Go.WideShapes Go.ChangeAt Go.RowKit Go.Joins Go.Deep Av

theorem Try.own : ownKnob Try.prog.godebug = none := by kernel_rfl
theorem Try.laidOut : laidOutB Try.prog = true := by kernel_rfl

section
variable {H : Type} {enc : TypeId × Value → H} {w : World}

/-- Every argument reads as it did. -/
theorem all_below {W W' : World} (hb : Below W.heap.size W W') : ∀ (ts : List TypeId) (vs : List Value) (ds : List (DataW H)) (ps : List MemPlace), (∀ t ∈ ts, Try.prog.readableRec t = true ∧ t < Try.prog.types.size) →
    DataW.TrodAll enc Try.prog W 0 (fun _ => true) true ts vs ds ps → (∀ x ∈ ps, x.block < W.heap.size) → DataW.TrodAll enc Try.prog W' 0 (fun b => decide (b < W.heap.size)) true ts vs ds ps
  | [], vs, ds, ps, _, h, _ => by
    obtain ⟨rfl, rfl, rfl⟩ := trodAll_nil h
    exact trodAll_mk0
  | t :: ts, vs, ds, ps, hr, h, hlt => by
    obtain ⟨v, vs', d, ds', p, q, rfl, rfl, rfl, h1, h2⟩ := trodAll_cons h
    obtain ⟨r1, r2⟩ := hr t (by simp)
    exact trodAll_cons_mk (Below.trod Try.laidOut r1 r2 h1 hb (fun x hx => hlt x (by simp [hx]))) (all_below hb ts vs' ds' q (fun t' ht' => hr t' (by simp [ht'])) h2 (fun x hx => hlt x (by simp [hx])))

/-- What the row asks of the end of a law. -/
theorem law_post {f : Func} {s : ChangeSpec} {W W' : World} {args : Array Value} {ds gs : List (DataW H)} {before : List MemPlace} (hW : DataW.Whole enc Try.prog f.params.toList s.vars false W args.toList ds gs before)
    (hv : s.vars = []) (hres : (s.fn H (ds ++ [])).results = [.lit (.bool true)]) (hargs : (s.fn H (ds ++ [])).args = ds) (hvs : (s.fn H (ds ++ [])).vars = []) (hR : f.resultTypes = #[4])
    (hr : ∀ t ∈ f.params.toList, Try.prog.readableRec t = true ∧ t < Try.prog.types.size) (hb : Below W.heap.size W W') :
    s.post enc Try.prog f false true false false W args (.bool true) W' := by
  have hlt := hW.lt
  have hW' := hW
  obtain ⟨p, q, hA, hV, rfl, _, _⟩ := hW
  rw [hv] at hV
  obtain ⟨rfl, rfl⟩ := trodVars_none hV
  refine ⟨ds, [], p ++ [], [], p, [], hW', ?_, ?_, ?_, hb.frame _, fun h => by cases h⟩
  · rw [hres, hR]
    exact trodAll_mk1 (shut_bool Try.underlying4 true)
  · rw [hargs]
    exact all_below hb _ _ _ _ hr hA (fun x hx => hlt x (by simp [hx]))
  · rw [hv, hvs]
    exact rfl


theorem trodAll_len {W : World} {base : Nat} {spare : Nat → Bool} {held : Bool} : ∀ {ts : List TypeId} {vs : List Value} {ds : List (DataW H)} {ps : List MemPlace}, DataW.TrodAll enc Try.prog W base spare held ts vs ds ps → ds.length = ts.length
  | [], vs, ds, ps, h => by
    obtain ⟨rfl, rfl, rfl⟩ := trodAll_nil h
    rfl
  | t :: ts, vs, ds, ps, h => by
    obtain ⟨v, vs', D, ds', p, q, rfl, rfl, rfl, h1, h2⟩ := trodAll_cons h
    simp only [List.length_cons, trodAll_len h2]
theorem arr_get {α : Type} {a : Array α} {j : Nat} {x : α} (h : a.toList[j]? = some x) : a[j]? = some x := by simpa using h
end
end Go.Proofs.Ytbbklijmnknmhaa
