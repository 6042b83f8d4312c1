/-
  What a map has at a key, and near it, by both.
-/
import Derived.Test.YtbbklijmnknmhaaYe
import Derived.Test.YtbbklijmnknmhaaUe
namespace Go.Proofs.Ytbbklijmnknmhaa
open Av Bk

/-- What is asked of a map and a key: an error, or what there is. -/
def gate5 {α : Type} (m : List pairT.El) (k : ByteArray) (z : α) (r : α × Int) : α × Int := if (mcL m).2 ≠ 0 then (z, (mcL m).2) else if 32 < (k.size : Int) then (z, 3) else r
theorem gate_m {α : Type} {m : List pairT.El} {k : ByteArray} {z : α} {r : α × Int} (h : (mcL m).2 ≠ 0) : gate5 m k z r = (z, (mcL m).2) := if_pos h
theorem gate_k {α : Type} {m : List pairT.El} {k : ByteArray} {z : α} {r : α × Int} (h : (mcL m).2 = 0) (hk : 32 < (k.size : Int)) : gate5 m k z r = (z, 3) := by
  unfold gate5
  rw [if_neg (by simpa using h), if_pos hk]
theorem gate_r {α : Type} {m : List pairT.El} {k : ByteArray} {z : α} {r : α × Int} (h : (mcL m).2 = 0) (hk : ¬ 32 < (k.size : Int)) : gate5 m k z r = r := by
  unfold gate5
  rw [if_neg (by simpa using h), if_neg hk]
abbrev zP5 : pairT.El := mkP ⟨#[]⟩ ⟨#[]⟩
def flR (m : List pairT.El) (k : ByteArray) : pairT.El × Int := gate5 m k zP5 (if (lkV m k).isSome = true then ((m[lbP k m]?).getD zP5, 0) else if lbP k m = 0 then (zP5, 4) else ((m[lbP k m - 1]?).getD zP5, 0))
def ceR (m : List pairT.El) (k : ByteArray) : pairT.El × Int := gate5 m k zP5 (if lbP k m < m.length then ((m[lbP k m]?).getD zP5, 0) else (zP5, 4))
def gtR (m : List pairT.El) (k : ByteArray) : ByteArray × Int := gate5 m k ⟨#[]⟩ ((lkV m k).getD ⟨#[]⟩, if (lkV m k).isSome = true then 0 else 4)
def spFl5 : DSpec
  | [.lst (.st [.str, .str]) m, .str k] => some (m.length ≤ 4611686018427387904, .tup [.agg [.str (flR m k).1.1, .str (flR m k).1.2.1], .int .i64 (flR m k).2])
  | _ => none
def spCe5 : DSpec
  | [.lst (.st [.str, .str]) m, .str k] => some (m.length ≤ 4611686018427387904, .tup [.agg [.str (ceR m k).1.1, .str (ceR m k).1.2.1], .int .i64 (ceR m k).2])
  | _ => none
def spGt5 : DSpec
  | [.lst (.st [.str, .str]) m, .str k] => some (m.length ≤ 4611686018427387904, .tup [.str (gtR m k).1, .int .i64 (gtR m k).2])
  | _ => none
theorem pr_eq {a b : pairT.El × Int} (h : b = a) : AV.tup [.agg [.str a.1.1, .str a.1.2.1], .int .i64 a.2] = AV.tup [.agg [.str b.1.1, .str b.1.2.1], .int .i64 b.2] := by rw [h]
theorem st_eq {a b : ByteArray × Int} (h : b = a) : AV.tup [.str a.1, .int .i64 a.2] = AV.tup [.str b.1, .int .i64 b.2] := by rw [h]
set_option maxRecDepth 100000 in
theorem fnOk_mLook : FnOk Try.prog 59 Try.f59 := ⟨by rfl, by kernel_rfl, by
  show okCode _ _ = true ∧ drawsOk _ = true
  exact ⟨by kernel_rfl, by kernel_rfl⟩⟩
noncomputable def cxyf : Cx := ⟨tb, [(59, Try.f59)], [(14, spMC), (91, spKey), (52, spFd)]⟩
theorem specsyf : SpecsOk Try.prog cxyf.specs := .cons modelCheck_ok (.cons keysCheck_ok (.cons mFind_ok .nil))
theorem fnsyf : FnsOk Try.prog cxyf.fns := .cons fnOk_mLook .nil
def spAsk7 : DSpec
  | [.lst (.st [.str, .str]) m, .str k] => some (m.length ≤ 4611686018427387904, .int .i64 (gate5 m k () ((), 0)).2)
  | _ => none
set_option maxRecDepth 100000 in
theorem fnOk_rAsk7 : FnOk Try.prog 60 Try.f60 := ⟨by rfl, by kernel_rfl, by
  show okCode _ _ = true ∧ drawsOk _ = true
  exact ⟨by kernel_rfl, by kernel_rfl⟩⟩
noncomputable def cxyf2 : Cx := ⟨tb, [], [(15, spMC)]⟩
theorem specsyf2 : SpecsOk Try.prog cxyf2.specs := .cons r05Check_ok .nil
set_option maxRecDepth 100000 in
set_option maxHeartbeats 4000000 in
theorem rAsk7_ok : SpecOk Try.prog 60 spAsk7 := by
  refine spec_body (C := cxyf2) mixed tbOk specsyf2 (callN_ok (C := cxyf2) mixed tbOk specsyf2 FnsOk.nil 0) fnOk_rAsk7 ?_
  intro ys p r h hp
  unfold spAsk7 at h
  split at h
  · rename_i m k
    cases h
    by_cases hm : (mcL m).2 = 0
    · by_cases hk : 32 < (k.size : Int)
      · rw [gate_k hm hk]
        conv => whnf
        repeat' first
          | ((first | refine auIk ?_ | refine auIi ?_ | refine auT ?_ | refine auF ?_ | with_reducible first | refine auKt ?_ | refine auKf ?_ | refine auNt ?_ | refine auNf ?_ | refine auEt ?_ | refine auEf ?_); conv => whnf)
          | ((with_reducible first | refine br_dec (fun h => ?_) (fun h => ?_) | refine br_ndec (fun h => ?_) (fun h => ?_) | refine br_ne (fun h => ?_) (fun h => ?_) | refine br_eq (fun h => ?_) (fun h => ?_)) <;> first | (exfalso; omega) | conv => whnf)
          | (refine br_intro (fun h => ?_) (fun h => ?_) <;> conv => whnf)
          | ((first | refine auNd ?_ | refine idx_nat (by omega) (fun x hx => ?_) | refine frz_auto ?_ | refine draw_plain ?_ | refine auIx (fun x hx => ?_)); conv => whnf)
          | ((first | refine bx_idx ?_ | refine bx_intro (fun b hb => ?_)); conv => whnf)
      · rw [gate_r hm hk]
        conv => whnf
        repeat' first
          | ((first | refine auIk ?_ | refine auIi ?_ | refine auT ?_ | refine auF ?_ | with_reducible first | refine auKt ?_ | refine auKf ?_ | refine auNt ?_ | refine auNf ?_ | refine auEt ?_ | refine auEf ?_); conv => whnf)
          | ((with_reducible first | refine br_dec (fun h => ?_) (fun h => ?_) | refine br_ndec (fun h => ?_) (fun h => ?_) | refine br_ne (fun h => ?_) (fun h => ?_) | refine br_eq (fun h => ?_) (fun h => ?_)) <;> first | (exfalso; omega) | conv => whnf)
          | (refine br_intro (fun h => ?_) (fun h => ?_) <;> conv => whnf)
          | ((first | refine auNd ?_ | refine idx_nat (by omega) (fun x hx => ?_) | refine frz_auto ?_ | refine draw_plain ?_ | refine auIx (fun x hx => ?_)); conv => whnf)
          | ((first | refine bx_idx ?_ | refine bx_intro (fun b hb => ?_)); conv => whnf)
        all_goals (try rw [hm])
    · rw [gate_m hm]
      conv => whnf
      repeat' first
        | ((first | refine auIk ?_ | refine auIi ?_ | refine auT ?_ | refine auF ?_ | with_reducible first | refine auKt ?_ | refine auKf ?_ | refine auNt ?_ | refine auNf ?_ | refine auEt ?_ | refine auEf ?_); conv => whnf)
        | ((with_reducible first | refine br_dec (fun h => ?_) (fun h => ?_) | refine br_ndec (fun h => ?_) (fun h => ?_) | refine br_ne (fun h => ?_) (fun h => ?_) | refine br_eq (fun h => ?_) (fun h => ?_)) <;> first | (exfalso; omega) | conv => whnf)
        | (refine br_intro (fun h => ?_) (fun h => ?_) <;> conv => whnf)
        | ((first | refine auNd ?_ | refine idx_nat (by omega) (fun x hx => ?_) | refine frz_auto ?_ | refine draw_plain ?_ | refine auIx (fun x hx => ?_)); conv => whnf)
        | ((first | refine bx_idx ?_ | refine bx_intro (fun b hb => ?_)); conv => whnf)
  · cases h
noncomputable def cxyf3 : Cx := ⟨tb, [], [(60, spAsk7), (61, spPl)]⟩
theorem specsyf3 : SpecsOk Try.prog cxyf3.specs := .cons rAsk7_ok (.cons rPlace_ok .nil)
set_option maxRecDepth 100000 in
theorem fnOk_mFloor : FnOk Try.prog 26 Try.f26 := ⟨by rfl, by kernel_rfl, by
  show okCode _ _ = true ∧ drawsOk _ = true
  exact ⟨by kernel_rfl, by kernel_rfl⟩⟩
set_option maxRecDepth 100000 in
set_option maxHeartbeats 4000000 in
theorem mFloor_ok : SpecOk Try.prog 26 spFl5 := by
  refine spec_body (C := cxyf) mixed tbOk specsyf (callN_ok (C := cxyf) mixed tbOk specsyf fnsyf 1) fnOk_mFloor ?_
  intro ys p r h hp
  unfold spFl5 at h
  split at h
  · rename_i m k
    cases h
    by_cases hm : (mcL m).2 = 0
    · by_cases hk : 32 < (k.size : Int)
      · have e : flR m k = _ := gate_k hm hk
        have hk2 : (bif decide (32 < (k.size : Int)) then (3 : Int) else 0) = 3 := by simp [hk]
        conv => whnf
        repeat' first
          | ((first | refine auIk ?_ | refine auIi ?_ | refine auT ?_ | refine auF ?_ | with_reducible first | refine auKt ?_ | refine auKf ?_ | refine auNt ?_ | refine auNf ?_ | refine auEt ?_ | refine auEf ?_); conv => whnf)
          | ((with_reducible first | refine br_dec (fun h => ?_) (fun h => ?_) | refine br_ndec (fun h => ?_) (fun h => ?_) | refine br_ne (fun h => ?_) (fun h => ?_) | refine br_eq (fun h => ?_) (fun h => ?_)) <;> first | (exfalso; omega) | conv => whnf)
          | (refine br_intro (fun h => ?_) (fun h => ?_) <;> conv => whnf)
          | ((first | refine auNd ?_ | refine idx_nat (by omega) (fun x hx => ?_) | refine frz_auto ?_ | refine draw_plain ?_ | refine auIx (fun x hx => ?_)); conv => whnf)
          | ((first | refine bx_idx ?_ | refine bx_intro (fun b hb => ?_)); conv => whnf)
        all_goals ((try rw [hk2]); (try rw [hg]); exact pr_eq e)
      · have e : flR m k = _ := gate_r hm hk
        have hk2 : (bif decide (32 < (k.size : Int)) then (3 : Int) else 0) = 0 := by simp [hk]
        have hml := mcL_zero hm
        have hlb := lkV_lb hml.2.2 k
        have hle := lbP_le k m
        have hm5 : m.length ≤ 100000 := by have := hml.1; omega
        have hneed : ascP m ∧ m.length ≤ 100000 := ⟨hml.2.2, hm5⟩
        skip
        by_cases hlt : lbP k m < m.length
        · obtain ⟨y, hy⟩ : ∃ y, m[lbP k m]? = some y := ⟨_, List.getElem?_eq_getElem hlt⟩
          rw [hy] at hlb
          cases hs : sEq y.1 k with
          | true =>
            have hks : lkV m k = some y.2.1 := by rw [hlb]; exact if_pos hs
            have hki : (lkV m k).isSome = true := by rw [hks]; rfl
            have hkb : (!(lkV m k).isSome) = false := by rw [hki]; rfl
            rw [hks] at e
            conv => whnf
            repeat' first
              | ((first | refine auIk ?_ | refine auIi ?_ | refine auT ?_ | refine auF ?_ | with_reducible first | refine auKt ?_ | refine auKf ?_ | refine auNt ?_ | refine auNf ?_ | refine auEt ?_ | refine auEf ?_); conv => whnf)
              | ((with_reducible first | refine br_dec (fun h => ?_) (fun h => ?_) | refine br_ndec (fun h => ?_) (fun h => ?_) | refine br_ne (fun h => ?_) (fun h => ?_) | refine br_eq (fun h => ?_) (fun h => ?_)) <;> first | (exfalso; omega) | conv => whnf)
              | (refine br_intro (fun h => ?_) (fun h => ?_) <;> conv => whnf)
              | ((first | refine auNd ?_ | refine idx_nat (by omega) (fun x hx => ?_) | refine frz_auto ?_ | refine draw_plain ?_ | refine auIx (fun x hx => ?_)); conv => whnf)
              | ((first | refine bx_idx ?_ | refine bx_intro (fun b hb => ?_)); conv => whnf)
            all_goals first
              | (refine pr_eq (a := (y, 0)) (e.trans ?_)
                 first
                   | (rw [if_pos hlt, hy]; rfl)
                   | (rw [hy]; rfl)
                 done)
              | (refine pr_eq (a := (zP5, 4)) (e.trans ?_); simp [*]; done)
              | (refine pr_eq (a := (zP5, 4)) (e.trans ?_); have hz : lbP k m = 0 := by omega
                 simp [hz]; done)
              | (rw [show ((lbP k m : Int) - 1).toNat = lbP k m - 1 by omega] at hx
                 refine pr_eq (a := (x, 0)) (e.trans ?_)
                 have hz : ¬ lbP k m = 0 := by omega
                 rw [if_neg (by simp), if_neg hz, hx]; rfl)
          | false =>
            have hks : lkV m k = none := by rw [hlb]; exact if_neg (by rw [hs]; decide)
            have hki : (lkV m k).isSome = false := by rw [hks]; rfl
            have hkb : (!(lkV m k).isSome) = true := by rw [hki]; rfl
            rw [hks] at e
            conv => whnf
            repeat' first
              | ((first | refine auIk ?_ | refine auIi ?_ | refine auT ?_ | refine auF ?_ | with_reducible first | refine auKt ?_ | refine auKf ?_ | refine auNt ?_ | refine auNf ?_ | refine auEt ?_ | refine auEf ?_); conv => whnf)
              | ((with_reducible first | refine br_dec (fun h => ?_) (fun h => ?_) | refine br_ndec (fun h => ?_) (fun h => ?_) | refine br_ne (fun h => ?_) (fun h => ?_) | refine br_eq (fun h => ?_) (fun h => ?_)) <;> first | (exfalso; omega) | conv => whnf)
              | (refine br_intro (fun h => ?_) (fun h => ?_) <;> conv => whnf)
              | ((first | refine auNd ?_ | refine idx_nat (by omega) (fun x hx => ?_) | refine frz_auto ?_ | refine draw_plain ?_ | refine auIx (fun x hx => ?_)); conv => whnf)
              | ((first | refine bx_idx ?_ | refine bx_intro (fun b hb => ?_)); conv => whnf)
            all_goals first
              | (refine pr_eq (a := (y, 0)) (e.trans ?_)
                 first
                   | (rw [if_pos hlt, hy]; rfl)
                   | (rw [hy]; rfl)
                 done)
              | (refine pr_eq (a := (zP5, 4)) (e.trans ?_); simp [*]; done)
              | (refine pr_eq (a := (zP5, 4)) (e.trans ?_); have hz : lbP k m = 0 := by omega
                 simp [hz]; done)
              | (rw [show ((lbP k m : Int) - 1).toNat = lbP k m - 1 by omega] at hx
                 refine pr_eq (a := (x, 0)) (e.trans ?_)
                 have hz : ¬ lbP k m = 0 := by omega
                 rw [if_neg (by simp), if_neg hz, hx]; rfl)
        · have hnone : m[lbP k m]? = none := List.getElem?_eq_none (by omega)
          rw [hnone] at hlb
          have hki : (lkV m k).isSome = false := by rw [hlb]; rfl
          have hkb : (!(lkV m k).isSome) = true := by rw [hki]; rfl
          rw [hlb] at e
          conv => whnf
          repeat' first
            | ((first | refine auIk ?_ | refine auIi ?_ | refine auT ?_ | refine auF ?_ | with_reducible first | refine auKt ?_ | refine auKf ?_ | refine auNt ?_ | refine auNf ?_ | refine auEt ?_ | refine auEf ?_); conv => whnf)
            | ((with_reducible first | refine br_dec (fun h => ?_) (fun h => ?_) | refine br_ndec (fun h => ?_) (fun h => ?_) | refine br_ne (fun h => ?_) (fun h => ?_) | refine br_eq (fun h => ?_) (fun h => ?_)) <;> first | (exfalso; omega) | conv => whnf)
            | (refine br_intro (fun h => ?_) (fun h => ?_) <;> conv => whnf)
            | ((first | refine auNd ?_ | refine idx_nat (by omega) (fun x hx => ?_) | refine frz_auto ?_ | refine draw_plain ?_ | refine auIx (fun x hx => ?_)); conv => whnf)
            | ((first | refine bx_idx ?_ | refine bx_intro (fun b hb => ?_)); conv => whnf)
          all_goals first
            | (refine pr_eq (a := (zP5, 4)) (e.trans ?_); simp [*]; done)
            | (refine pr_eq (a := (zP5, 4)) (e.trans ?_); have hz : lbP k m = 0 := by omega
               simp [hz]; done)
            | (rw [show ((lbP k m : Int) - 1).toNat = lbP k m - 1 by omega] at hx
               refine pr_eq (a := (x, 0)) (e.trans ?_)
               have hz : ¬ lbP k m = 0 := by omega
               rw [if_neg (by simp), if_neg hz, hx]; rfl)
    · have e : flR m k = _ := gate_m hm
      skip
      conv => whnf
      repeat' first
        | ((first | refine auIk ?_ | refine auIi ?_ | refine auT ?_ | refine auF ?_ | with_reducible first | refine auKt ?_ | refine auKf ?_ | refine auNt ?_ | refine auNf ?_ | refine auEt ?_ | refine auEf ?_); conv => whnf)
        | ((with_reducible first | refine br_dec (fun h => ?_) (fun h => ?_) | refine br_ndec (fun h => ?_) (fun h => ?_) | refine br_ne (fun h => ?_) (fun h => ?_) | refine br_eq (fun h => ?_) (fun h => ?_)) <;> first | (exfalso; omega) | conv => whnf)
        | (refine br_intro (fun h => ?_) (fun h => ?_) <;> conv => whnf)
        | ((first | refine auNd ?_ | refine idx_nat (by omega) (fun x hx => ?_) | refine frz_auto ?_ | refine draw_plain ?_ | refine auIx (fun x hx => ?_)); conv => whnf)
        | ((first | refine bx_idx ?_ | refine bx_intro (fun b hb => ?_)); conv => whnf)
      all_goals ((try rw [hg]); exact pr_eq e)
  · cases h
set_option maxRecDepth 100000 in
theorem fnOk_mCeil : FnOk Try.prog 28 Try.f28 := ⟨by rfl, by kernel_rfl, by
  show okCode _ _ = true ∧ drawsOk _ = true
  exact ⟨by kernel_rfl, by kernel_rfl⟩⟩
set_option maxRecDepth 100000 in
set_option maxHeartbeats 4000000 in
theorem mCeil_ok : SpecOk Try.prog 28 spCe5 := by
  refine spec_body (C := cxyf) mixed tbOk specsyf (callN_ok (C := cxyf) mixed tbOk specsyf fnsyf 1) fnOk_mCeil ?_
  intro ys p r h hp
  unfold spCe5 at h
  split at h
  · rename_i m k
    cases h
    by_cases hm : (mcL m).2 = 0
    · by_cases hk : 32 < (k.size : Int)
      · have e : ceR m k = _ := gate_k hm hk
        have hk2 : (bif decide (32 < (k.size : Int)) then (3 : Int) else 0) = 3 := by simp [hk]
        conv => whnf
        repeat' first
          | ((first | refine auIk ?_ | refine auIi ?_ | refine auT ?_ | refine auF ?_ | with_reducible first | refine auKt ?_ | refine auKf ?_ | refine auNt ?_ | refine auNf ?_ | refine auEt ?_ | refine auEf ?_); conv => whnf)
          | ((with_reducible first | refine br_dec (fun h => ?_) (fun h => ?_) | refine br_ndec (fun h => ?_) (fun h => ?_) | refine br_ne (fun h => ?_) (fun h => ?_) | refine br_eq (fun h => ?_) (fun h => ?_)) <;> first | (exfalso; omega) | conv => whnf)
          | (refine br_intro (fun h => ?_) (fun h => ?_) <;> conv => whnf)
          | ((first | refine auNd ?_ | refine idx_nat (by omega) (fun x hx => ?_) | refine frz_auto ?_ | refine draw_plain ?_ | refine auIx (fun x hx => ?_)); conv => whnf)
          | ((first | refine bx_idx ?_ | refine bx_intro (fun b hb => ?_)); conv => whnf)
        all_goals ((try rw [hk2]); (try rw [hg]); exact pr_eq e)
      · have e : ceR m k = _ := gate_r hm hk
        have hk2 : (bif decide (32 < (k.size : Int)) then (3 : Int) else 0) = 0 := by simp [hk]
        have hml := mcL_zero hm
        have hlb := lkV_lb hml.2.2 k
        have hle := lbP_le k m
        have hm5 : m.length ≤ 100000 := by have := hml.1; omega
        have hneed : ascP m ∧ m.length ≤ 100000 := ⟨hml.2.2, hm5⟩
        skip
        by_cases hlt : lbP k m < m.length
        · obtain ⟨y, hy⟩ : ∃ y, m[lbP k m]? = some y := ⟨_, List.getElem?_eq_getElem hlt⟩
          rw [hy] at hlb
          cases hs : sEq y.1 k with
          | true =>
            have hks : lkV m k = some y.2.1 := by rw [hlb]; exact if_pos hs
            have hki : (lkV m k).isSome = true := by rw [hks]; rfl
            have hkb : (!(lkV m k).isSome) = false := by rw [hki]; rfl
            skip
            conv => whnf
            repeat' first
              | ((first | refine auIk ?_ | refine auIi ?_ | refine auT ?_ | refine auF ?_ | with_reducible first | refine auKt ?_ | refine auKf ?_ | refine auNt ?_ | refine auNf ?_ | refine auEt ?_ | refine auEf ?_); conv => whnf)
              | ((with_reducible first | refine br_dec (fun h => ?_) (fun h => ?_) | refine br_ndec (fun h => ?_) (fun h => ?_) | refine br_ne (fun h => ?_) (fun h => ?_) | refine br_eq (fun h => ?_) (fun h => ?_)) <;> first | (exfalso; omega) | conv => whnf)
              | (refine br_intro (fun h => ?_) (fun h => ?_) <;> conv => whnf)
              | ((first | refine auNd ?_ | refine idx_nat (by omega) (fun x hx => ?_) | refine frz_auto ?_ | refine draw_plain ?_ | refine auIx (fun x hx => ?_)); conv => whnf)
              | ((first | refine bx_idx ?_ | refine bx_intro (fun b hb => ?_)); conv => whnf)
            all_goals first
              | (refine pr_eq (a := (y, 0)) (e.trans ?_)
                 first
                   | (rw [if_pos hlt, hy]; rfl)
                   | (rw [hy]; rfl)
                 done)
              | (refine pr_eq (a := (zP5, 4)) (e.trans ?_); simp [*]; done)
              | (refine pr_eq (a := (zP5, 4)) (e.trans ?_); have hz : lbP k m = 0 := by omega
                 simp [hz]; done)
              | (rw [show ((lbP k m : Int) - 1).toNat = lbP k m - 1 by omega] at hx
                 refine pr_eq (a := (x, 0)) (e.trans ?_)
                 have hz : ¬ lbP k m = 0 := by omega
                 rw [if_neg (by simp), if_neg hz, hx]; rfl)
          | false =>
            have hks : lkV m k = none := by rw [hlb]; exact if_neg (by rw [hs]; decide)
            have hki : (lkV m k).isSome = false := by rw [hks]; rfl
            have hkb : (!(lkV m k).isSome) = true := by rw [hki]; rfl
            skip
            conv => whnf
            repeat' first
              | ((first | refine auIk ?_ | refine auIi ?_ | refine auT ?_ | refine auF ?_ | with_reducible first | refine auKt ?_ | refine auKf ?_ | refine auNt ?_ | refine auNf ?_ | refine auEt ?_ | refine auEf ?_); conv => whnf)
              | ((with_reducible first | refine br_dec (fun h => ?_) (fun h => ?_) | refine br_ndec (fun h => ?_) (fun h => ?_) | refine br_ne (fun h => ?_) (fun h => ?_) | refine br_eq (fun h => ?_) (fun h => ?_)) <;> first | (exfalso; omega) | conv => whnf)
              | (refine br_intro (fun h => ?_) (fun h => ?_) <;> conv => whnf)
              | ((first | refine auNd ?_ | refine idx_nat (by omega) (fun x hx => ?_) | refine frz_auto ?_ | refine draw_plain ?_ | refine auIx (fun x hx => ?_)); conv => whnf)
              | ((first | refine bx_idx ?_ | refine bx_intro (fun b hb => ?_)); conv => whnf)
            all_goals first
              | (refine pr_eq (a := (y, 0)) (e.trans ?_)
                 first
                   | (rw [if_pos hlt, hy]; rfl)
                   | (rw [hy]; rfl)
                 done)
              | (refine pr_eq (a := (zP5, 4)) (e.trans ?_); simp [*]; done)
              | (refine pr_eq (a := (zP5, 4)) (e.trans ?_); have hz : lbP k m = 0 := by omega
                 simp [hz]; done)
              | (rw [show ((lbP k m : Int) - 1).toNat = lbP k m - 1 by omega] at hx
                 refine pr_eq (a := (x, 0)) (e.trans ?_)
                 have hz : ¬ lbP k m = 0 := by omega
                 rw [if_neg (by simp), if_neg hz, hx]; rfl)
        · have hnone : m[lbP k m]? = none := List.getElem?_eq_none (by omega)
          rw [hnone] at hlb
          have hki : (lkV m k).isSome = false := by rw [hlb]; rfl
          have hkb : (!(lkV m k).isSome) = true := by rw [hki]; rfl
          skip
          conv => whnf
          repeat' first
            | ((first | refine auIk ?_ | refine auIi ?_ | refine auT ?_ | refine auF ?_ | with_reducible first | refine auKt ?_ | refine auKf ?_ | refine auNt ?_ | refine auNf ?_ | refine auEt ?_ | refine auEf ?_); conv => whnf)
            | ((with_reducible first | refine br_dec (fun h => ?_) (fun h => ?_) | refine br_ndec (fun h => ?_) (fun h => ?_) | refine br_ne (fun h => ?_) (fun h => ?_) | refine br_eq (fun h => ?_) (fun h => ?_)) <;> first | (exfalso; omega) | conv => whnf)
            | (refine br_intro (fun h => ?_) (fun h => ?_) <;> conv => whnf)
            | ((first | refine auNd ?_ | refine idx_nat (by omega) (fun x hx => ?_) | refine frz_auto ?_ | refine draw_plain ?_ | refine auIx (fun x hx => ?_)); conv => whnf)
            | ((first | refine bx_idx ?_ | refine bx_intro (fun b hb => ?_)); conv => whnf)
          all_goals first
            | (refine pr_eq (a := (zP5, 4)) (e.trans ?_); simp [*]; done)
            | (refine pr_eq (a := (zP5, 4)) (e.trans ?_); have hz : lbP k m = 0 := by omega
               simp [hz]; done)
            | (rw [show ((lbP k m : Int) - 1).toNat = lbP k m - 1 by omega] at hx
               refine pr_eq (a := (x, 0)) (e.trans ?_)
               have hz : ¬ lbP k m = 0 := by omega
               rw [if_neg (by simp), if_neg hz, hx]; rfl)
    · have e : ceR m k = _ := gate_m hm
      skip
      conv => whnf
      repeat' first
        | ((first | refine auIk ?_ | refine auIi ?_ | refine auT ?_ | refine auF ?_ | with_reducible first | refine auKt ?_ | refine auKf ?_ | refine auNt ?_ | refine auNf ?_ | refine auEt ?_ | refine auEf ?_); conv => whnf)
        | ((with_reducible first | refine br_dec (fun h => ?_) (fun h => ?_) | refine br_ndec (fun h => ?_) (fun h => ?_) | refine br_ne (fun h => ?_) (fun h => ?_) | refine br_eq (fun h => ?_) (fun h => ?_)) <;> first | (exfalso; omega) | conv => whnf)
        | (refine br_intro (fun h => ?_) (fun h => ?_) <;> conv => whnf)
        | ((first | refine auNd ?_ | refine idx_nat (by omega) (fun x hx => ?_) | refine frz_auto ?_ | refine draw_plain ?_ | refine auIx (fun x hx => ?_)); conv => whnf)
        | ((first | refine bx_idx ?_ | refine bx_intro (fun b hb => ?_)); conv => whnf)
      all_goals ((try rw [hg]); exact pr_eq e)
  · cases h
set_option maxRecDepth 100000 in
theorem fnOk_mGet : FnOk Try.prog 24 Try.f24 := ⟨by rfl, by kernel_rfl, by
  show okCode _ _ = true ∧ drawsOk _ = true
  exact ⟨by kernel_rfl, by kernel_rfl⟩⟩
set_option maxRecDepth 100000 in
set_option maxHeartbeats 4000000 in
theorem mGet_ok : SpecOk Try.prog 24 spGt5 := by
  refine spec_body (C := cxyf) mixed tbOk specsyf (callN_ok (C := cxyf) mixed tbOk specsyf fnsyf 1) fnOk_mGet ?_
  intro ys p r h hp
  unfold spGt5 at h
  split at h
  · rename_i m k
    cases h
    by_cases hm : (mcL m).2 = 0
    · by_cases hk : 32 < (k.size : Int)
      · have e : gtR m k = _ := gate_k hm hk
        have hk2 : (bif decide (32 < (k.size : Int)) then (3 : Int) else 0) = 3 := by simp [hk]
        conv => whnf
        repeat' first
          | ((first | refine auIk ?_ | refine auIi ?_ | refine auT ?_ | refine auF ?_ | with_reducible first | refine auKt ?_ | refine auKf ?_ | refine auNt ?_ | refine auNf ?_ | refine auEt ?_ | refine auEf ?_); conv => whnf)
          | ((with_reducible first | refine br_dec (fun h => ?_) (fun h => ?_) | refine br_ndec (fun h => ?_) (fun h => ?_) | refine br_ne (fun h => ?_) (fun h => ?_) | refine br_eq (fun h => ?_) (fun h => ?_)) <;> first | (exfalso; omega) | conv => whnf)
          | (refine br_intro (fun h => ?_) (fun h => ?_) <;> conv => whnf)
          | ((first | refine auNd ?_ | refine idx_nat (by omega) (fun x hx => ?_) | refine frz_auto ?_ | refine draw_plain ?_ | refine auIx (fun x hx => ?_)); conv => whnf)
          | ((first | refine bx_idx ?_ | refine bx_intro (fun b hb => ?_)); conv => whnf)
        all_goals ((try rw [hk2]); (try rw [hg]); exact st_eq e)
      · have e : gtR m k = _ := gate_r hm hk
        have hk2 : (bif decide (32 < (k.size : Int)) then (3 : Int) else 0) = 0 := by simp [hk]
        have hml := mcL_zero hm
        have hlb := lkV_lb hml.2.2 k
        have hle := lbP_le k m
        have hm5 : m.length ≤ 100000 := by have := hml.1; omega
        have hneed : ascP m ∧ m.length ≤ 100000 := ⟨hml.2.2, hm5⟩
        skip
        by_cases hlt : lbP k m < m.length
        · obtain ⟨y, hy⟩ : ∃ y, m[lbP k m]? = some y := ⟨_, List.getElem?_eq_getElem hlt⟩
          rw [hy] at hlb
          cases hs : sEq y.1 k with
          | true =>
            have hks : lkV m k = some y.2.1 := by rw [hlb]; exact if_pos hs
            have hki : (lkV m k).isSome = true := by rw [hks]; rfl
            have hkb : (!(lkV m k).isSome) = false := by rw [hki]; rfl
            rw [hks] at e
            conv => whnf
            repeat' first
              | ((first | refine auIk ?_ | refine auIi ?_ | refine auT ?_ | refine auF ?_ | with_reducible first | refine auKt ?_ | refine auKf ?_ | refine auNt ?_ | refine auNf ?_ | refine auEt ?_ | refine auEf ?_); conv => whnf)
              | ((with_reducible first | refine br_dec (fun h => ?_) (fun h => ?_) | refine br_ndec (fun h => ?_) (fun h => ?_) | refine br_ne (fun h => ?_) (fun h => ?_) | refine br_eq (fun h => ?_) (fun h => ?_)) <;> first | (exfalso; omega) | conv => whnf)
              | (refine br_intro (fun h => ?_) (fun h => ?_) <;> conv => whnf)
              | ((first | refine auNd ?_ | refine idx_nat (by omega) (fun x hx => ?_) | refine frz_auto ?_ | refine draw_plain ?_ | refine auIx (fun x hx => ?_)); conv => whnf)
              | ((first | refine bx_idx ?_ | refine bx_intro (fun b hb => ?_)); conv => whnf)
            all_goals first
              | (refine st_eq (a := (y.2.1, 0)) (e.trans ?_); simp; done)
              | (refine st_eq (a := (⟨#[]⟩, 4)) (e.trans ?_); simp; done)
          | false =>
            have hks : lkV m k = none := by rw [hlb]; exact if_neg (by rw [hs]; decide)
            have hki : (lkV m k).isSome = false := by rw [hks]; rfl
            have hkb : (!(lkV m k).isSome) = true := by rw [hki]; rfl
            rw [hks] at e
            conv => whnf
            repeat' first
              | ((first | refine auIk ?_ | refine auIi ?_ | refine auT ?_ | refine auF ?_ | with_reducible first | refine auKt ?_ | refine auKf ?_ | refine auNt ?_ | refine auNf ?_ | refine auEt ?_ | refine auEf ?_); conv => whnf)
              | ((with_reducible first | refine br_dec (fun h => ?_) (fun h => ?_) | refine br_ndec (fun h => ?_) (fun h => ?_) | refine br_ne (fun h => ?_) (fun h => ?_) | refine br_eq (fun h => ?_) (fun h => ?_)) <;> first | (exfalso; omega) | conv => whnf)
              | (refine br_intro (fun h => ?_) (fun h => ?_) <;> conv => whnf)
              | ((first | refine auNd ?_ | refine idx_nat (by omega) (fun x hx => ?_) | refine frz_auto ?_ | refine draw_plain ?_ | refine auIx (fun x hx => ?_)); conv => whnf)
              | ((first | refine bx_idx ?_ | refine bx_intro (fun b hb => ?_)); conv => whnf)
            all_goals first
              | (refine st_eq (a := (y.2.1, 0)) (e.trans ?_); simp; done)
              | (refine st_eq (a := (⟨#[]⟩, 4)) (e.trans ?_); simp; done)
        · have hnone : m[lbP k m]? = none := List.getElem?_eq_none (by omega)
          rw [hnone] at hlb
          have hki : (lkV m k).isSome = false := by rw [hlb]; rfl
          have hkb : (!(lkV m k).isSome) = true := by rw [hki]; rfl
          rw [hlb] at e
          conv => whnf
          repeat' first
            | ((first | refine auIk ?_ | refine auIi ?_ | refine auT ?_ | refine auF ?_ | with_reducible first | refine auKt ?_ | refine auKf ?_ | refine auNt ?_ | refine auNf ?_ | refine auEt ?_ | refine auEf ?_); conv => whnf)
            | ((with_reducible first | refine br_dec (fun h => ?_) (fun h => ?_) | refine br_ndec (fun h => ?_) (fun h => ?_) | refine br_ne (fun h => ?_) (fun h => ?_) | refine br_eq (fun h => ?_) (fun h => ?_)) <;> first | (exfalso; omega) | conv => whnf)
            | (refine br_intro (fun h => ?_) (fun h => ?_) <;> conv => whnf)
            | ((first | refine auNd ?_ | refine idx_nat (by omega) (fun x hx => ?_) | refine frz_auto ?_ | refine draw_plain ?_ | refine auIx (fun x hx => ?_)); conv => whnf)
            | ((first | refine bx_idx ?_ | refine bx_intro (fun b hb => ?_)); conv => whnf)
          all_goals first
            | (refine st_eq (a := (⟨#[]⟩, 4)) (e.trans ?_); simp; done)
    · have e : gtR m k = _ := gate_m hm
      skip
      conv => whnf
      repeat' first
        | ((first | refine auIk ?_ | refine auIi ?_ | refine auT ?_ | refine auF ?_ | with_reducible first | refine auKt ?_ | refine auKf ?_ | refine auNt ?_ | refine auNf ?_ | refine auEt ?_ | refine auEf ?_); conv => whnf)
        | ((with_reducible first | refine br_dec (fun h => ?_) (fun h => ?_) | refine br_ndec (fun h => ?_) (fun h => ?_) | refine br_ne (fun h => ?_) (fun h => ?_) | refine br_eq (fun h => ?_) (fun h => ?_)) <;> first | (exfalso; omega) | conv => whnf)
        | (refine br_intro (fun h => ?_) (fun h => ?_) <;> conv => whnf)
        | ((first | refine auNd ?_ | refine idx_nat (by omega) (fun x hx => ?_) | refine frz_auto ?_ | refine draw_plain ?_ | refine auIx (fun x hx => ?_)); conv => whnf)
        | ((first | refine bx_idx ?_ | refine bx_intro (fun b hb => ?_)); conv => whnf)
      all_goals ((try rw [hg]); exact st_eq e)
  · cases h
set_option maxRecDepth 100000 in
theorem fnOk_rFloor7 : FnOk Try.prog 27 Try.f27 := ⟨by rfl, by kernel_rfl, by
  show okCode _ _ = true ∧ drawsOk _ = true
  exact ⟨by kernel_rfl, by kernel_rfl⟩⟩
set_option maxRecDepth 100000 in
set_option maxHeartbeats 4000000 in
theorem rFloor7_ok : SpecOk Try.prog 27 spFl5 := by
  refine spec_body (C := cxyf3) mixed tbOk specsyf3 (callN_ok (C := cxyf3) mixed tbOk specsyf3 FnsOk.nil 1) fnOk_rFloor7 ?_
  intro ys p r h hp
  unfold spFl5 at h
  split at h
  · rename_i m k
    cases h
    by_cases hm : (mcL m).2 = 0
    · by_cases hk : 32 < (k.size : Int)
      · have e : flR m k = _ := gate_k hm hk
        have hg : (gate5 m k () ((), 0)).2 = 3 := by rw [gate_k hm hk]
        conv => whnf
        repeat' first
          | ((first | refine auIk ?_ | refine auIi ?_ | refine auT ?_ | refine auF ?_ | with_reducible first | refine auKt ?_ | refine auKf ?_ | refine auNt ?_ | refine auNf ?_ | refine auEt ?_ | refine auEf ?_); conv => whnf)
          | ((with_reducible first | refine br_dec (fun h => ?_) (fun h => ?_) | refine br_ndec (fun h => ?_) (fun h => ?_) | refine br_ne (fun h => ?_) (fun h => ?_) | refine br_eq (fun h => ?_) (fun h => ?_)) <;> first | (exfalso; omega) | conv => whnf)
          | (refine br_intro (fun h => ?_) (fun h => ?_) <;> conv => whnf)
          | ((first | refine auNd ?_ | refine idx_nat (by omega) (fun x hx => ?_) | refine frz_auto ?_ | refine draw_plain ?_ | refine auIx (fun x hx => ?_)); conv => whnf)
          | ((first | refine bx_idx ?_ | refine bx_intro (fun b hb => ?_)); conv => whnf)
        all_goals ((try rw [hk2]); (try rw [hg]); exact pr_eq e)
      · have e : flR m k = _ := gate_r hm hk
        have hk2 : (bif decide (32 < (k.size : Int)) then (3 : Int) else 0) = 0 := by simp [hk]
        have hml := mcL_zero hm
        have hlb := lkV_lb hml.2.2 k
        have hle := lbP_le k m
        have hm5 : m.length ≤ 100000 := by have := hml.1; omega
        have hneed : ascP m ∧ m.length ≤ 100000 := ⟨hml.2.2, hm5⟩
        have hg : (gate5 m k () ((), 0)).2 = 0 := by rw [gate_r hm hk]
        by_cases hlt : lbP k m < m.length
        · obtain ⟨y, hy⟩ : ∃ y, m[lbP k m]? = some y := ⟨_, List.getElem?_eq_getElem hlt⟩
          rw [hy] at hlb
          cases hs : sEq y.1 k with
          | true =>
            have hks : lkV m k = some y.2.1 := by rw [hlb]; exact if_pos hs
            have hki : (lkV m k).isSome = true := by rw [hks]; rfl
            have hkb : (!(lkV m k).isSome) = false := by rw [hki]; rfl
            rw [hks] at e
            conv => whnf
            repeat' first
              | ((first | refine auIk ?_ | refine auIi ?_ | refine auT ?_ | refine auF ?_ | with_reducible first | refine auKt ?_ | refine auKf ?_ | refine auNt ?_ | refine auNf ?_ | refine auEt ?_ | refine auEf ?_); conv => whnf)
              | ((with_reducible first | refine br_dec (fun h => ?_) (fun h => ?_) | refine br_ndec (fun h => ?_) (fun h => ?_) | refine br_ne (fun h => ?_) (fun h => ?_) | refine br_eq (fun h => ?_) (fun h => ?_)) <;> first | (exfalso; omega) | conv => whnf)
              | (refine br_intro (fun h => ?_) (fun h => ?_) <;> conv => whnf)
              | ((first | refine auNd ?_ | refine idx_nat (by omega) (fun x hx => ?_) | refine frz_auto ?_ | refine draw_plain ?_ | refine auIx (fun x hx => ?_)); conv => whnf)
              | ((first | refine bx_idx ?_ | refine bx_intro (fun b hb => ?_)); conv => whnf)
            all_goals first
              | (refine pr_eq (a := (y, 0)) (e.trans ?_)
                 first
                   | (rw [if_pos hlt, hy]; rfl)
                   | (rw [hy]; rfl)
                 done)
              | (refine pr_eq (a := (zP5, 4)) (e.trans ?_); simp [*]; done)
              | (refine pr_eq (a := (zP5, 4)) (e.trans ?_); have hz : lbP k m = 0 := by omega
                 simp [hz]; done)
              | (rw [show ((lbP k m : Int) - 1).toNat = lbP k m - 1 by omega] at hx
                 refine pr_eq (a := (x, 0)) (e.trans ?_)
                 have hz : ¬ lbP k m = 0 := by omega
                 rw [if_neg (by simp), if_neg hz, hx]; rfl)
          | false =>
            have hks : lkV m k = none := by rw [hlb]; exact if_neg (by rw [hs]; decide)
            have hki : (lkV m k).isSome = false := by rw [hks]; rfl
            have hkb : (!(lkV m k).isSome) = true := by rw [hki]; rfl
            rw [hks] at e
            conv => whnf
            repeat' first
              | ((first | refine auIk ?_ | refine auIi ?_ | refine auT ?_ | refine auF ?_ | with_reducible first | refine auKt ?_ | refine auKf ?_ | refine auNt ?_ | refine auNf ?_ | refine auEt ?_ | refine auEf ?_); conv => whnf)
              | ((with_reducible first | refine br_dec (fun h => ?_) (fun h => ?_) | refine br_ndec (fun h => ?_) (fun h => ?_) | refine br_ne (fun h => ?_) (fun h => ?_) | refine br_eq (fun h => ?_) (fun h => ?_)) <;> first | (exfalso; omega) | conv => whnf)
              | (refine br_intro (fun h => ?_) (fun h => ?_) <;> conv => whnf)
              | ((first | refine auNd ?_ | refine idx_nat (by omega) (fun x hx => ?_) | refine frz_auto ?_ | refine draw_plain ?_ | refine auIx (fun x hx => ?_)); conv => whnf)
              | ((first | refine bx_idx ?_ | refine bx_intro (fun b hb => ?_)); conv => whnf)
            all_goals first
              | (refine pr_eq (a := (y, 0)) (e.trans ?_)
                 first
                   | (rw [if_pos hlt, hy]; rfl)
                   | (rw [hy]; rfl)
                 done)
              | (refine pr_eq (a := (zP5, 4)) (e.trans ?_); simp [*]; done)
              | (refine pr_eq (a := (zP5, 4)) (e.trans ?_); have hz : lbP k m = 0 := by omega
                 simp [hz]; done)
              | (rw [show ((lbP k m : Int) - 1).toNat = lbP k m - 1 by omega] at hx
                 refine pr_eq (a := (x, 0)) (e.trans ?_)
                 have hz : ¬ lbP k m = 0 := by omega
                 rw [if_neg (by simp), if_neg hz, hx]; rfl)
        · have hnone : m[lbP k m]? = none := List.getElem?_eq_none (by omega)
          rw [hnone] at hlb
          have hki : (lkV m k).isSome = false := by rw [hlb]; rfl
          have hkb : (!(lkV m k).isSome) = true := by rw [hki]; rfl
          rw [hlb] at e
          conv => whnf
          repeat' first
            | ((first | refine auIk ?_ | refine auIi ?_ | refine auT ?_ | refine auF ?_ | with_reducible first | refine auKt ?_ | refine auKf ?_ | refine auNt ?_ | refine auNf ?_ | refine auEt ?_ | refine auEf ?_); conv => whnf)
            | ((with_reducible first | refine br_dec (fun h => ?_) (fun h => ?_) | refine br_ndec (fun h => ?_) (fun h => ?_) | refine br_ne (fun h => ?_) (fun h => ?_) | refine br_eq (fun h => ?_) (fun h => ?_)) <;> first | (exfalso; omega) | conv => whnf)
            | (refine br_intro (fun h => ?_) (fun h => ?_) <;> conv => whnf)
            | ((first | refine auNd ?_ | refine idx_nat (by omega) (fun x hx => ?_) | refine frz_auto ?_ | refine draw_plain ?_ | refine auIx (fun x hx => ?_)); conv => whnf)
            | ((first | refine bx_idx ?_ | refine bx_intro (fun b hb => ?_)); conv => whnf)
          all_goals first
            | (refine pr_eq (a := (zP5, 4)) (e.trans ?_); simp [*]; done)
            | (refine pr_eq (a := (zP5, 4)) (e.trans ?_); have hz : lbP k m = 0 := by omega
               simp [hz]; done)
            | (rw [show ((lbP k m : Int) - 1).toNat = lbP k m - 1 by omega] at hx
               refine pr_eq (a := (x, 0)) (e.trans ?_)
               have hz : ¬ lbP k m = 0 := by omega
               rw [if_neg (by simp), if_neg hz, hx]; rfl)
    · have e : flR m k = _ := gate_m hm
      have hg : (gate5 m k () ((), 0)).2 = (mcL m).2 := by rw [gate_m hm]
      have hg2 : (gate5 m k () ((), 0)).2 ≠ 0 := by rw [hg]; exact hm
      conv => whnf
      repeat' first
        | ((first | refine auIk ?_ | refine auIi ?_ | refine auT ?_ | refine auF ?_ | with_reducible first | refine auKt ?_ | refine auKf ?_ | refine auNt ?_ | refine auNf ?_ | refine auEt ?_ | refine auEf ?_); conv => whnf)
        | ((with_reducible first | refine br_dec (fun h => ?_) (fun h => ?_) | refine br_ndec (fun h => ?_) (fun h => ?_) | refine br_ne (fun h => ?_) (fun h => ?_) | refine br_eq (fun h => ?_) (fun h => ?_)) <;> first | (exfalso; omega) | conv => whnf)
        | (refine br_intro (fun h => ?_) (fun h => ?_) <;> conv => whnf)
        | ((first | refine auNd ?_ | refine idx_nat (by omega) (fun x hx => ?_) | refine frz_auto ?_ | refine draw_plain ?_ | refine auIx (fun x hx => ?_)); conv => whnf)
        | ((first | refine bx_idx ?_ | refine bx_intro (fun b hb => ?_)); conv => whnf)
      all_goals ((try rw [hg]); exact pr_eq e)
  · cases h
set_option maxRecDepth 100000 in
theorem fnOk_rCeil7 : FnOk Try.prog 29 Try.f29 := ⟨by rfl, by kernel_rfl, by
  show okCode _ _ = true ∧ drawsOk _ = true
  exact ⟨by kernel_rfl, by kernel_rfl⟩⟩
set_option maxRecDepth 100000 in
set_option maxHeartbeats 4000000 in
theorem rCeil7_ok : SpecOk Try.prog 29 spCe5 := by
  refine spec_body (C := cxyf3) mixed tbOk specsyf3 (callN_ok (C := cxyf3) mixed tbOk specsyf3 FnsOk.nil 1) fnOk_rCeil7 ?_
  intro ys p r h hp
  unfold spCe5 at h
  split at h
  · rename_i m k
    cases h
    by_cases hm : (mcL m).2 = 0
    · by_cases hk : 32 < (k.size : Int)
      · have e : ceR m k = _ := gate_k hm hk
        have hg : (gate5 m k () ((), 0)).2 = 3 := by rw [gate_k hm hk]
        conv => whnf
        repeat' first
          | ((first | refine auIk ?_ | refine auIi ?_ | refine auT ?_ | refine auF ?_ | with_reducible first | refine auKt ?_ | refine auKf ?_ | refine auNt ?_ | refine auNf ?_ | refine auEt ?_ | refine auEf ?_); conv => whnf)
          | ((with_reducible first | refine br_dec (fun h => ?_) (fun h => ?_) | refine br_ndec (fun h => ?_) (fun h => ?_) | refine br_ne (fun h => ?_) (fun h => ?_) | refine br_eq (fun h => ?_) (fun h => ?_)) <;> first | (exfalso; omega) | conv => whnf)
          | (refine br_intro (fun h => ?_) (fun h => ?_) <;> conv => whnf)
          | ((first | refine auNd ?_ | refine idx_nat (by omega) (fun x hx => ?_) | refine frz_auto ?_ | refine draw_plain ?_ | refine auIx (fun x hx => ?_)); conv => whnf)
          | ((first | refine bx_idx ?_ | refine bx_intro (fun b hb => ?_)); conv => whnf)
        all_goals ((try rw [hk2]); (try rw [hg]); exact pr_eq e)
      · have e : ceR m k = _ := gate_r hm hk
        have hk2 : (bif decide (32 < (k.size : Int)) then (3 : Int) else 0) = 0 := by simp [hk]
        have hml := mcL_zero hm
        have hlb := lkV_lb hml.2.2 k
        have hle := lbP_le k m
        have hm5 : m.length ≤ 100000 := by have := hml.1; omega
        have hneed : ascP m ∧ m.length ≤ 100000 := ⟨hml.2.2, hm5⟩
        have hg : (gate5 m k () ((), 0)).2 = 0 := by rw [gate_r hm hk]
        by_cases hlt : lbP k m < m.length
        · obtain ⟨y, hy⟩ : ∃ y, m[lbP k m]? = some y := ⟨_, List.getElem?_eq_getElem hlt⟩
          rw [hy] at hlb
          cases hs : sEq y.1 k with
          | true =>
            have hks : lkV m k = some y.2.1 := by rw [hlb]; exact if_pos hs
            have hki : (lkV m k).isSome = true := by rw [hks]; rfl
            have hkb : (!(lkV m k).isSome) = false := by rw [hki]; rfl
            skip
            conv => whnf
            repeat' first
              | ((first | refine auIk ?_ | refine auIi ?_ | refine auT ?_ | refine auF ?_ | with_reducible first | refine auKt ?_ | refine auKf ?_ | refine auNt ?_ | refine auNf ?_ | refine auEt ?_ | refine auEf ?_); conv => whnf)
              | ((with_reducible first | refine br_dec (fun h => ?_) (fun h => ?_) | refine br_ndec (fun h => ?_) (fun h => ?_) | refine br_ne (fun h => ?_) (fun h => ?_) | refine br_eq (fun h => ?_) (fun h => ?_)) <;> first | (exfalso; omega) | conv => whnf)
              | (refine br_intro (fun h => ?_) (fun h => ?_) <;> conv => whnf)
              | ((first | refine auNd ?_ | refine idx_nat (by omega) (fun x hx => ?_) | refine frz_auto ?_ | refine draw_plain ?_ | refine auIx (fun x hx => ?_)); conv => whnf)
              | ((first | refine bx_idx ?_ | refine bx_intro (fun b hb => ?_)); conv => whnf)
            all_goals first
              | (refine pr_eq (a := (y, 0)) (e.trans ?_)
                 first
                   | (rw [if_pos hlt, hy]; rfl)
                   | (rw [hy]; rfl)
                 done)
              | (refine pr_eq (a := (zP5, 4)) (e.trans ?_); simp [*]; done)
              | (refine pr_eq (a := (zP5, 4)) (e.trans ?_); have hz : lbP k m = 0 := by omega
                 simp [hz]; done)
              | (rw [show ((lbP k m : Int) - 1).toNat = lbP k m - 1 by omega] at hx
                 refine pr_eq (a := (x, 0)) (e.trans ?_)
                 have hz : ¬ lbP k m = 0 := by omega
                 rw [if_neg (by simp), if_neg hz, hx]; rfl)
          | false =>
            have hks : lkV m k = none := by rw [hlb]; exact if_neg (by rw [hs]; decide)
            have hki : (lkV m k).isSome = false := by rw [hks]; rfl
            have hkb : (!(lkV m k).isSome) = true := by rw [hki]; rfl
            skip
            conv => whnf
            repeat' first
              | ((first | refine auIk ?_ | refine auIi ?_ | refine auT ?_ | refine auF ?_ | with_reducible first | refine auKt ?_ | refine auKf ?_ | refine auNt ?_ | refine auNf ?_ | refine auEt ?_ | refine auEf ?_); conv => whnf)
              | ((with_reducible first | refine br_dec (fun h => ?_) (fun h => ?_) | refine br_ndec (fun h => ?_) (fun h => ?_) | refine br_ne (fun h => ?_) (fun h => ?_) | refine br_eq (fun h => ?_) (fun h => ?_)) <;> first | (exfalso; omega) | conv => whnf)
              | (refine br_intro (fun h => ?_) (fun h => ?_) <;> conv => whnf)
              | ((first | refine auNd ?_ | refine idx_nat (by omega) (fun x hx => ?_) | refine frz_auto ?_ | refine draw_plain ?_ | refine auIx (fun x hx => ?_)); conv => whnf)
              | ((first | refine bx_idx ?_ | refine bx_intro (fun b hb => ?_)); conv => whnf)
            all_goals first
              | (refine pr_eq (a := (y, 0)) (e.trans ?_)
                 first
                   | (rw [if_pos hlt, hy]; rfl)
                   | (rw [hy]; rfl)
                 done)
              | (refine pr_eq (a := (zP5, 4)) (e.trans ?_); simp [*]; done)
              | (refine pr_eq (a := (zP5, 4)) (e.trans ?_); have hz : lbP k m = 0 := by omega
                 simp [hz]; done)
              | (rw [show ((lbP k m : Int) - 1).toNat = lbP k m - 1 by omega] at hx
                 refine pr_eq (a := (x, 0)) (e.trans ?_)
                 have hz : ¬ lbP k m = 0 := by omega
                 rw [if_neg (by simp), if_neg hz, hx]; rfl)
        · have hnone : m[lbP k m]? = none := List.getElem?_eq_none (by omega)
          rw [hnone] at hlb
          have hki : (lkV m k).isSome = false := by rw [hlb]; rfl
          have hkb : (!(lkV m k).isSome) = true := by rw [hki]; rfl
          skip
          conv => whnf
          repeat' first
            | ((first | refine auIk ?_ | refine auIi ?_ | refine auT ?_ | refine auF ?_ | with_reducible first | refine auKt ?_ | refine auKf ?_ | refine auNt ?_ | refine auNf ?_ | refine auEt ?_ | refine auEf ?_); conv => whnf)
            | ((with_reducible first | refine br_dec (fun h => ?_) (fun h => ?_) | refine br_ndec (fun h => ?_) (fun h => ?_) | refine br_ne (fun h => ?_) (fun h => ?_) | refine br_eq (fun h => ?_) (fun h => ?_)) <;> first | (exfalso; omega) | conv => whnf)
            | (refine br_intro (fun h => ?_) (fun h => ?_) <;> conv => whnf)
            | ((first | refine auNd ?_ | refine idx_nat (by omega) (fun x hx => ?_) | refine frz_auto ?_ | refine draw_plain ?_ | refine auIx (fun x hx => ?_)); conv => whnf)
            | ((first | refine bx_idx ?_ | refine bx_intro (fun b hb => ?_)); conv => whnf)
          all_goals first
            | (refine pr_eq (a := (zP5, 4)) (e.trans ?_); simp [*]; done)
            | (refine pr_eq (a := (zP5, 4)) (e.trans ?_); have hz : lbP k m = 0 := by omega
               simp [hz]; done)
            | (rw [show ((lbP k m : Int) - 1).toNat = lbP k m - 1 by omega] at hx
               refine pr_eq (a := (x, 0)) (e.trans ?_)
               have hz : ¬ lbP k m = 0 := by omega
               rw [if_neg (by simp), if_neg hz, hx]; rfl)
    · have e : ceR m k = _ := gate_m hm
      have hg : (gate5 m k () ((), 0)).2 = (mcL m).2 := by rw [gate_m hm]
      have hg2 : (gate5 m k () ((), 0)).2 ≠ 0 := by rw [hg]; exact hm
      conv => whnf
      repeat' first
        | ((first | refine auIk ?_ | refine auIi ?_ | refine auT ?_ | refine auF ?_ | with_reducible first | refine auKt ?_ | refine auKf ?_ | refine auNt ?_ | refine auNf ?_ | refine auEt ?_ | refine auEf ?_); conv => whnf)
        | ((with_reducible first | refine br_dec (fun h => ?_) (fun h => ?_) | refine br_ndec (fun h => ?_) (fun h => ?_) | refine br_ne (fun h => ?_) (fun h => ?_) | refine br_eq (fun h => ?_) (fun h => ?_)) <;> first | (exfalso; omega) | conv => whnf)
        | (refine br_intro (fun h => ?_) (fun h => ?_) <;> conv => whnf)
        | ((first | refine auNd ?_ | refine idx_nat (by omega) (fun x hx => ?_) | refine frz_auto ?_ | refine draw_plain ?_ | refine auIx (fun x hx => ?_)); conv => whnf)
        | ((first | refine bx_idx ?_ | refine bx_intro (fun b hb => ?_)); conv => whnf)
      all_goals ((try rw [hg]); exact pr_eq e)
  · cases h
end Go.Proofs.Ytbbklijmnknmhaa
