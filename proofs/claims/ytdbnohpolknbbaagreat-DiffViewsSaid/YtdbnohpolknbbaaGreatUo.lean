/-
  Differences of two views: their maps, Diff and Same by the code.
  Views: what the reference says of two: Diff, Same, Shared.
-/
import Derived.Test.YtdbnohpolknbbaaGreatUg
import Derived.Test.YtdbnohpolknbbaaGreatLo
namespace Go.Proofs.YtdbnohpolknbbaaGreat
open Av Bk

/-- The error of two views. -/
def dvE (b : List entT.El) (rs : List runT.El) (b2 : List entT.El) (rs2 : List runT.El) : Int := if (vcL b rs).2 ≠ 0 then (vcL b rs).2 else (vcL b2 rs2).2
abbrev mV (b : List entT.El) (rs : List runT.El) : List pairT.El := mapL (allE b rs)
theorem dv_zero {b : List entT.El} {rs : List runT.El} {b2 : List entT.El} {rs2 : List runT.El} (h : dvE b rs b2 rs2 = 0) : (vcL b rs).2 = 0 ∧ (vcL b2 rs2).2 = 0 := by
  unfold dvE at h
  split at h
  · rename_i h1; exact absurd h h1
  · rename_i h1; exact ⟨by simpa using h1, h⟩
theorem dv_good {b : List entT.El} {rs : List runT.El} {b2 : List entT.El} {rs2 : List runT.El} (h1 : (vcL b rs).2 = 0) (h2 : (vcL b2 rs2).2 = 0) : dvE b rs b2 rs2 = 0 := by
  unfold dvE
  rw [if_neg (by simp [h1]), h2]
/-- What maps answers. -/
def mpR (b : List entT.El) (rs : List runT.El) (b2 : List entT.El) (rs2 : List runT.El) : List pairT.El × List pairT.El × Int := if dvE b rs b2 rs2 ≠ 0 then ([], [], dvE b rs b2 rs2) else (mV b rs, mV b2 rs2, 0)
def spMp : DSpec
  | [.agg [.lst (.st [.str, .str, .bool, .int .i64]) b, .lst (.st [.int .i64, .sl (.st [.str, .str, .bool, .int .i64])]) rs], .agg [.lst (.st [.str, .str, .bool, .int .i64]) b2, .lst (.st [.int .i64, .sl (.st [.str, .str, .bool, .int .i64])]) rs2]] => some (True, .tup [.lst pairT (mpR b rs b2 rs2).1, .lst pairT (mpR b rs b2 rs2).2.1, .int .i64 (mpR b rs b2 rs2).2.2])
  | _ => none
theorem lo_all (k : ByteArray) : sLt k ⟨#[]⟩ = false := by
  unfold sLt
  cases k.data.toList <;> rfl
theorem part_alU {b : List entT.El} {rs : List runT.El} (h : (vcL b rs).2 = 0) : partR b rs ⟨#[]⟩ ⟨#[]⟩ false = (mV b rs, 0) := by
  unfold partR
  rw [if_neg (by simp [h]), if_neg (by decide)]
  congr 1
  rw [List.filter_eq_self]
  intro p _
  unfold hasB
  rw [lo_all]
  rfl
theorem mV_len {b : List entT.El} {rs : List runT.El} (h : (vcL b rs).2 = 0) : (mV b rs).length ≤ 1000000000 := Nat.le_trans (mapL_len _) (all_len (vcL_zero h)).2
set_option maxRecDepth 100000 in
theorem fnOk_dMaps : FnOk Tryz.prog 30 Tryz.f30 := ⟨by rfl, by kernel_rfl, by
  show okCode _ _ = true ∧ drawsOk _ = true
  exact ⟨by kernel_rfl, by kernel_rfl⟩⟩
set_option maxRecDepth 100000 in
theorem fnOk_dDiff : FnOk Tryz.prog 9 Tryz.f9 := ⟨by rfl, by kernel_rfl, by
  show okCode _ _ = true ∧ drawsOk _ = true
  exact ⟨by kernel_rfl, by kernel_rfl⟩⟩
set_option maxRecDepth 100000 in
theorem fnOk_dSame : FnOk Tryz.prog 10 Tryz.f10 := ⟨by rfl, by kernel_rfl, by
  show okCode _ _ = true ∧ drawsOk _ = true
  exact ⟨by kernel_rfl, by kernel_rfl⟩⟩
noncomputable def cxun : Cx := ⟨tb, [], [(58, spVC), (59, spPart)]⟩
theorem specsun : SpecsOk Tryz.prog cxun.specs := .cons verC_ok (.cons lkPart_ok .nil)
set_option maxRecDepth 100000 in
set_option maxHeartbeats 4000000 in
theorem dMaps_ok : SpecOk Tryz.prog 30 spMp := by
  refine spec_body (C := cxun) mixed tbOk specsun (callN_ok (C := cxun) mixed tbOk specsun FnsOk.nil 0) fnOk_dMaps ?_
  intro ys p r h hp
  unfold spMp at h
  split at h
  · rename_i b rs b2 rs2
    cases h
    have q0 : ([(b, rs, ()), (b2, rs2, ())] : List viewT.El)[Int.toNat 0]? = some (b, rs, ()) := rfl
    have q1 : ([(b, rs, ()), (b2, rs2, ())] : List viewT.El)[Int.toNat (0 + 1)]? = some (b2, rs2, ()) := rfl
    by_cases h1 : (vcL b rs).2 = 0
    · by_cases h2 : (vcL b2 rs2).2 = 0
      · have hp1 := part_alU h1
        have hp2 := part_alU h2
        have hp1e : (partR b rs ⟨#[]⟩ ⟨#[]⟩ false).2 = 0 := by rw [hp1]
        have hm : mpR b rs b2 rs2 = ((partR b rs ⟨#[]⟩ ⟨#[]⟩ false).1, (partR b2 rs2 ⟨#[]⟩ ⟨#[]⟩ false).1, (partR b2 rs2 ⟨#[]⟩ ⟨#[]⟩ false).2) := by
          rw [mpR, if_neg (by simp [dv_good h1 h2]), hp1, hp2]
        conv => whnf
        repeat' first
          | ((first | refine auIk ?_ | refine auIi ?_ | refine auT ?_ | refine auF ?_ | with_reducible first | refine auKt ?_ | refine auKf ?_ | refine auNt ?_ | refine auNf ?_ | refine auEt ?_ | refine auEf ?_); conv => whnf)
          | ((with_reducible first | refine br_dec (fun h => ?_) (fun h => ?_) | refine br_ndec (fun h => ?_) (fun h => ?_) | refine br_ne (fun h => ?_) (fun h => ?_) | refine br_eq (fun h => ?_) (fun h => ?_)) <;> first | (exfalso; omega) | conv => whnf)
          | (refine br_intro (fun h => ?_) (fun h => ?_) <;> conv => whnf)
          | ((first | refine auNd ?_ | refine idx_nat (by omega) (fun x hx => ?_) | refine frz_auto ?_ | refine draw_plain ?_ | refine auIx (fun x hx => ?_)); conv => whnf)
        refine loop_turns 3 ?_
        conv => whnf
        repeat' first
          | ((first | refine auIk ?_ | refine auIi ?_ | refine auT ?_ | refine auF ?_ | with_reducible first | refine auKt ?_ | refine auKf ?_ | refine auNt ?_ | refine auNf ?_ | refine auEt ?_ | refine auEf ?_); conv => whnf)
          | ((with_reducible first | refine br_dec (fun h => ?_) (fun h => ?_) | refine br_ndec (fun h => ?_) (fun h => ?_) | refine br_ne (fun h => ?_) (fun h => ?_) | refine br_eq (fun h => ?_) (fun h => ?_)) <;> first | (exfalso; omega) | conv => whnf)
          | (refine br_intro (fun h => ?_) (fun h => ?_) <;> conv => whnf)
          | ((first | refine auNd ?_ | refine idx_nat (by omega) (fun x hx => ?_) | refine frz_auto ?_ | refine draw_plain ?_ | refine auIx (fun x hx => ?_)); conv => whnf)
        rw [hm]
      · have hm : mpR b rs b2 rs2 = ([], [], (vcL b2 rs2).2) := by
          have : dvE b rs b2 rs2 = (vcL b2 rs2).2 := by unfold dvE; rw [if_neg (by simp [h1])]
          rw [mpR, this, if_pos h2]
        conv => whnf
        repeat' first
          | ((first | refine auIk ?_ | refine auIi ?_ | refine auT ?_ | refine auF ?_ | with_reducible first | refine auKt ?_ | refine auKf ?_ | refine auNt ?_ | refine auNf ?_ | refine auEt ?_ | refine auEf ?_); conv => whnf)
          | ((with_reducible first | refine br_dec (fun h => ?_) (fun h => ?_) | refine br_ndec (fun h => ?_) (fun h => ?_) | refine br_ne (fun h => ?_) (fun h => ?_) | refine br_eq (fun h => ?_) (fun h => ?_)) <;> first | (exfalso; omega) | conv => whnf)
          | (refine br_intro (fun h => ?_) (fun h => ?_) <;> conv => whnf)
          | ((first | refine auNd ?_ | refine idx_nat (by omega) (fun x hx => ?_) | refine frz_auto ?_ | refine draw_plain ?_ | refine auIx (fun x hx => ?_)); conv => whnf)
        refine loop_turns 3 ?_
        conv => whnf
        repeat' first
          | ((first | refine auIk ?_ | refine auIi ?_ | refine auT ?_ | refine auF ?_ | with_reducible first | refine auKt ?_ | refine auKf ?_ | refine auNt ?_ | refine auNf ?_ | refine auEt ?_ | refine auEf ?_); conv => whnf)
          | ((with_reducible first | refine br_dec (fun h => ?_) (fun h => ?_) | refine br_ndec (fun h => ?_) (fun h => ?_) | refine br_ne (fun h => ?_) (fun h => ?_) | refine br_eq (fun h => ?_) (fun h => ?_)) <;> first | (exfalso; omega) | conv => whnf)
          | (refine br_intro (fun h => ?_) (fun h => ?_) <;> conv => whnf)
          | ((first | refine auNd ?_ | refine idx_nat (by omega) (fun x hx => ?_) | refine frz_auto ?_ | refine draw_plain ?_ | refine auIx (fun x hx => ?_)); conv => whnf)
        rw [hm]
        rfl
    · have hm : mpR b rs b2 rs2 = ([], [], (vcL b rs).2) := by
        have : dvE b rs b2 rs2 = (vcL b rs).2 := by unfold dvE; rw [if_pos h1]
        rw [mpR, this, if_pos h1]
      conv => whnf
      repeat' first
        | ((first | refine auIk ?_ | refine auIi ?_ | refine auT ?_ | refine auF ?_ | with_reducible first | refine auKt ?_ | refine auKf ?_ | refine auNt ?_ | refine auNf ?_ | refine auEt ?_ | refine auEf ?_); conv => whnf)
        | ((with_reducible first | refine br_dec (fun h => ?_) (fun h => ?_) | refine br_ndec (fun h => ?_) (fun h => ?_) | refine br_ne (fun h => ?_) (fun h => ?_) | refine br_eq (fun h => ?_) (fun h => ?_)) <;> first | (exfalso; omega) | conv => whnf)
        | (refine br_intro (fun h => ?_) (fun h => ?_) <;> conv => whnf)
        | ((first | refine auNd ?_ | refine idx_nat (by omega) (fun x hx => ?_) | refine frz_auto ?_ | refine draw_plain ?_ | refine auIx (fun x hx => ?_)); conv => whnf)
      refine loop_turns 3 ?_
      conv => whnf
      repeat' first
        | ((first | refine auIk ?_ | refine auIi ?_ | refine auT ?_ | refine auF ?_ | with_reducible first | refine auKt ?_ | refine auKf ?_ | refine auNt ?_ | refine auNf ?_ | refine auEt ?_ | refine auEf ?_); conv => whnf)
        | ((with_reducible first | refine br_dec (fun h => ?_) (fun h => ?_) | refine br_ndec (fun h => ?_) (fun h => ?_) | refine br_ne (fun h => ?_) (fun h => ?_) | refine br_eq (fun h => ?_) (fun h => ?_)) <;> first | (exfalso; omega) | conv => whnf)
        | (refine br_intro (fun h => ?_) (fun h => ?_) <;> conv => whnf)
        | ((first | refine auNd ?_ | refine idx_nat (by omega) (fun x hx => ?_) | refine frz_auto ?_ | refine draw_plain ?_ | refine auIx (fun x hx => ?_)); conv => whnf)
      rw [hm]
      rfl
  · cases h
/-- What Diff answers. -/
def dvR (b : List entT.El) (rs : List runT.El) (b2 : List entT.El) (rs2 : List runT.El) : List itemT.El × Int := if dvE b rs b2 rs2 ≠ 0 then ([], dvE b rs b2 rs2) else dfR (mV b rs) (mV b2 rs2)
def spDv : DSpec
  | [.agg [.lst (.st [.str, .str, .bool, .int .i64]) b, .lst (.st [.int .i64, .sl (.st [.str, .str, .bool, .int .i64])]) rs], .agg [.lst (.st [.str, .str, .bool, .int .i64]) b2, .lst (.st [.int .i64, .sl (.st [.str, .str, .bool, .int .i64])]) rs2]] => some (True, .tup [.lst itemT (dvR b rs b2 rs2).1, .int .i64 (dvR b rs b2 rs2).2])
  | _ => none
def svR (b : List entT.El) (rs : List runT.El) (b2 : List entT.El) (rs2 : List runT.El) : Bool := decide (dvE b rs b2 rs2 = 0) && sameL pairT (mV b rs) (mV b2 rs2)
def spSv : DSpec
  | [.agg [.lst (.st [.str, .str, .bool, .int .i64]) b, .lst (.st [.int .i64, .sl (.st [.str, .str, .bool, .int .i64])]) rs], .agg [.lst (.st [.str, .str, .bool, .int .i64]) b2, .lst (.st [.int .i64, .sl (.st [.str, .str, .bool, .int .i64])]) rs2]] => some (True, .tup [.bool (svR b rs b2 rs2), .int .i64 (dvE b rs b2 rs2)])
  | _ => none
noncomputable def cxun2 : Cx := ⟨tb, [], [(30, spMp), (31, spDiff), (32, spSameP)]⟩
theorem specsun2 : SpecsOk Tryz.prog cxun2.specs := .cons dMaps_ok (.cons mDiff_ok (.cons eqPr_ok .nil))
set_option maxRecDepth 100000 in
set_option maxHeartbeats 4000000 in
theorem dDiff_ok : SpecOk Tryz.prog 9 spDv := by
  refine spec_body (C := cxun2) mixed tbOk specsun2 (callN_ok (C := cxun2) mixed tbOk specsun2 FnsOk.nil 0) fnOk_dDiff ?_
  intro ys p r h hp
  unfold spDv at h
  split at h
  · rename_i b rs b2 rs2
    cases h
    by_cases he : dvE b rs b2 rs2 = 0
    · have hm : mpR b rs b2 rs2 = (mV b rs, mV b2 rs2, 0) := by rw [mpR, if_neg (by simp [he])]
      have hme : (mpR b rs b2 rs2).2.2 = 0 := by rw [hm]
      have hm1 : (mpR b rs b2 rs2).1.length ≤ 4611686018427387904 := by rw [hm]; have := mV_len (dv_zero he).1; show (mV b rs).length ≤ _; omega
      have hm2 : (mpR b rs b2 rs2).2.1.length ≤ 4611686018427387904 := by rw [hm]; have := mV_len (dv_zero he).2; show (mV b2 rs2).length ≤ _; omega
      conv => whnf
      repeat' first
        | ((first | refine auIk ?_ | refine auIi ?_ | refine auT ?_ | refine auF ?_ | with_reducible first | refine auKt ?_ | refine auKf ?_ | refine auNt ?_ | refine auNf ?_ | refine auEt ?_ | refine auEf ?_); conv => whnf)
        | ((with_reducible first | refine br_dec (fun h => ?_) (fun h => ?_) | refine br_ndec (fun h => ?_) (fun h => ?_) | refine br_ne (fun h => ?_) (fun h => ?_) | refine br_eq (fun h => ?_) (fun h => ?_)) <;> first | (exfalso; omega) | conv => whnf)
        | (refine br_intro (fun h => ?_) (fun h => ?_) <;> conv => whnf)
        | ((first | refine auNd ?_ | refine idx_nat (by omega) (fun x hx => ?_) | refine frz_auto ?_ | refine draw_plain ?_ | refine auIx (fun x hx => ?_)); conv => whnf)
      rw [dvR, if_neg (by simp [he]), hm]
    · have hm : mpR b rs b2 rs2 = ([], [], dvE b rs b2 rs2) := by rw [mpR, if_pos he]
      have hme : ¬ (mpR b rs b2 rs2).2.2 = 0 := by rw [hm]; exact he
      conv => whnf
      repeat' first
        | ((first | refine auIk ?_ | refine auIi ?_ | refine auT ?_ | refine auF ?_ | with_reducible first | refine auKt ?_ | refine auKf ?_ | refine auNt ?_ | refine auNf ?_ | refine auEt ?_ | refine auEf ?_); conv => whnf)
        | ((with_reducible first | refine br_dec (fun h => ?_) (fun h => ?_) | refine br_ndec (fun h => ?_) (fun h => ?_) | refine br_ne (fun h => ?_) (fun h => ?_) | refine br_eq (fun h => ?_) (fun h => ?_)) <;> first | (exfalso; omega) | conv => whnf)
        | (refine br_intro (fun h => ?_) (fun h => ?_) <;> conv => whnf)
        | ((first | refine auNd ?_ | refine idx_nat (by omega) (fun x hx => ?_) | refine frz_auto ?_ | refine draw_plain ?_ | refine auIx (fun x hx => ?_)); conv => whnf)
      rw [dvR, if_pos he, hm]
      rfl
  · cases h
set_option maxRecDepth 100000 in
set_option maxHeartbeats 4000000 in
theorem dSame_ok : SpecOk Tryz.prog 10 spSv := by
  refine spec_body (C := cxun2) mixed tbOk specsun2 (callN_ok (C := cxun2) mixed tbOk specsun2 FnsOk.nil 0) fnOk_dSame ?_
  intro ys p r h hp
  unfold spSv at h
  split at h
  · rename_i b rs b2 rs2
    cases h
    by_cases he : dvE b rs b2 rs2 = 0
    · have hm : mpR b rs b2 rs2 = (mV b rs, mV b2 rs2, 0) := by rw [mpR, if_neg (by simp [he])]
      have hme : (mpR b rs b2 rs2).2.2 = 0 := by rw [hm]
      have hm1 : (mpR b rs b2 rs2).1.length ≤ 4611686018427387904 := by rw [hm]; have := mV_len (dv_zero he).1; show (mV b rs).length ≤ _; omega
      conv => whnf
      repeat' first
        | ((first | refine auIk ?_ | refine auIi ?_ | refine auT ?_ | refine auF ?_ | with_reducible first | refine auKt ?_ | refine auKf ?_ | refine auNt ?_ | refine auNf ?_ | refine auEt ?_ | refine auEf ?_); conv => whnf)
        | ((with_reducible first | refine br_dec (fun h => ?_) (fun h => ?_) | refine br_ndec (fun h => ?_) (fun h => ?_) | refine br_ne (fun h => ?_) (fun h => ?_) | refine br_eq (fun h => ?_) (fun h => ?_)) <;> first | (exfalso; omega) | conv => whnf)
        | (refine br_intro (fun h => ?_) (fun h => ?_) <;> conv => whnf)
        | ((first | refine auNd ?_ | refine idx_nat (by omega) (fun x hx => ?_) | refine frz_auto ?_ | refine draw_plain ?_ | refine auIx (fun x hx => ?_)); conv => whnf)
      rw [svR, hm, he]
      rfl
    · have hm : mpR b rs b2 rs2 = ([], [], dvE b rs b2 rs2) := by rw [mpR, if_pos he]
      have hme : ¬ (mpR b rs b2 rs2).2.2 = 0 := by rw [hm]; exact he
      conv => whnf
      repeat' first
        | ((first | refine auIk ?_ | refine auIi ?_ | refine auT ?_ | refine auF ?_ | with_reducible first | refine auKt ?_ | refine auKf ?_ | refine auNt ?_ | refine auNf ?_ | refine auEt ?_ | refine auEf ?_); conv => whnf)
        | ((with_reducible first | refine br_dec (fun h => ?_) (fun h => ?_) | refine br_ndec (fun h => ?_) (fun h => ?_) | refine br_ne (fun h => ?_) (fun h => ?_) | refine br_eq (fun h => ?_) (fun h => ?_)) <;> first | (exfalso; omega) | conv => whnf)
        | (refine br_intro (fun h => ?_) (fun h => ?_) <;> conv => whnf)
        | ((first | refine auNd ?_ | refine idx_nat (by omega) (fun x hx => ?_) | refine frz_auto ?_ | refine draw_plain ?_ | refine auIx (fun x hx => ?_)); conv => whnf)
      rw [svR, hm, decide_eq_false he]
      rfl
  · cases h
end Go.Proofs.YtdbnohpolknbbaaGreat
namespace Go.Proofs.YtdbnohpolknbbaaGreat
open Av Bk

theorem take_nxU {α : Type} {a b : List α} {i : Nat} {x : α} (h : a.take i = b.take i) (ha : a[i]? = some x) (hb : b[i]? = some x) : a.take (i + 1) = b.take (i + 1) := by
  rw [List.take_add_one, List.take_add_one, h, ha, hb]
theorem take_alU {α : Type} {a b : List α} {i : Nat} (h : a.take i = b.take i) (ha : a.length ≤ i) (hb : b.length ≤ i) : a = b := by
  rwa [List.take_of_length_le ha, List.take_of_length_le hb] at h
theorem ne_atU {α : Type} {a b : List α} {i : Nat} {x y : α} (ha : a[i]? = some x) (hb : b[i]? = some y) (h : x ≠ y) : a ≠ b := by
  rintro rfl
  rw [ha] at hb
  cases hb
  exact h rfl
set_option maxRecDepth 100000 in
theorem fnOk_rInts : FnOk Tryz.prog 20 Tryz.f20 := ⟨by rfl, by kernel_rfl, by
  show okCode _ _ = true ∧ drawsOk _ = true
  exact ⟨by kernel_rfl, by kernel_rfl⟩⟩
def spInts : DSpec
  | [.lst (.int .i64) a, .lst (.int .i64) b] => some (a.length ≤ 4611686018427387904, .bool (decide (a = b)))
  | _ => none
set_option maxRecDepth 100000 in
set_option maxHeartbeats 2000000 in
theorem rInts_ok : SpecOk Tryz.prog 20 spInts := by
  refine spec_body (C := cx0) mixed tbOk SpecsOk.nil (callN_ok (C := cx0) mixed tbOk SpecsOk.nil FnsOk.nil 0) fnOk_rInts ?_
  intro ys p r h hp
  unfold spInts at h
  split at h
  · rename_i a b
    cases h
    by_cases hlen : a.length = b.length
    · conv => whnf
      repeat' first
        | ((first | refine auT ?_ | refine auF ?_ | with_reducible first | refine auKt ?_ | refine auKf ?_ | refine auNt ?_ | refine auNf ?_ | refine auEt ?_ | refine auEf ?_); conv => whnf)
        | ((with_reducible first | refine br_dec (fun h => ?_) (fun h => ?_) | refine br_ndec (fun h => ?_) (fun h => ?_) | refine br_ne (fun h => ?_) (fun h => ?_) | refine br_eq (fun h => ?_) (fun h => ?_)) <;> first | (exfalso; omega) | conv => whnf)
        | (refine br_intro (fun h => ?_) (fun h => ?_) <;> conv => whnf)
        | ((first | refine auNd ?_ | refine idx_nat (by omega) (fun x hx => ?_) | refine frz_auto ?_ | refine draw_plain ?_ | refine auIx (fun x hx => ?_)); conv => whnf)
      refine loop_inv [] [5] (fun vs h => ∃ i : Nat, vs = [.int .i64 (i : Int)] ∧ h = [] ∧ i ≤ a.length ∧ a.take i = b.take i) (fun vs _ => match vs with | [.int _ k] => a.length - k.toNat | _ => 0) ?_
      refine ⟨⟨0, rfl, rfl, Nat.zero_le _, rfl⟩, ?_⟩
      rintro vs h' - ⟨i, rfl, rfl, hi, hs⟩
      conv => whnf
      by_cases hil : i < a.length
      · obtain ⟨x, hx⟩ : ∃ x, a[i]? = some x := ⟨_, List.getElem?_eq_getElem hil⟩
        obtain ⟨y, hy⟩ : ∃ y, b[i]? = some y := ⟨_, List.getElem?_eq_getElem (by omega)⟩
        repeat' first
          | ((first | refine auIk ?_ | refine auIi ?_ | refine auT ?_ | refine auF ?_ | with_reducible first | refine auKt ?_ | refine auKf ?_ | refine auNt ?_ | refine auNf ?_ | refine auEt ?_ | refine auEf ?_); conv => whnf)
          | ((with_reducible first | refine br_dec (fun h => ?_) (fun h => ?_) | refine br_ndec (fun h => ?_) (fun h => ?_) | refine br_ne (fun h => ?_) (fun h => ?_) | refine br_eq (fun h => ?_) (fun h => ?_)) <;> first | (exfalso; omega) | conv => whnf)
          | (refine br_intro (fun h => ?_) (fun h => ?_) <;> conv => whnf)
          | ((first | refine auNd ?_ | refine idx_nat (by omega) (fun x hx => ?_) | refine frz_auto ?_ | refine draw_plain ?_ | refine auIx (fun x hx => ?_)); conv => whnf)
        · rw [decide_eq_false (ne_atU hx hy h)]
        · subst h
          refine back_intro (by conv => whnf) rfl ⟨i + 1, rfl, rfl, by omega, take_nxU hs hx hy⟩ ?_
          show a.length - ((i : Int) + 1).toNat < a.length - (i : Int).toNat
          omega
      · skip
        repeat' first
          | ((first | refine auIk ?_ | refine auIi ?_ | refine auT ?_ | refine auF ?_ | with_reducible first | refine auKt ?_ | refine auKf ?_ | refine auNt ?_ | refine auNf ?_ | refine auEt ?_ | refine auEf ?_); conv => whnf)
          | ((with_reducible first | refine br_dec (fun h => ?_) (fun h => ?_) | refine br_ndec (fun h => ?_) (fun h => ?_) | refine br_ne (fun h => ?_) (fun h => ?_) | refine br_eq (fun h => ?_) (fun h => ?_)) <;> first | (exfalso; omega) | conv => whnf)
          | (refine br_intro (fun h => ?_) (fun h => ?_) <;> conv => whnf)
          | ((first | refine auNd ?_ | refine idx_nat (by omega) (fun x hx => ?_) | refine frz_auto ?_ | refine draw_plain ?_ | refine auIx (fun x hx => ?_)); conv => whnf)
        rw [decide_eq_true (take_alU hs (by omega) (by omega))]
    · have hne : a ≠ b := fun e => hlen (by rw [e])
      conv => whnf
      repeat' first
        | ((first | refine auT ?_ | refine auF ?_ | with_reducible first | refine auKt ?_ | refine auKf ?_ | refine auNt ?_ | refine auNf ?_ | refine auEt ?_ | refine auEf ?_); conv => whnf)
        | ((with_reducible first | refine br_dec (fun h => ?_) (fun h => ?_) | refine br_ndec (fun h => ?_) (fun h => ?_) | refine br_ne (fun h => ?_) (fun h => ?_) | refine br_eq (fun h => ?_) (fun h => ?_)) <;> first | (exfalso; omega) | conv => whnf)
        | (refine br_intro (fun h => ?_) (fun h => ?_) <;> conv => whnf)
        | ((first | refine auNd ?_ | refine idx_nat (by omega) (fun x hx => ?_) | refine frz_auto ?_ | refine draw_plain ?_ | refine auIx (fun x hx => ?_)); conv => whnf)
      rw [decide_eq_false hne]
  · cases h
set_option maxRecDepth 100000 in
theorem fnOk_same03 : FnOk Tryz.prog 43 Tryz.f43 := ⟨by rfl, by kernel_rfl, by
  show okCode _ _ = true ∧ drawsOk _ = true
  exact ⟨by kernel_rfl, by kernel_rfl⟩⟩
set_option maxRecDepth 100000 in
set_option maxHeartbeats 2000000 in
theorem same03_ok : SpecOk Tryz.prog 43 spSameE := by
  refine spec_body (C := cx0) mixed tbOk SpecsOk.nil (callN_ok (C := cx0) mixed tbOk SpecsOk.nil FnsOk.nil 0) fnOk_same03 ?_
  intro ys p r h hp
  unfold spSameE at h
  split at h
  · rename_i a b
    cases h
    conv => whnf
    repeat' first
      | ((first | refine auT ?_ | refine auF ?_ | with_reducible first | refine auKt ?_ | refine auKf ?_ | refine auNt ?_ | refine auNf ?_ | refine auEt ?_ | refine auEf ?_); conv => whnf)
      | ((with_reducible first | refine br_dec (fun h => ?_) (fun h => ?_) | refine br_ndec (fun h => ?_) (fun h => ?_) | refine br_ne (fun h => ?_) (fun h => ?_) | refine br_eq (fun h => ?_) (fun h => ?_)) <;> first | (exfalso; omega) | conv => whnf)
      | (refine br_intro (fun h => ?_) (fun h => ?_) <;> conv => whnf)
      | ((first | refine auNd ?_ | refine idx_nat (by omega) (fun x hx => ?_) | refine frz_auto ?_ | refine draw_plain ?_ | refine auIx (fun x hx => ?_)); conv => whnf)
    · refine congrArg AV.bool ?_
      rw [same_len (by omega)]
    · rename_i hlen
      refine loop_inv [] [5] (fun vs h => ∃ i : Nat, vs = [.int .i64 (i : Int)] ∧ h = [] ∧ i ≤ a.length ∧ sameL entT a b = sameL entT (a.drop i) (b.drop i)) (fun vs _ => match vs with | [.int _ k] => a.length - k.toNat | _ => 0) ?_
      refine ⟨⟨0, rfl, rfl, Nat.zero_le _, rfl⟩, ?_⟩
      rintro vs h' - ⟨i, rfl, rfl, hi, hs⟩
      by_cases hil : i < a.length
      · obtain ⟨x, hx⟩ : ∃ x, a[i]? = some x := ⟨_, List.getElem?_eq_getElem hil⟩
        obtain ⟨y, hy⟩ : ∃ y, b[i]? = some y := ⟨_, List.getElem?_eq_getElem (by omega)⟩
        rw [same_step hx hy] at hs
        conv => whnf
        repeat' first
          | ((first | refine auIk ?_ | refine auIi ?_ | refine auT ?_ | refine auF ?_ | with_reducible first | refine auKt ?_ | refine auKf ?_ | refine auNt ?_ | refine auNf ?_ | refine auEt ?_ | refine auEf ?_); conv => whnf)
          | ((with_reducible first | refine br_dec (fun h => ?_) (fun h => ?_) | refine br_ndec (fun h => ?_) (fun h => ?_) | refine br_ne (fun h => ?_) (fun h => ?_) | refine br_eq (fun h => ?_) (fun h => ?_)) <;> first | (exfalso; omega) | conv => whnf)
          | (refine br_intro (fun h => ?_) (fun h => ?_) <;> conv => whnf)
          | ((first | refine auNd ?_ | refine idx_nat (by omega) (fun x hx => ?_) | refine frz_auto ?_ | refine draw_plain ?_ | refine auIx (fun x hx => ?_)); conv => whnf)
        · rw [hs, show eqT entT x y = false from bnt h]
          rfl
        · rw [show eqT entT x y = true from bnf h] at hs
          refine back_intro (by conv => whnf) rfl ⟨i + 1, rfl, rfl, by omega, hs⟩ ?_
          show a.length - ((i : Int) + 1).toNat < a.length - (i : Int).toNat
          omega
      · conv => whnf
        repeat' first
          | ((first | refine auIk ?_ | refine auIi ?_ | refine auT ?_ | refine auF ?_ | with_reducible first | refine auKt ?_ | refine auKf ?_ | refine auNt ?_ | refine auNf ?_ | refine auEt ?_ | refine auEf ?_); conv => whnf)
          | ((with_reducible first | refine br_dec (fun h => ?_) (fun h => ?_) | refine br_ndec (fun h => ?_) (fun h => ?_) | refine br_ne (fun h => ?_) (fun h => ?_) | refine br_eq (fun h => ?_) (fun h => ?_)) <;> first | (exfalso; omega) | conv => whnf)
          | (refine br_intro (fun h => ?_) (fun h => ?_) <;> conv => whnf)
          | ((first | refine auNd ?_ | refine idx_nat (by omega) (fun x hx => ?_) | refine frz_auto ?_ | refine draw_plain ?_ | refine auIx (fun x hx => ?_)); conv => whnf)
        rw [hs, same_end (by omega) (by omega)]
  · cases h
/-! ### Shared runs: plain -/
/-- A list that ascends with one more number. -/
def insN (n : Int) : List Int → List Int
  | [] => [n]
  | m :: l => if m < n then m :: insN n l else n :: m :: l
theorem insN_at {n : Int} : ∀ {l : List Int} {i : Nat}, (∀ y ∈ l.take i, y < n) → i ≤ l.length → (i = l.length ∨ ∃ y, l[i]? = some y ∧ ¬ y < n) → insN n l = l.take i ++ n :: l.drop i
  | [], i, _, hi, _ => by simp at hi; subst hi; rfl
  | m :: l, 0, _, _, h => by
    rcases h with h | ⟨y, hy, hl⟩
    · simp at h
    · simp at hy; subst hy
      simp [insN, hl]
  | m :: l, i + 1, ht, hi, h => by
    have h0 := ht m (by simp)
    unfold insN
    rw [if_pos h0, insN_at (l := l) (i := i) (fun p hp => ht p (by simp [hp])) (by simpa using hi) (by simpa using h)]
    rfl
theorem insN_len (n : Int) : ∀ l, (insN n l).length = l.length + 1
  | [] => rfl
  | m :: l => by
    unfold insN
    split
    · rw [List.length_cons, insN_len n l]; rfl
    · rfl
/-- Whether two runs are one. -/
def mtB (r s : runT.El) : Bool := (r.1 == s.1) && sameL entT r.2.1 s.2.1
def shIn (r : runT.El) (l : List runT.El) (o : List Int) : List Int := l.foldl (fun o s => if mtB r s = true then insN r.1 o else o) o
def shF (rs rs2 : List runT.El) : List Int := rs.foldl (fun o r => shIn r rs2 o) []
theorem shIn_take {r s : runT.El} {l : List runT.El} {k : Nat} {o : List Int} (hs : l[k]? = some s) : shIn r (l.take (k + 1)) o = if mtB r s = true then insN r.1 (shIn r (l.take k) o) else shIn r (l.take k) o := by
  unfold shIn
  rw [List.take_add_one, hs, List.foldl_append]
  rfl
theorem shF_take {r : runT.El} {rs rs2 : List runT.El} {i : Nat} (hr : rs[i]? = some r) : shF (rs.take (i + 1)) rs2 = shIn r rs2 (shF (rs.take i) rs2) := by
  unfold shF
  rw [List.take_add_one, hr, List.foldl_append]
  rfl
theorem inN_eq (A B : List Int) (n : Int) : List.take (0 + A.length + (List.take (1 + B.length) (List.take 1 [n] ++ B)).length) (List.take (0 + A.length) (List.take 0 [] ++ A) ++ List.take (1 + B.length) (List.take 1 [n] ++ B)) = A ++ n :: B := by
  have h1 : List.take (1 + B.length) (List.take 1 [n] ++ B) = n :: B := by
    rw [List.take_of_length_le (by simp; omega)]; rfl
  have h2 : List.take (0 + A.length) (List.take 0 [] ++ A) = A := by
    rw [List.take_of_length_le (by simp)]; rfl
  rw [h1, h2, List.take_of_length_le (by simp)]
theorem inN_fin {l : List Int} {i : Nat} {n : Int} (hall : ∀ y ∈ l.take i, y < n) (hi : i ≤ l.length) (h : i = l.length ∨ ∃ y, l[i]? = some y ∧ ¬ y < n) :
    List.take ((i : Int).toNat - Int.toNat 0) (List.drop (Int.toNat 0) l) ++ n :: List.take ((l.length : Int).toNat - (i : Int).toNat) (List.drop (i : Int).toNat l) = insN n l := by
  rw [insN_at hall hi h]
  have h1 : List.take ((i : Int).toNat - Int.toNat 0) (List.drop (Int.toNat 0) l) = l.take i := rfl
  have h2 : List.take ((l.length : Int).toNat - (i : Int).toNat) (List.drop (i : Int).toNat l) = l.drop i := List.take_of_length_le (by rw [List.length_drop]; show l.length - i ≤ l.length - i; omega)
  rw [h1, h2]
/-! ### The functions -/
set_option maxRecDepth 100000 in
theorem fnOk_rInN : FnOk Tryz.prog 44 Tryz.f44 := ⟨by rfl, by kernel_rfl, by
  show okCode _ _ = true ∧ drawsOk _ = true
  exact ⟨by kernel_rfl, by kernel_rfl⟩⟩
def spInN : DSpec
  | [.lst (.int .i64) l, .int .i64 n] => some (l.length ≤ 100000, .lst (.int .i64) (insN n l))
  | _ => none
set_option maxRecDepth 100000 in
set_option maxHeartbeats 4000000 in
theorem rInN_ok : SpecOk Tryz.prog 44 spInN := by
  refine spec_body (C := cx0) mixed tbOk SpecsOk.nil (callN_ok (C := cx0) mixed tbOk SpecsOk.nil FnsOk.nil 0) fnOk_rInN ?_
  intro ys p r h hp
  unfold spInN at h
  split at h
  · rename_i l n
    cases h
    conv => whnf
    repeat' first
      | ((first | refine auIk ?_ | refine auIi ?_ | refine auT ?_ | refine auF ?_ | with_reducible first | refine auKt ?_ | refine auKf ?_ | refine auNt ?_ | refine auNf ?_ | refine auEt ?_ | refine auEf ?_); conv => whnf)
      | ((with_reducible first | refine br_dec (fun h => ?_) (fun h => ?_) | refine br_ndec (fun h => ?_) (fun h => ?_) | refine br_ne (fun h => ?_) (fun h => ?_) | refine br_eq (fun h => ?_) (fun h => ?_)) <;> first | (exfalso; omega) | conv => whnf)
      | (refine br_intro (fun h => ?_) (fun h => ?_) <;> conv => whnf)
      | ((first | refine auNd ?_ | refine idx_nat (by omega) (fun x hx => ?_) | refine frz_auto ?_ | refine draw_plain ?_ | refine auIx (fun x hx => ?_)); conv => whnf)
    refine loop_inv [] [5] (fun vs h => ∃ i : Nat, vs = [.int .i64 (i : Int)] ∧ h = [.arr 3 (.int .i64) [] false 0] ∧ i ≤ l.length ∧ ∀ y ∈ (l : List Int).take i, y < n) (fun vs _ => match vs with | [.int _ k] => l.length - k.toNat | _ => 0) ?_
    conv => whnf
    refine ⟨⟨0, rfl, rfl, Nat.zero_le _, by simp⟩, ?_⟩
    rintro vs h' - ⟨i, rfl, rfl, hi, hall⟩
    by_cases hil : i < l.length
    · obtain ⟨y, hy⟩ : ∃ y : Int, (l : List Int)[i]? = some y := ⟨_, List.getElem?_eq_getElem hil⟩
      by_cases hyn : y < n
      · conv => whnf
        repeat' first
          | ((first | refine auIk ?_ | refine auIi ?_ | refine auT ?_ | refine auF ?_ | with_reducible first | refine auKt ?_ | refine auKf ?_ | refine auNt ?_ | refine auNf ?_ | refine auEt ?_ | refine auEf ?_); conv => whnf)
          | ((with_reducible first | refine br_dec (fun h => ?_) (fun h => ?_) | refine br_ndec (fun h => ?_) (fun h => ?_) | refine br_ne (fun h => ?_) (fun h => ?_) | refine br_eq (fun h => ?_) (fun h => ?_)) <;> first | (exfalso; omega) | conv => whnf)
          | (refine br_intro (fun h => ?_) (fun h => ?_) <;> conv => whnf)
          | ((first | refine auNd ?_ | refine idx_nat (by omega) (fun x hx => ?_) | refine frz_auto ?_ | refine draw_plain ?_ | refine auIx (fun x hx => ?_)); conv => whnf)
        refine back_intro (by conv => whnf) rfl ⟨i + 1, rfl, rfl, by omega, fun z hz => ?_⟩ ?_
        · rw [List.take_add_one, hy] at hz
          rcases List.mem_append.1 hz with hz | hz
          · exact hall z hz
          · have : z = y := by simpa using hz
            rw [this]; exact hyn
        · show l.length - ((i : Int) + 1).toNat < l.length - (i : Int).toNat
          omega
      · conv => whnf
        repeat' first
          | ((first | refine auIk ?_ | refine auIi ?_ | refine auT ?_ | refine auF ?_ | with_reducible first | refine auKt ?_ | refine auKf ?_ | refine auNt ?_ | refine auNf ?_ | refine auEt ?_ | refine auEf ?_); conv => whnf)
          | ((with_reducible first | refine br_dec (fun h => ?_) (fun h => ?_) | refine br_ndec (fun h => ?_) (fun h => ?_) | refine br_ne (fun h => ?_) (fun h => ?_) | refine br_eq (fun h => ?_) (fun h => ?_)) <;> first | (exfalso; omega) | conv => whnf)
          | (refine br_intro (fun h => ?_) (fun h => ?_) <;> conv => whnf)
          | ((first | refine auNd ?_ | refine idx_nat (by omega) (fun x hx => ?_) | refine frz_auto ?_ | refine draw_plain ?_ | refine auIx (fun x hx => ?_)); conv => whnf)
        refine congrArg (AV.lst _) ?_
        simp only [cast_self]
        exact (inN_eq _ _ n).trans (inN_fin hall hi (.inr ⟨y, hy, hyn⟩))
    · conv => whnf
      repeat' first
        | ((first | refine auIk ?_ | refine auIi ?_ | refine auT ?_ | refine auF ?_ | with_reducible first | refine auKt ?_ | refine auKf ?_ | refine auNt ?_ | refine auNf ?_ | refine auEt ?_ | refine auEf ?_); conv => whnf)
        | ((with_reducible first | refine br_dec (fun h => ?_) (fun h => ?_) | refine br_ndec (fun h => ?_) (fun h => ?_) | refine br_ne (fun h => ?_) (fun h => ?_) | refine br_eq (fun h => ?_) (fun h => ?_)) <;> first | (exfalso; omega) | conv => whnf)
        | (refine br_intro (fun h => ?_) (fun h => ?_) <;> conv => whnf)
        | ((first | refine auNd ?_ | refine idx_nat (by omega) (fun x hx => ?_) | refine frz_auto ?_ | refine draw_plain ?_ | refine auIx (fun x hx => ?_)); conv => whnf)
      refine congrArg (AV.lst _) ?_
      simp only [cast_self]
      exact (inN_eq _ _ n).trans (inN_fin hall hi (.inl (by omega)))
  · cases h
set_option maxRecDepth 100000 in
theorem fnOk_rViews : FnOk Tryz.prog 42 Tryz.f42 := ⟨by rfl, by kernel_rfl, by
  show okCode _ _ = true ∧ drawsOk _ = true
  exact ⟨by kernel_rfl, by kernel_rfl⟩⟩
set_option maxRecDepth 100000 in
theorem fnOk_rDiff28 : FnOk Tryz.prog 17 Tryz.f17 := ⟨by rfl, by kernel_rfl, by
  show okCode _ _ = true ∧ drawsOk _ = true
  exact ⟨by kernel_rfl, by kernel_rfl⟩⟩
set_option maxRecDepth 100000 in
theorem fnOk_rSame28 : FnOk Tryz.prog 19 Tryz.f19 := ⟨by rfl, by kernel_rfl, by
  show okCode _ _ = true ∧ drawsOk _ = true
  exact ⟨by kernel_rfl, by kernel_rfl⟩⟩
set_option maxRecDepth 100000 in
theorem fnOk_rShared28 : FnOk Tryz.prog 18 Tryz.f18 := ⟨by rfl, by kernel_rfl, by
  show okCode _ _ = true ∧ drawsOk _ = true
  exact ⟨by kernel_rfl, by kernel_rfl⟩⟩
def spVw : DSpec
  | [.agg [.lst (.st [.str, .str, .bool, .int .i64]) b, .lst (.st [.int .i64, .sl (.st [.str, .str, .bool, .int .i64])]) rs], .agg [.lst (.st [.str, .str, .bool, .int .i64]) b2, .lst (.st [.int .i64, .sl (.st [.str, .str, .bool, .int .i64])]) rs2]] => some (True, .int .i64 (dvE b rs b2 rs2))
  | _ => none
noncomputable def cxuo : Cx := ⟨tb, [], [(26, spVC)]⟩
theorem specsuo : SpecsOk Tryz.prog cxuo.specs := .cons ref25C_ok .nil
set_option maxRecDepth 100000 in
set_option maxHeartbeats 4000000 in
theorem rViews_ok : SpecOk Tryz.prog 42 spVw := by
  refine spec_body (C := cxuo) mixed tbOk specsuo (callN_ok (C := cxuo) mixed tbOk specsuo FnsOk.nil 0) fnOk_rViews ?_
  intro ys p r h hp
  unfold spVw at h
  split at h
  · rename_i b rs b2 rs2
    cases h
    by_cases h1 : (vcL b rs).2 = 0
    · conv => whnf
      repeat' first
        | ((first | refine auIk ?_ | refine auIi ?_ | refine auT ?_ | refine auF ?_ | with_reducible first | refine auKt ?_ | refine auKf ?_ | refine auNt ?_ | refine auNf ?_ | refine auEt ?_ | refine auEf ?_); conv => whnf)
        | ((with_reducible first | refine br_dec (fun h => ?_) (fun h => ?_) | refine br_ndec (fun h => ?_) (fun h => ?_) | refine br_ne (fun h => ?_) (fun h => ?_) | refine br_eq (fun h => ?_) (fun h => ?_)) <;> first | (exfalso; omega) | conv => whnf)
        | (refine br_intro (fun h => ?_) (fun h => ?_) <;> conv => whnf)
        | ((first | refine auNd ?_ | refine idx_nat (by omega) (fun x hx => ?_) | refine frz_auto ?_ | refine draw_plain ?_ | refine auIx (fun x hx => ?_)); conv => whnf)
      rw [dvE, if_neg (by simp [h1])]
    · conv => whnf
      repeat' first
        | ((first | refine auIk ?_ | refine auIi ?_ | refine auT ?_ | refine auF ?_ | with_reducible first | refine auKt ?_ | refine auKf ?_ | refine auNt ?_ | refine auNf ?_ | refine auEt ?_ | refine auEf ?_); conv => whnf)
        | ((with_reducible first | refine br_dec (fun h => ?_) (fun h => ?_) | refine br_ndec (fun h => ?_) (fun h => ?_) | refine br_ne (fun h => ?_) (fun h => ?_) | refine br_eq (fun h => ?_) (fun h => ?_)) <;> first | (exfalso; omega) | conv => whnf)
        | (refine br_intro (fun h => ?_) (fun h => ?_) <;> conv => whnf)
        | ((first | refine auNd ?_ | refine idx_nat (by omega) (fun x hx => ?_) | refine frz_auto ?_ | refine draw_plain ?_ | refine auIx (fun x hx => ?_)); conv => whnf)
      rw [dvE, if_pos h1]
  · cases h
noncomputable def cxuo2 : Cx := ⟨tb, [], [(42, spVw), (11, spMap), (12, spDiff)]⟩
theorem specsuo2 : SpecsOk Tryz.prog cxuo2.specs := .cons rViews_ok (.cons rMap_ok (.cons r05Diff_ok .nil))
set_option maxRecDepth 100000 in
set_option maxHeartbeats 4000000 in
theorem rDiff28_ok : SpecOk Tryz.prog 17 spDv := by
  refine spec_body (C := cxuo2) mixed tbOk specsuo2 (callN_ok (C := cxuo2) mixed tbOk specsuo2 FnsOk.nil 0) fnOk_rDiff28 ?_
  intro ys p r h hp
  unfold spDv at h
  split at h
  · rename_i b rs b2 rs2
    cases h
    by_cases he : dvE b rs b2 rs2 = 0
    · have hl1 := all_len (vcL_zero (dv_zero he).1)
      have hl2 := all_len (vcL_zero (dv_zero he).2)
      have hm1 : (mapL (allE b rs)).length ≤ 4611686018427387904 := by have := mV_len (dv_zero he).1; show (mV b rs).length ≤ _; omega
      have hm2 : (mapL (allE b2 rs2)).length ≤ 4611686018427387904 := by have := mV_len (dv_zero he).2; show (mV b2 rs2).length ≤ _; omega
      conv => whnf
      repeat' first
        | ((first | refine auIk ?_ | refine auIi ?_ | refine auT ?_ | refine auF ?_ | with_reducible first | refine auKt ?_ | refine auKf ?_ | refine auNt ?_ | refine auNf ?_ | refine auEt ?_ | refine auEf ?_); conv => whnf)
        | ((with_reducible first | refine br_dec (fun h => ?_) (fun h => ?_) | refine br_ndec (fun h => ?_) (fun h => ?_) | refine br_ne (fun h => ?_) (fun h => ?_) | refine br_eq (fun h => ?_) (fun h => ?_)) <;> first | (exfalso; omega) | conv => whnf)
        | (refine br_intro (fun h => ?_) (fun h => ?_) <;> conv => whnf)
        | ((first | refine auNd ?_ | refine idx_nat (by omega) (fun x hx => ?_) | refine frz_auto ?_ | refine draw_plain ?_ | refine auIx (fun x hx => ?_)); conv => whnf)
      rw [dvR, if_neg (by simp [he])]
    · conv => whnf
      repeat' first
        | ((first | refine auIk ?_ | refine auIi ?_ | refine auT ?_ | refine auF ?_ | with_reducible first | refine auKt ?_ | refine auKf ?_ | refine auNt ?_ | refine auNf ?_ | refine auEt ?_ | refine auEf ?_); conv => whnf)
        | ((with_reducible first | refine br_dec (fun h => ?_) (fun h => ?_) | refine br_ndec (fun h => ?_) (fun h => ?_) | refine br_ne (fun h => ?_) (fun h => ?_) | refine br_eq (fun h => ?_) (fun h => ?_)) <;> first | (exfalso; omega) | conv => whnf)
        | (refine br_intro (fun h => ?_) (fun h => ?_) <;> conv => whnf)
        | ((first | refine auNd ?_ | refine idx_nat (by omega) (fun x hx => ?_) | refine frz_auto ?_ | refine draw_plain ?_ | refine auIx (fun x hx => ?_)); conv => whnf)
      rw [dvR, if_pos he]
      rfl
  · cases h
theorem tup_eq2 {a b : Bool} {c d : Int} (h : a = b) (h2 : c = d) : AV.tup [.bool a, .int .i64 c] = AV.tup [.bool b, .int .i64 d] := by rw [h, h2]
def spSv28 : DSpec
  | [.agg [.lst (.st [.str, .str, .bool, .int .i64]) b, .lst (.st [.int .i64, .sl (.st [.str, .str, .bool, .int .i64])]) rs], .agg [.lst (.st [.str, .str, .bool, .int .i64]) b2, .lst (.st [.int .i64, .sl (.st [.str, .str, .bool, .int .i64])]) rs2]] => some (True, .tup [.bool (decide ((dvR b rs b2 rs2).2 = 0) && decide ((dvR b rs b2 rs2).1.length = 0)), .int .i64 (dvR b rs b2 rs2).2])
  | _ => none
noncomputable def cxuo3 : Cx := ⟨tb, [], [(17, spDv)]⟩
theorem specsuo3 : SpecsOk Tryz.prog cxuo3.specs := .cons rDiff28_ok .nil
set_option maxRecDepth 100000 in
set_option maxHeartbeats 4000000 in
theorem rSame28_ok : SpecOk Tryz.prog 19 spSv28 := by
  refine spec_body (C := cxuo3) mixed tbOk specsuo3 (callN_ok (C := cxuo3) mixed tbOk specsuo3 FnsOk.nil 0) fnOk_rSame28 ?_
  intro ys p r h hp
  unfold spSv28 at h
  split at h
  · rename_i b rs b2 rs2
    cases h
    by_cases he : (dvR b rs b2 rs2).2 = 0
    · conv => whnf
      repeat' first
        | ((first | refine auIk ?_ | refine auIi ?_ | refine auT ?_ | refine auF ?_ | with_reducible first | refine auKt ?_ | refine auKf ?_ | refine auNt ?_ | refine auNf ?_ | refine auEt ?_ | refine auEf ?_); conv => whnf)
        | ((with_reducible first | refine br_dec (fun h => ?_) (fun h => ?_) | refine br_ndec (fun h => ?_) (fun h => ?_) | refine br_ne (fun h => ?_) (fun h => ?_) | refine br_eq (fun h => ?_) (fun h => ?_)) <;> first | (exfalso; omega) | conv => whnf)
        | (refine br_intro (fun h => ?_) (fun h => ?_) <;> conv => whnf)
        | ((first | refine auNd ?_ | refine idx_nat (by omega) (fun x hx => ?_) | refine frz_auto ?_ | refine draw_plain ?_ | refine auIx (fun x hx => ?_)); conv => whnf)
      rw [he, decide_eq_true rfl, Bool.true_and]
      refine tup_eq2 ?_ rfl
      rw [Bool.eq_iff_iff, beq_iff_eq, decide_eq_true_iff]
      omega
    · conv => whnf
      repeat' first
        | ((first | refine auIk ?_ | refine auIi ?_ | refine auT ?_ | refine auF ?_ | with_reducible first | refine auKt ?_ | refine auKf ?_ | refine auNt ?_ | refine auNf ?_ | refine auEt ?_ | refine auEf ?_); conv => whnf)
        | ((with_reducible first | refine br_dec (fun h => ?_) (fun h => ?_) | refine br_ndec (fun h => ?_) (fun h => ?_) | refine br_ne (fun h => ?_) (fun h => ?_) | refine br_eq (fun h => ?_) (fun h => ?_)) <;> first | (exfalso; omega) | conv => whnf)
        | (refine br_intro (fun h => ?_) (fun h => ?_) <;> conv => whnf)
        | ((first | refine auNd ?_ | refine idx_nat (by omega) (fun x hx => ?_) | refine frz_auto ?_ | refine draw_plain ?_ | refine auIx (fun x hx => ?_)); conv => whnf)
      rw [decide_eq_false he, Bool.false_and]
  · cases h
/-- What Shared answers, by the reference. -/
def shR (b : List entT.El) (rs : List runT.El) (b2 : List entT.El) (rs2 : List runT.El) : List Int × Int := if dvE b rs b2 rs2 ≠ 0 then ([], dvE b rs b2 rs2) else (shF rs rs2, 0)
def spSh28 : DSpec
  | [.agg [.lst (.st [.str, .str, .bool, .int .i64]) b, .lst (.st [.int .i64, .sl (.st [.str, .str, .bool, .int .i64])]) rs], .agg [.lst (.st [.str, .str, .bool, .int .i64]) b2, .lst (.st [.int .i64, .sl (.st [.str, .str, .bool, .int .i64])]) rs2]] => some (True, .tup [.lst (.int .i64) (shR b rs b2 rs2).1, .int .i64 (shR b rs b2 rs2).2])
  | _ => none
noncomputable def cxuo4 : Cx := ⟨tb, [], [(42, spVw), (43, spSameE), (44, spInN)]⟩
theorem specsuo4 : SpecsOk Tryz.prog cxuo4.specs := .cons rViews_ok (.cons same03_ok (.cons rInN_ok .nil))
theorem run_len {b : List entT.El} {rs : List runT.El} (h : (vcL b rs).2 = 0) {r : runT.El} (hr : r ∈ rs) : r.2.1.length ≤ 4611686018427387904 := by
  have := (clL_zero ((vcL_zero h).gr r hr)).1
  omega
set_option maxRecDepth 100000 in
set_option maxHeartbeats 4000000 in
theorem rShared28_ok : SpecOk Tryz.prog 18 spSh28 := by
  refine spec_body (C := cxuo4) mixed tbOk specsuo4 (callN_ok (C := cxuo4) mixed tbOk specsuo4 FnsOk.nil 0) fnOk_rShared28 ?_
  intro ys p r h hp
  unfold spSh28 at h
  split at h
  · rename_i b rs b2 rs2
    cases h
    by_cases he : dvE b rs b2 rs2 = 0
    · have hlr := (vcL_zero (dv_zero he).1).lr
      have hlr2 := (vcL_zero (dv_zero he).2).lr
      conv => whnf
      repeat' first
        | ((first | refine auIk ?_ | refine auIi ?_ | refine auT ?_ | refine auF ?_ | with_reducible first | refine auKt ?_ | refine auKf ?_ | refine auNt ?_ | refine auNf ?_ | refine auEt ?_ | refine auEf ?_); conv => whnf)
        | ((with_reducible first | refine br_dec (fun h => ?_) (fun h => ?_) | refine br_ndec (fun h => ?_) (fun h => ?_) | refine br_ne (fun h => ?_) (fun h => ?_) | refine br_eq (fun h => ?_) (fun h => ?_)) <;> first | (exfalso; omega) | conv => whnf)
        | (refine br_intro (fun h => ?_) (fun h => ?_) <;> conv => whnf)
        | ((first | refine auNd ?_ | refine idx_nat (by omega) (fun x hx => ?_) | refine frz_auto ?_ | refine draw_plain ?_ | refine auIx (fun x hx => ?_)); conv => whnf)
      refine loop_inv [.lst 7 (.int .i64)] [7, 8] (fun vs h => ∃ (i : Nat) (out : List Int), vs = [.lst (.int .i64) out, .int .i64 (i : Int)] ∧ h = [.cells 25 [.lst entT b, .lst runT rs], .cells 25 [.lst entT b2, .lst runT rs2], .arr 3 (.int .i64) [] false 0, .dead] ∧ i ≤ rs.length ∧ out = shF (rs.take i) rs2 ∧ out.length ≤ 24 * i) (fun vs _ => match vs with | [_, .int _ k] => rs.length - k.toNat | _ => 0) ?_
      conv => whnf
      refine need_in ⟨rfl, Nat.le_refl _⟩ ?_
      conv => whnf
      refine ⟨⟨0, [], rfl, rfl, Nat.zero_le _, rfl, Nat.le_refl _⟩, ?_⟩
      rintro vs h' - ⟨i, out, rfl, rfl, hi, ho, hol⟩
      by_cases hil : i < rs.length
      · obtain ⟨r, hr⟩ : ∃ r, rs[i]? = some r := ⟨_, List.getElem?_eq_getElem hil⟩
        have hrl := run_len (dv_zero he).1 (List.mem_of_getElem? hr)
        conv => whnf
        repeat' first
          | ((first | refine auIk ?_ | refine auIi ?_ | refine auT ?_ | refine auF ?_ | with_reducible first | refine auKt ?_ | refine auKf ?_ | refine auNt ?_ | refine auNf ?_ | refine auEt ?_ | refine auEf ?_); conv => whnf)
          | ((with_reducible first | refine br_dec (fun h => ?_) (fun h => ?_) | refine br_ndec (fun h => ?_) (fun h => ?_) | refine br_ne (fun h => ?_) (fun h => ?_) | refine br_eq (fun h => ?_) (fun h => ?_)) <;> first | (exfalso; omega) | conv => whnf)
          | (refine br_intro (fun h => ?_) (fun h => ?_) <;> conv => whnf)
          | ((first | refine auNd ?_ | refine idx_nat (by omega) (fun x hx => ?_) | refine frz_auto ?_ | refine draw_plain ?_ | refine auIx (fun x hx => ?_)); conv => whnf)
        refine loop_inv [] [7, 9] (fun vs h => ∃ (k : Nat) (o2 : List Int), vs = [.lst (.int .i64) o2, .int .i64 (k : Int)] ∧ h = [.cells 25 [.lst entT b, .lst runT rs], .cells 25 [.lst entT b2, .lst runT rs2], .arr 3 (.int .i64) [] false 0, .dead] ∧ k ≤ rs2.length ∧ o2 = shIn r (rs2.take k) out ∧ o2.length ≤ 24 * i + k) (fun vs _ => match vs with | [_, .int _ k] => rs2.length - k.toNat | _ => 0) ?_
        conv => whnf
        refine ⟨⟨0, out, rfl, rfl, Nat.zero_le _, rfl, by omega⟩, ?_⟩
        rintro vs h' - ⟨k, o2, rfl, rfl, hk, ho2, hol2⟩
        by_cases hkl : k < rs2.length
        · obtain ⟨s, hs⟩ : ∃ s, rs2[k]? = some s := ⟨_, List.getElem?_eq_getElem hkl⟩
          have hst := shIn_take (r := r) (o := out) hs
          have hmt : mtB r s = ((r.1 == s.1) && sameL entT r.2.1 s.2.1) := rfl
          have ho5 : o2.length ≤ 100000 := by omega
          by_cases hid : r.1 = s.1
          · have hid2 : (r.1 == s.1) = true := by rw [hid]; exact beq_self_eq_true _
            rw [hid2, Bool.true_and] at hmt
            conv => whnf
            repeat' first
              | ((first | refine auIk ?_ | refine auIi ?_ | refine auT ?_ | refine auF ?_ | with_reducible first | refine auKt ?_ | refine auKf ?_ | refine auNt ?_ | refine auNf ?_ | refine auEt ?_ | refine auEf ?_); conv => whnf)
              | ((with_reducible first | refine br_dec (fun h => ?_) (fun h => ?_) | refine br_ndec (fun h => ?_) (fun h => ?_) | refine br_ne (fun h => ?_) (fun h => ?_) | refine br_eq (fun h => ?_) (fun h => ?_)) <;> first | (exfalso; omega) | conv => whnf)
              | (refine br_intro (fun h => ?_) (fun h => ?_) <;> conv => whnf)
              | ((first | refine auNd ?_ | refine idx_nat (by omega) (fun x hx => ?_) | refine frz_auto ?_ | refine draw_plain ?_ | refine auIx (fun x hx => ?_)); conv => whnf)
            · rw [hmt, if_pos h, ← ho2] at hst
              refine back_intro (by conv => whnf) rfl ⟨k + 1, insN r.1 o2, rfl, rfl, by omega, hst.symm, by rw [insN_len]; omega⟩ ?_
              show rs2.length - ((k : Int) + 1).toNat < rs2.length - (k : Int).toNat
              omega
            · rw [hmt, if_neg (by rw [h]; decide), ← ho2] at hst
              refine back_intro (by conv => whnf) rfl ⟨k + 1, o2, rfl, rfl, by omega, hst.symm, by omega⟩ ?_
              show rs2.length - ((k : Int) + 1).toNat < rs2.length - (k : Int).toNat
              omega
          · have hid2 : (r.1 == s.1) = false := beq_eq_false_iff_ne.2 hid
            rw [hid2, Bool.false_and] at hmt
            conv => whnf
            repeat' first
              | ((first | refine auIk ?_ | refine auIi ?_ | refine auT ?_ | refine auF ?_ | with_reducible first | refine auKt ?_ | refine auKf ?_ | refine auNt ?_ | refine auNf ?_ | refine auEt ?_ | refine auEf ?_); conv => whnf)
              | ((with_reducible first | refine br_dec (fun h => ?_) (fun h => ?_) | refine br_ndec (fun h => ?_) (fun h => ?_) | refine br_ne (fun h => ?_) (fun h => ?_) | refine br_eq (fun h => ?_) (fun h => ?_)) <;> first | (exfalso; omega) | conv => whnf)
              | (refine br_intro (fun h => ?_) (fun h => ?_) <;> conv => whnf)
              | ((first | refine auNd ?_ | refine idx_nat (by omega) (fun x hx => ?_) | refine frz_auto ?_ | refine draw_plain ?_ | refine auIx (fun x hx => ?_)); conv => whnf)
            rw [hmt, if_neg (by decide), ← ho2] at hst
            refine back_intro (by conv => whnf) rfl ⟨k + 1, o2, rfl, rfl, by omega, hst.symm, by omega⟩ ?_
            show rs2.length - ((k : Int) + 1).toNat < rs2.length - (k : Int).toNat
            omega
        · conv => whnf
          repeat' first
            | ((first | refine auIk ?_ | refine auIi ?_ | refine auT ?_ | refine auF ?_ | with_reducible first | refine auKt ?_ | refine auKf ?_ | refine auNt ?_ | refine auNf ?_ | refine auEt ?_ | refine auEf ?_); conv => whnf)
            | ((with_reducible first | refine br_dec (fun h => ?_) (fun h => ?_) | refine br_ndec (fun h => ?_) (fun h => ?_) | refine br_ne (fun h => ?_) (fun h => ?_) | refine br_eq (fun h => ?_) (fun h => ?_)) <;> first | (exfalso; omega) | conv => whnf)
            | (refine br_intro (fun h => ?_) (fun h => ?_) <;> conv => whnf)
            | ((first | refine auNd ?_ | refine idx_nat (by omega) (fun x hx => ?_) | refine frz_auto ?_ | refine draw_plain ?_ | refine auIx (fun x hx => ?_)); conv => whnf)
          rw [List.take_of_length_le (by omega), ho] at ho2
          refine back_intro (by conv => whnf) rfl ⟨i + 1, o2, rfl, rfl, by omega, ho2.trans (shF_take hr).symm, by omega⟩ ?_
          show rs.length - ((i : Int) + 1).toNat < rs.length - (i : Int).toNat
          omega
      · conv => whnf
        repeat' first
          | ((first | refine auIk ?_ | refine auIi ?_ | refine auT ?_ | refine auF ?_ | with_reducible first | refine auKt ?_ | refine auKf ?_ | refine auNt ?_ | refine auNf ?_ | refine auEt ?_ | refine auEf ?_); conv => whnf)
          | ((with_reducible first | refine br_dec (fun h => ?_) (fun h => ?_) | refine br_ndec (fun h => ?_) (fun h => ?_) | refine br_ne (fun h => ?_) (fun h => ?_) | refine br_eq (fun h => ?_) (fun h => ?_)) <;> first | (exfalso; omega) | conv => whnf)
          | (refine br_intro (fun h => ?_) (fun h => ?_) <;> conv => whnf)
          | ((first | refine auNd ?_ | refine idx_nat (by omega) (fun x hx => ?_) | refine frz_auto ?_ | refine draw_plain ?_ | refine auIx (fun x hx => ?_)); conv => whnf)
        rw [shR, if_neg (by simp [he]), ho, List.take_of_length_le (by omega)]
    · conv => whnf
      repeat' first
        | ((first | refine auIk ?_ | refine auIi ?_ | refine auT ?_ | refine auF ?_ | with_reducible first | refine auKt ?_ | refine auKf ?_ | refine auNt ?_ | refine auNf ?_ | refine auEt ?_ | refine auEf ?_); conv => whnf)
        | ((with_reducible first | refine br_dec (fun h => ?_) (fun h => ?_) | refine br_ndec (fun h => ?_) (fun h => ?_) | refine br_ne (fun h => ?_) (fun h => ?_) | refine br_eq (fun h => ?_) (fun h => ?_)) <;> first | (exfalso; omega) | conv => whnf)
        | (refine br_intro (fun h => ?_) (fun h => ?_) <;> conv => whnf)
        | ((first | refine auNd ?_ | refine idx_nat (by omega) (fun x hx => ?_) | refine frz_auto ?_ | refine draw_plain ?_ | refine auIx (fun x hx => ?_)); conv => whnf)
      rw [shR, if_pos he]
      rfl
  · cases h
end Go.Proofs.YtdbnohpolknbbaaGreat
