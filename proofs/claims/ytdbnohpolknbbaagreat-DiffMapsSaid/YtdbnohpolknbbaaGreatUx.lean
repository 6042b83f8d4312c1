/-
  Differences of two views: their maps, Diff and Same by the code.
  Views: what the reference says of two: Diff, Same, Shared.
  Views: the runs that two have in common, by the code.
  Differences of tables, by key. Plain Lean.
  What the laws of differences need. Plain Lean.
  The runs that views have in common. Plain Lean.
-/
import Derived.Test.YtdbnohpolknbbaaGreatUg
import Derived.Test.YtdbnohpolknbbaaGreatLo
import Derived.Test.YtdbnohpolknbbaaGreatE4
import Derived.Test.YtdbnohpolknbbaaGreatUt
namespace Go.Proofs.YtdbnohpolknbbaaGreat
open Av Bk

/-- The error of two views. -/
def dvE (b : List entT.El) (rs : List runT.El) (b2 : List entT.El) (rs2 : List runT.El) : Int := if (vcL b rs).2 ≠ 0 then (vcL b rs).2 else (vcL b2 rs2).2
abbrev mV (b : List entT.El) (rs : List runT.El) : List pairT.El := mapL (allE b rs)
theorem dv_zero {b : List entT.El} {rs : List runT.El} {b2 : List entT.El} {rs2 : List runT.El} (h : dvE b rs b2 rs2 = 0) : (vcL b rs).2 = 0 ∧ (vcL b2 rs2).2 = 0 := by
  unfold dvE at h
  split at h
  · rename_i h1; exact absurd h h1
  · rename_i h1; exact ⟨by simpa using h1, h⟩
theorem dv_good {b : List entT.El} {rs : List runT.El} {b2 : List entT.El} {rs2 : List runT.El} (h1 : (vcL b rs).2 = 0) (h2 : (vcL b2 rs2).2 = 0) : dvE b rs b2 rs2 = 0 := by
  unfold dvE
  rw [if_neg (by simp [h1]), h2]
/-- What maps answers. -/
def mpR (b : List entT.El) (rs : List runT.El) (b2 : List entT.El) (rs2 : List runT.El) : List pairT.El × List pairT.El × Int := if dvE b rs b2 rs2 ≠ 0 then ([], [], dvE b rs b2 rs2) else (mV b rs, mV b2 rs2, 0)
def spMp : DSpec
  | [.agg [.lst (.st [.str, .str, .bool, .int .i64]) b, .lst (.st [.int .i64, .sl (.st [.str, .str, .bool, .int .i64])]) rs], .agg [.lst (.st [.str, .str, .bool, .int .i64]) b2, .lst (.st [.int .i64, .sl (.st [.str, .str, .bool, .int .i64])]) rs2]] => some (True, .tup [.lst pairT (mpR b rs b2 rs2).1, .lst pairT (mpR b rs b2 rs2).2.1, .int .i64 (mpR b rs b2 rs2).2.2])
  | _ => none
theorem lo_all (k : ByteArray) : sLt k ⟨#[]⟩ = false := by
  unfold sLt
  cases k.data.toList <;> rfl
theorem part_alU {b : List entT.El} {rs : List runT.El} (h : (vcL b rs).2 = 0) : partR b rs ⟨#[]⟩ ⟨#[]⟩ false = (mV b rs, 0) := by
  unfold partR
  rw [if_neg (by simp [h]), if_neg (by decide)]
  congr 1
  rw [List.filter_eq_self]
  intro p _
  unfold hasB
  rw [lo_all]
  rfl
theorem mV_len {b : List entT.El} {rs : List runT.El} (h : (vcL b rs).2 = 0) : (mV b rs).length ≤ 1000000000 := Nat.le_trans (mapL_len _) (all_len (vcL_zero h)).2
set_option maxRecDepth 100000 in
theorem fnOk_dMaps : FnOk Tryz.prog 30 Tryz.f30 := ⟨by rfl, by kernel_rfl, by
  show okCode _ _ = true ∧ drawsOk _ = true
  exact ⟨by kernel_rfl, by kernel_rfl⟩⟩
set_option maxRecDepth 100000 in
theorem fnOk_dDiff : FnOk Tryz.prog 9 Tryz.f9 := ⟨by rfl, by kernel_rfl, by
  show okCode _ _ = true ∧ drawsOk _ = true
  exact ⟨by kernel_rfl, by kernel_rfl⟩⟩
set_option maxRecDepth 100000 in
theorem fnOk_dSame : FnOk Tryz.prog 10 Tryz.f10 := ⟨by rfl, by kernel_rfl, by
  show okCode _ _ = true ∧ drawsOk _ = true
  exact ⟨by kernel_rfl, by kernel_rfl⟩⟩
noncomputable def cxun : Cx := ⟨tb, [], [(58, spVC), (59, spPart)]⟩
theorem specsun : SpecsOk Tryz.prog cxun.specs := .cons verC_ok (.cons lkPart_ok .nil)
set_option maxRecDepth 100000 in
set_option maxHeartbeats 4000000 in
theorem dMaps_ok : SpecOk Tryz.prog 30 spMp := by
  refine spec_body (C := cxun) mixed tbOk specsun (callN_ok (C := cxun) mixed tbOk specsun FnsOk.nil 0) fnOk_dMaps ?_
  intro ys p r h hp
  unfold spMp at h
  split at h
  · rename_i b rs b2 rs2
    cases h
    have q0 : ([(b, rs, ()), (b2, rs2, ())] : List viewT.El)[Int.toNat 0]? = some (b, rs, ()) := rfl
    have q1 : ([(b, rs, ()), (b2, rs2, ())] : List viewT.El)[Int.toNat (0 + 1)]? = some (b2, rs2, ()) := rfl
    by_cases h1 : (vcL b rs).2 = 0
    · by_cases h2 : (vcL b2 rs2).2 = 0
      · have hp1 := part_alU h1
        have hp2 := part_alU h2
        have hp1e : (partR b rs ⟨#[]⟩ ⟨#[]⟩ false).2 = 0 := by rw [hp1]
        have hm : mpR b rs b2 rs2 = ((partR b rs ⟨#[]⟩ ⟨#[]⟩ false).1, (partR b2 rs2 ⟨#[]⟩ ⟨#[]⟩ false).1, (partR b2 rs2 ⟨#[]⟩ ⟨#[]⟩ false).2) := by
          rw [mpR, if_neg (by simp [dv_good h1 h2]), hp1, hp2]
        conv => whnf
        repeat' first
          | ((first | refine auIk ?_ | refine auIi ?_ | refine auT ?_ | refine auF ?_ | with_reducible first | refine auKt ?_ | refine auKf ?_ | refine auNt ?_ | refine auNf ?_ | refine auEt ?_ | refine auEf ?_); conv => whnf)
          | ((with_reducible first | refine br_dec (fun h => ?_) (fun h => ?_) | refine br_ndec (fun h => ?_) (fun h => ?_) | refine br_ne (fun h => ?_) (fun h => ?_) | refine br_eq (fun h => ?_) (fun h => ?_)) <;> first | (exfalso; omega) | conv => whnf)
          | (refine br_intro (fun h => ?_) (fun h => ?_) <;> conv => whnf)
          | ((first | refine auNd ?_ | refine idx_nat (by omega) (fun x hx => ?_) | refine frz_auto ?_ | refine draw_plain ?_ | refine auIx (fun x hx => ?_)); conv => whnf)
        refine loop_turns 3 ?_
        conv => whnf
        repeat' first
          | ((first | refine auIk ?_ | refine auIi ?_ | refine auT ?_ | refine auF ?_ | with_reducible first | refine auKt ?_ | refine auKf ?_ | refine auNt ?_ | refine auNf ?_ | refine auEt ?_ | refine auEf ?_); conv => whnf)
          | ((with_reducible first | refine br_dec (fun h => ?_) (fun h => ?_) | refine br_ndec (fun h => ?_) (fun h => ?_) | refine br_ne (fun h => ?_) (fun h => ?_) | refine br_eq (fun h => ?_) (fun h => ?_)) <;> first | (exfalso; omega) | conv => whnf)
          | (refine br_intro (fun h => ?_) (fun h => ?_) <;> conv => whnf)
          | ((first | refine auNd ?_ | refine idx_nat (by omega) (fun x hx => ?_) | refine frz_auto ?_ | refine draw_plain ?_ | refine auIx (fun x hx => ?_)); conv => whnf)
        rw [hm]
      · have hm : mpR b rs b2 rs2 = ([], [], (vcL b2 rs2).2) := by
          have : dvE b rs b2 rs2 = (vcL b2 rs2).2 := by unfold dvE; rw [if_neg (by simp [h1])]
          rw [mpR, this, if_pos h2]
        conv => whnf
        repeat' first
          | ((first | refine auIk ?_ | refine auIi ?_ | refine auT ?_ | refine auF ?_ | with_reducible first | refine auKt ?_ | refine auKf ?_ | refine auNt ?_ | refine auNf ?_ | refine auEt ?_ | refine auEf ?_); conv => whnf)
          | ((with_reducible first | refine br_dec (fun h => ?_) (fun h => ?_) | refine br_ndec (fun h => ?_) (fun h => ?_) | refine br_ne (fun h => ?_) (fun h => ?_) | refine br_eq (fun h => ?_) (fun h => ?_)) <;> first | (exfalso; omega) | conv => whnf)
          | (refine br_intro (fun h => ?_) (fun h => ?_) <;> conv => whnf)
          | ((first | refine auNd ?_ | refine idx_nat (by omega) (fun x hx => ?_) | refine frz_auto ?_ | refine draw_plain ?_ | refine auIx (fun x hx => ?_)); conv => whnf)
        refine loop_turns 3 ?_
        conv => whnf
        repeat' first
          | ((first | refine auIk ?_ | refine auIi ?_ | refine auT ?_ | refine auF ?_ | with_reducible first | refine auKt ?_ | refine auKf ?_ | refine auNt ?_ | refine auNf ?_ | refine auEt ?_ | refine auEf ?_); conv => whnf)
          | ((with_reducible first | refine br_dec (fun h => ?_) (fun h => ?_) | refine br_ndec (fun h => ?_) (fun h => ?_) | refine br_ne (fun h => ?_) (fun h => ?_) | refine br_eq (fun h => ?_) (fun h => ?_)) <;> first | (exfalso; omega) | conv => whnf)
          | (refine br_intro (fun h => ?_) (fun h => ?_) <;> conv => whnf)
          | ((first | refine auNd ?_ | refine idx_nat (by omega) (fun x hx => ?_) | refine frz_auto ?_ | refine draw_plain ?_ | refine auIx (fun x hx => ?_)); conv => whnf)
        rw [hm]
        rfl
    · have hm : mpR b rs b2 rs2 = ([], [], (vcL b rs).2) := by
        have : dvE b rs b2 rs2 = (vcL b rs).2 := by unfold dvE; rw [if_pos h1]
        rw [mpR, this, if_pos h1]
      conv => whnf
      repeat' first
        | ((first | refine auIk ?_ | refine auIi ?_ | refine auT ?_ | refine auF ?_ | with_reducible first | refine auKt ?_ | refine auKf ?_ | refine auNt ?_ | refine auNf ?_ | refine auEt ?_ | refine auEf ?_); conv => whnf)
        | ((with_reducible first | refine br_dec (fun h => ?_) (fun h => ?_) | refine br_ndec (fun h => ?_) (fun h => ?_) | refine br_ne (fun h => ?_) (fun h => ?_) | refine br_eq (fun h => ?_) (fun h => ?_)) <;> first | (exfalso; omega) | conv => whnf)
        | (refine br_intro (fun h => ?_) (fun h => ?_) <;> conv => whnf)
        | ((first | refine auNd ?_ | refine idx_nat (by omega) (fun x hx => ?_) | refine frz_auto ?_ | refine draw_plain ?_ | refine auIx (fun x hx => ?_)); conv => whnf)
      refine loop_turns 3 ?_
      conv => whnf
      repeat' first
        | ((first | refine auIk ?_ | refine auIi ?_ | refine auT ?_ | refine auF ?_ | with_reducible first | refine auKt ?_ | refine auKf ?_ | refine auNt ?_ | refine auNf ?_ | refine auEt ?_ | refine auEf ?_); conv => whnf)
        | ((with_reducible first | refine br_dec (fun h => ?_) (fun h => ?_) | refine br_ndec (fun h => ?_) (fun h => ?_) | refine br_ne (fun h => ?_) (fun h => ?_) | refine br_eq (fun h => ?_) (fun h => ?_)) <;> first | (exfalso; omega) | conv => whnf)
        | (refine br_intro (fun h => ?_) (fun h => ?_) <;> conv => whnf)
        | ((first | refine auNd ?_ | refine idx_nat (by omega) (fun x hx => ?_) | refine frz_auto ?_ | refine draw_plain ?_ | refine auIx (fun x hx => ?_)); conv => whnf)
      rw [hm]
      rfl
  · cases h
/-- What Diff answers. -/
def dvR (b : List entT.El) (rs : List runT.El) (b2 : List entT.El) (rs2 : List runT.El) : List itemT.El × Int := if dvE b rs b2 rs2 ≠ 0 then ([], dvE b rs b2 rs2) else dfR (mV b rs) (mV b2 rs2)
def spDv : DSpec
  | [.agg [.lst (.st [.str, .str, .bool, .int .i64]) b, .lst (.st [.int .i64, .sl (.st [.str, .str, .bool, .int .i64])]) rs], .agg [.lst (.st [.str, .str, .bool, .int .i64]) b2, .lst (.st [.int .i64, .sl (.st [.str, .str, .bool, .int .i64])]) rs2]] => some (True, .tup [.lst itemT (dvR b rs b2 rs2).1, .int .i64 (dvR b rs b2 rs2).2])
  | _ => none
def svR (b : List entT.El) (rs : List runT.El) (b2 : List entT.El) (rs2 : List runT.El) : Bool := decide (dvE b rs b2 rs2 = 0) && sameL pairT (mV b rs) (mV b2 rs2)
def spSv : DSpec
  | [.agg [.lst (.st [.str, .str, .bool, .int .i64]) b, .lst (.st [.int .i64, .sl (.st [.str, .str, .bool, .int .i64])]) rs], .agg [.lst (.st [.str, .str, .bool, .int .i64]) b2, .lst (.st [.int .i64, .sl (.st [.str, .str, .bool, .int .i64])]) rs2]] => some (True, .tup [.bool (svR b rs b2 rs2), .int .i64 (dvE b rs b2 rs2)])
  | _ => none
noncomputable def cxun2 : Cx := ⟨tb, [], [(30, spMp), (31, spDiff), (32, spSameP)]⟩
theorem specsun2 : SpecsOk Tryz.prog cxun2.specs := .cons dMaps_ok (.cons mDiff_ok (.cons eqPr_ok .nil))
set_option maxRecDepth 100000 in
set_option maxHeartbeats 4000000 in
theorem dDiff_ok : SpecOk Tryz.prog 9 spDv := by
  refine spec_body (C := cxun2) mixed tbOk specsun2 (callN_ok (C := cxun2) mixed tbOk specsun2 FnsOk.nil 0) fnOk_dDiff ?_
  intro ys p r h hp
  unfold spDv at h
  split at h
  · rename_i b rs b2 rs2
    cases h
    by_cases he : dvE b rs b2 rs2 = 0
    · have hm : mpR b rs b2 rs2 = (mV b rs, mV b2 rs2, 0) := by rw [mpR, if_neg (by simp [he])]
      have hme : (mpR b rs b2 rs2).2.2 = 0 := by rw [hm]
      have hm1 : (mpR b rs b2 rs2).1.length ≤ 4611686018427387904 := by rw [hm]; have := mV_len (dv_zero he).1; show (mV b rs).length ≤ _; omega
      have hm2 : (mpR b rs b2 rs2).2.1.length ≤ 4611686018427387904 := by rw [hm]; have := mV_len (dv_zero he).2; show (mV b2 rs2).length ≤ _; omega
      conv => whnf
      repeat' first
        | ((first | refine auIk ?_ | refine auIi ?_ | refine auT ?_ | refine auF ?_ | with_reducible first | refine auKt ?_ | refine auKf ?_ | refine auNt ?_ | refine auNf ?_ | refine auEt ?_ | refine auEf ?_); conv => whnf)
        | ((with_reducible first | refine br_dec (fun h => ?_) (fun h => ?_) | refine br_ndec (fun h => ?_) (fun h => ?_) | refine br_ne (fun h => ?_) (fun h => ?_) | refine br_eq (fun h => ?_) (fun h => ?_)) <;> first | (exfalso; omega) | conv => whnf)
        | (refine br_intro (fun h => ?_) (fun h => ?_) <;> conv => whnf)
        | ((first | refine auNd ?_ | refine idx_nat (by omega) (fun x hx => ?_) | refine frz_auto ?_ | refine draw_plain ?_ | refine auIx (fun x hx => ?_)); conv => whnf)
      rw [dvR, if_neg (by simp [he]), hm]
    · have hm : mpR b rs b2 rs2 = ([], [], dvE b rs b2 rs2) := by rw [mpR, if_pos he]
      have hme : ¬ (mpR b rs b2 rs2).2.2 = 0 := by rw [hm]; exact he
      conv => whnf
      repeat' first
        | ((first | refine auIk ?_ | refine auIi ?_ | refine auT ?_ | refine auF ?_ | with_reducible first | refine auKt ?_ | refine auKf ?_ | refine auNt ?_ | refine auNf ?_ | refine auEt ?_ | refine auEf ?_); conv => whnf)
        | ((with_reducible first | refine br_dec (fun h => ?_) (fun h => ?_) | refine br_ndec (fun h => ?_) (fun h => ?_) | refine br_ne (fun h => ?_) (fun h => ?_) | refine br_eq (fun h => ?_) (fun h => ?_)) <;> first | (exfalso; omega) | conv => whnf)
        | (refine br_intro (fun h => ?_) (fun h => ?_) <;> conv => whnf)
        | ((first | refine auNd ?_ | refine idx_nat (by omega) (fun x hx => ?_) | refine frz_auto ?_ | refine draw_plain ?_ | refine auIx (fun x hx => ?_)); conv => whnf)
      rw [dvR, if_pos he, hm]
      rfl
  · cases h
set_option maxRecDepth 100000 in
set_option maxHeartbeats 4000000 in
theorem dSame_ok : SpecOk Tryz.prog 10 spSv := by
  refine spec_body (C := cxun2) mixed tbOk specsun2 (callN_ok (C := cxun2) mixed tbOk specsun2 FnsOk.nil 0) fnOk_dSame ?_
  intro ys p r h hp
  unfold spSv at h
  split at h
  · rename_i b rs b2 rs2
    cases h
    by_cases he : dvE b rs b2 rs2 = 0
    · have hm : mpR b rs b2 rs2 = (mV b rs, mV b2 rs2, 0) := by rw [mpR, if_neg (by simp [he])]
      have hme : (mpR b rs b2 rs2).2.2 = 0 := by rw [hm]
      have hm1 : (mpR b rs b2 rs2).1.length ≤ 4611686018427387904 := by rw [hm]; have := mV_len (dv_zero he).1; show (mV b rs).length ≤ _; omega
      conv => whnf
      repeat' first
        | ((first | refine auIk ?_ | refine auIi ?_ | refine auT ?_ | refine auF ?_ | with_reducible first | refine auKt ?_ | refine auKf ?_ | refine auNt ?_ | refine auNf ?_ | refine auEt ?_ | refine auEf ?_); conv => whnf)
        | ((with_reducible first | refine br_dec (fun h => ?_) (fun h => ?_) | refine br_ndec (fun h => ?_) (fun h => ?_) | refine br_ne (fun h => ?_) (fun h => ?_) | refine br_eq (fun h => ?_) (fun h => ?_)) <;> first | (exfalso; omega) | conv => whnf)
        | (refine br_intro (fun h => ?_) (fun h => ?_) <;> conv => whnf)
        | ((first | refine auNd ?_ | refine idx_nat (by omega) (fun x hx => ?_) | refine frz_auto ?_ | refine draw_plain ?_ | refine auIx (fun x hx => ?_)); conv => whnf)
      rw [svR, hm, he]
      rfl
    · have hm : mpR b rs b2 rs2 = ([], [], dvE b rs b2 rs2) := by rw [mpR, if_pos he]
      have hme : ¬ (mpR b rs b2 rs2).2.2 = 0 := by rw [hm]; exact he
      conv => whnf
      repeat' first
        | ((first | refine auIk ?_ | refine auIi ?_ | refine auT ?_ | refine auF ?_ | with_reducible first | refine auKt ?_ | refine auKf ?_ | refine auNt ?_ | refine auNf ?_ | refine auEt ?_ | refine auEf ?_); conv => whnf)
        | ((with_reducible first | refine br_dec (fun h => ?_) (fun h => ?_) | refine br_ndec (fun h => ?_) (fun h => ?_) | refine br_ne (fun h => ?_) (fun h => ?_) | refine br_eq (fun h => ?_) (fun h => ?_)) <;> first | (exfalso; omega) | conv => whnf)
        | (refine br_intro (fun h => ?_) (fun h => ?_) <;> conv => whnf)
        | ((first | refine auNd ?_ | refine idx_nat (by omega) (fun x hx => ?_) | refine frz_auto ?_ | refine draw_plain ?_ | refine auIx (fun x hx => ?_)); conv => whnf)
      rw [svR, hm, decide_eq_false he]
      rfl
  · cases h
end Go.Proofs.YtdbnohpolknbbaaGreat
namespace Go.Proofs.YtdbnohpolknbbaaGreat
open Av Bk

theorem take_nxU {α : Type} {a b : List α} {i : Nat} {x : α} (h : a.take i = b.take i) (ha : a[i]? = some x) (hb : b[i]? = some x) : a.take (i + 1) = b.take (i + 1) := by
  rw [List.take_add_one, List.take_add_one, h, ha, hb]
theorem take_alU {α : Type} {a b : List α} {i : Nat} (h : a.take i = b.take i) (ha : a.length ≤ i) (hb : b.length ≤ i) : a = b := by
  rwa [List.take_of_length_le ha, List.take_of_length_le hb] at h
theorem ne_atU {α : Type} {a b : List α} {i : Nat} {x y : α} (ha : a[i]? = some x) (hb : b[i]? = some y) (h : x ≠ y) : a ≠ b := by
  rintro rfl
  rw [ha] at hb
  cases hb
  exact h rfl
set_option maxRecDepth 100000 in
theorem fnOk_rInts : FnOk Tryz.prog 20 Tryz.f20 := ⟨by rfl, by kernel_rfl, by
  show okCode _ _ = true ∧ drawsOk _ = true
  exact ⟨by kernel_rfl, by kernel_rfl⟩⟩
def spInts : DSpec
  | [.lst (.int .i64) a, .lst (.int .i64) b] => some (a.length ≤ 4611686018427387904, .bool (decide (a = b)))
  | _ => none
set_option maxRecDepth 100000 in
set_option maxHeartbeats 2000000 in
theorem rInts_ok : SpecOk Tryz.prog 20 spInts := by
  refine spec_body (C := cx0) mixed tbOk SpecsOk.nil (callN_ok (C := cx0) mixed tbOk SpecsOk.nil FnsOk.nil 0) fnOk_rInts ?_
  intro ys p r h hp
  unfold spInts at h
  split at h
  · rename_i a b
    cases h
    by_cases hlen : a.length = b.length
    · conv => whnf
      repeat' first
        | ((first | refine auT ?_ | refine auF ?_ | with_reducible first | refine auKt ?_ | refine auKf ?_ | refine auNt ?_ | refine auNf ?_ | refine auEt ?_ | refine auEf ?_); conv => whnf)
        | ((with_reducible first | refine br_dec (fun h => ?_) (fun h => ?_) | refine br_ndec (fun h => ?_) (fun h => ?_) | refine br_ne (fun h => ?_) (fun h => ?_) | refine br_eq (fun h => ?_) (fun h => ?_)) <;> first | (exfalso; omega) | conv => whnf)
        | (refine br_intro (fun h => ?_) (fun h => ?_) <;> conv => whnf)
        | ((first | refine auNd ?_ | refine idx_nat (by omega) (fun x hx => ?_) | refine frz_auto ?_ | refine draw_plain ?_ | refine auIx (fun x hx => ?_)); conv => whnf)
      refine loop_inv [] [5] (fun vs h => ∃ i : Nat, vs = [.int .i64 (i : Int)] ∧ h = [] ∧ i ≤ a.length ∧ a.take i = b.take i) (fun vs _ => match vs with | [.int _ k] => a.length - k.toNat | _ => 0) ?_
      refine ⟨⟨0, rfl, rfl, Nat.zero_le _, rfl⟩, ?_⟩
      rintro vs h' - ⟨i, rfl, rfl, hi, hs⟩
      conv => whnf
      by_cases hil : i < a.length
      · obtain ⟨x, hx⟩ : ∃ x, a[i]? = some x := ⟨_, List.getElem?_eq_getElem hil⟩
        obtain ⟨y, hy⟩ : ∃ y, b[i]? = some y := ⟨_, List.getElem?_eq_getElem (by omega)⟩
        repeat' first
          | ((first | refine auIk ?_ | refine auIi ?_ | refine auT ?_ | refine auF ?_ | with_reducible first | refine auKt ?_ | refine auKf ?_ | refine auNt ?_ | refine auNf ?_ | refine auEt ?_ | refine auEf ?_); conv => whnf)
          | ((with_reducible first | refine br_dec (fun h => ?_) (fun h => ?_) | refine br_ndec (fun h => ?_) (fun h => ?_) | refine br_ne (fun h => ?_) (fun h => ?_) | refine br_eq (fun h => ?_) (fun h => ?_)) <;> first | (exfalso; omega) | conv => whnf)
          | (refine br_intro (fun h => ?_) (fun h => ?_) <;> conv => whnf)
          | ((first | refine auNd ?_ | refine idx_nat (by omega) (fun x hx => ?_) | refine frz_auto ?_ | refine draw_plain ?_ | refine auIx (fun x hx => ?_)); conv => whnf)
        · rw [decide_eq_false (ne_atU hx hy h)]
        · subst h
          refine back_intro (by conv => whnf) rfl ⟨i + 1, rfl, rfl, by omega, take_nxU hs hx hy⟩ ?_
          show a.length - ((i : Int) + 1).toNat < a.length - (i : Int).toNat
          omega
      · skip
        repeat' first
          | ((first | refine auIk ?_ | refine auIi ?_ | refine auT ?_ | refine auF ?_ | with_reducible first | refine auKt ?_ | refine auKf ?_ | refine auNt ?_ | refine auNf ?_ | refine auEt ?_ | refine auEf ?_); conv => whnf)
          | ((with_reducible first | refine br_dec (fun h => ?_) (fun h => ?_) | refine br_ndec (fun h => ?_) (fun h => ?_) | refine br_ne (fun h => ?_) (fun h => ?_) | refine br_eq (fun h => ?_) (fun h => ?_)) <;> first | (exfalso; omega) | conv => whnf)
          | (refine br_intro (fun h => ?_) (fun h => ?_) <;> conv => whnf)
          | ((first | refine auNd ?_ | refine idx_nat (by omega) (fun x hx => ?_) | refine frz_auto ?_ | refine draw_plain ?_ | refine auIx (fun x hx => ?_)); conv => whnf)
        rw [decide_eq_true (take_alU hs (by omega) (by omega))]
    · have hne : a ≠ b := fun e => hlen (by rw [e])
      conv => whnf
      repeat' first
        | ((first | refine auT ?_ | refine auF ?_ | with_reducible first | refine auKt ?_ | refine auKf ?_ | refine auNt ?_ | refine auNf ?_ | refine auEt ?_ | refine auEf ?_); conv => whnf)
        | ((with_reducible first | refine br_dec (fun h => ?_) (fun h => ?_) | refine br_ndec (fun h => ?_) (fun h => ?_) | refine br_ne (fun h => ?_) (fun h => ?_) | refine br_eq (fun h => ?_) (fun h => ?_)) <;> first | (exfalso; omega) | conv => whnf)
        | (refine br_intro (fun h => ?_) (fun h => ?_) <;> conv => whnf)
        | ((first | refine auNd ?_ | refine idx_nat (by omega) (fun x hx => ?_) | refine frz_auto ?_ | refine draw_plain ?_ | refine auIx (fun x hx => ?_)); conv => whnf)
      rw [decide_eq_false hne]
  · cases h
/-! ### Shared runs: plain -/
/-- Whether two runs are one. -/
def mtB (r s : runT.El) : Bool := (r.1 == s.1) && sameL entT r.2.1 s.2.1
/-! ### The functions -/
theorem run_len {b : List entT.El} {rs : List runT.El} (h : (vcL b rs).2 = 0) {r : runT.El} (hr : r ∈ rs) : r.2.1.length ≤ 4611686018427387904 := by
  have := (clL_zero ((vcL_zero h).gr r hr)).1
  omega
end Go.Proofs.YtdbnohpolknbbaaGreat
namespace Go.Proofs.YtdbnohpolknbbaaGreat
open Av Bk

set_option maxRecDepth 100000 in
theorem fnOk_dShared : FnOk Tryz.prog 13 Tryz.f13 := ⟨by rfl, by kernel_rfl, by
  show okCode _ _ = true ∧ drawsOk _ = true
  exact ⟨by kernel_rfl, by kernel_rfl⟩⟩
set_option maxRecDepth 100000 in
theorem fnOk_dShared1 : FnOk Tryz.prog 37 Tryz.f37 := ⟨by rfl, by kernel_rfl, by
  show okCode _ _ = true ∧ drawsOk _ = true
  exact ⟨by kernel_rfl, by kernel_rfl⟩⟩
set_option maxRecDepth 100000 in
theorem fnOk_contRn : FnOk Tryz.prog 36 Tryz.f36 := ⟨by rfl, by kernel_rfl, by
  show okCode _ _ = true ∧ drawsOk _ = true
  exact ⟨by kernel_rfl, by kernel_rfl⟩⟩
set_option maxRecDepth 100000 in
theorem fnOk_idxRn : FnOk Tryz.prog 61 Tryz.f61 := ⟨by rfl, by kernel_rfl, by
  show okCode _ _ = true ∧ drawsOk _ = true
  exact ⟨by kernel_rfl, by kernel_rfl⟩⟩
set_option maxRecDepth 100000 in
theorem fnOk_slSrtU : FnOk Tryz.prog 39 Tryz.f39 := ⟨by rfl, by kernel_rfl, by
  show okCode _ _ = true ∧ drawsOk _ = true
  exact ⟨by kernel_rfl, by kernel_rfl⟩⟩
/-- The ids of the runs that others have too. -/
def shL (rs rs2 : List runT.El) : List Int := (rs.filter (fun r => rs2.any (mtB r))).map (fun r => r.1)
theorem shL_take {rs rs2 : List runT.El} {i : Nat} {r : runT.El} (hr : rs[i]? = some r) : shL (rs.take (i + 1)) rs2 = shL (rs.take i) rs2 ++ (if rs2.any (mtB r) = true then [r.1] else []) := by
  unfold shL
  rw [List.take_add_one, hr, List.filter_append, List.map_append]
  congr 1
  show (List.filter (fun r => rs2.any (mtB r)) [r]).map (fun r => r.1) = _
  rw [List.filter_cons]
  split <;> rfl
theorem shL_len (rs rs2 : List runT.El) : (shL rs rs2).length ≤ rs.length := by
  unfold shL
  rw [List.length_map]
  exact List.length_filter_le _ _
def dhR (b : List entT.El) (rs : List runT.El) (b2 : List entT.El) (rs2 : List runT.El) : List Int × Int := if dvE b rs b2 rs2 ≠ 0 then ([], dvE b rs b2 rs2) else (sortedI (shL rs rs2), 0)
def spSh : DSpec
  | [.agg [.lst (.st [.str, .str, .bool, .int .i64]) b, .lst (.st [.int .i64, .sl (.st [.str, .str, .bool, .int .i64])]) rs], .agg [.lst (.st [.str, .str, .bool, .int .i64]) b2, .lst (.st [.int .i64, .sl (.st [.str, .str, .bool, .int .i64])]) rs2]] => some (True, .tup [.lst (.int .i64) (dhR b rs b2 rs2).1, .int .i64 (dhR b rs b2 rs2).2])
  | _ => none
theorem sh_vs {g n m : Nat} {k : Int} (h : n = m) : [AV.own 3 g n, .int .i64 k] = [AV.own 3 g m, .int .i64 k] := by rw [h]
theorem sh_heap {a b c : AObj} {T : TypeId} {g : Nat} {l m : List Int} (h : l = m) : [a, b, c, .arr T (.int .i64) l false g] = [a, b, c, AObj.arr T (.int .i64) m false g] := by rw [h]
noncomputable def cxuq : Cx := ⟨tb, [(37, Tryz.f37), (36, Tryz.f36), (61, Tryz.f61)], [(30, spMp), (38, spSameE)]⟩
theorem specsuq : SpecsOk Tryz.prog cxuq.specs := .cons dMaps_ok (.cons eqEn_ok .nil)
theorem fnsuq : FnsOk Tryz.prog cxuq.fns := .cons fnOk_dShared1 (.cons fnOk_contRn (.cons fnOk_idxRn .nil))
set_option maxRecDepth 100000 in
theorem isortsU : ∀ f ∈ [39], SortIOk Tryz.prog f := by
  intro f hf
  rw [List.mem_singleton] at hf
  subst hf
  exact SortIOk.of sortI fnOk_slSrtU.enters
set_option maxRecDepth 100000 in
set_option maxHeartbeats 4000000 in
theorem dShared_ok : SpecOk Tryz.prog 13 spSh := by
  refine spec_body (C := cxuq) mixed tbOk specsuq (callY_ok (C := cxuq) mixed tbOk specsuq fnsuq isortsU SortsOk.nil 5) fnOk_dShared ?_
  intro ys p r h hp
  unfold spSh at h
  split at h
  · rename_i b rs b2 rs2
    cases h
    by_cases he : dvE b rs b2 rs2 = 0
    · have hm : mpR b rs b2 rs2 = (mV b rs, mV b2 rs2, 0) := by rw [mpR, if_neg (by simp [he])]
      have hme : (mpR b rs b2 rs2).2.2 = 0 := by rw [hm]
      have hlr := (vcL_zero (dv_zero he).1).lr
      have hlr2 := (vcL_zero (dv_zero he).2).lr
      conv => whnf
      repeat' first
        | ((first | refine auIk ?_ | refine auIi ?_ | refine auT ?_ | refine auF ?_ | with_reducible first | refine auKt ?_ | refine auKf ?_ | refine auNt ?_ | refine auNf ?_ | refine auEt ?_ | refine auEf ?_); conv => whnf)
        | ((with_reducible first | refine br_dec (fun h => ?_) (fun h => ?_) | refine br_ndec (fun h => ?_) (fun h => ?_) | refine br_ne (fun h => ?_) (fun h => ?_) | refine br_eq (fun h => ?_) (fun h => ?_)) <;> first | (exfalso; omega) | conv => whnf)
        | (refine br_intro (fun h => ?_) (fun h => ?_) <;> conv => whnf)
        | ((first | refine auNd ?_ | refine idx_nat (by omega) (fun x hx => ?_) | refine frz_auto ?_ | refine draw_plain ?_ | refine auIx (fun x hx => ?_)); conv => whnf)
      refine loop_inv [] [9, 25] (fun vs h => ∃ (i g : Nat), vs = [.own 3 g (shL (rs.take i) rs2).length, .int .i64 (i : Int)] ∧ h = [.cells 25 [.lst entT b, .lst runT rs], .cells 25 [.lst entT b2, .lst runT rs2], .arr 3 (.int .i64) [] false 0, .arr 3 (.int .i64) (shL (rs.take i) rs2) false g] ∧ i ≤ rs.length) (fun vs _ => match vs with | [_, .int _ k] => rs.length - k.toNat | _ => 0) ?_
      conv => whnf
      refine ⟨⟨0, 0, rfl, rfl, Nat.zero_le _⟩, ?_⟩
      rintro vs h' - ⟨i, g, rfl, rfl, hi⟩
      have hsl := shL_len (rs.take i) rs2
      have hsl2 : (shL (rs.take i) rs2).length ≤ 24 := by rw [List.length_take] at hsl; omega
      by_cases hil : i < rs.length
      · obtain ⟨r, hr⟩ : ∃ r, rs[i]? = some r := ⟨_, List.getElem?_eq_getElem hil⟩
        have hrl := run_len (dv_zero he).1 (List.mem_of_getElem? hr)
        conv => whnf
        repeat' first
          | ((first | refine auIk ?_ | refine auIi ?_ | refine auT ?_ | refine auF ?_ | with_reducible first | refine auKt ?_ | refine auKf ?_ | refine auNt ?_ | refine auNf ?_ | refine auEt ?_ | refine auEf ?_); conv => whnf)
          | ((with_reducible first | refine br_dec (fun h => ?_) (fun h => ?_) | refine br_ndec (fun h => ?_) (fun h => ?_) | refine br_ne (fun h => ?_) (fun h => ?_) | refine br_eq (fun h => ?_) (fun h => ?_)) <;> first | (exfalso; omega) | conv => whnf)
          | (refine br_intro (fun h => ?_) (fun h => ?_) <;> conv => whnf)
          | ((first | refine auNd ?_ | refine idx_nat (by omega) (fun x hx => ?_) | refine frz_auto ?_ | refine draw_plain ?_ | refine auIx (fun x hx => ?_)); conv => whnf)
        refine loop_inv [] [8] (fun vs h => ∃ k : Nat, vs = [.int .i64 (k : Int)] ∧ h = [.cells 25 [.lst entT b, .lst runT rs], .cells 25 [.lst entT b2, .lst runT rs2], .arr 3 (.int .i64) [] false 0, .arr 3 (.int .i64) (shL (rs.take i) rs2) false g, .cells 56 [.int .i64 r.1, .lst entT r.2.1]] ∧ k ≤ rs2.length ∧ ∀ s ∈ rs2.take k, mtB r s = false) (fun vs _ => match vs with | [.int _ k] => rs2.length - k.toNat | _ => 0) ?_
        conv => whnf
        refine ⟨⟨0, rfl, rfl, Nat.zero_le _, by simp⟩, ?_⟩
        rintro vs h' - ⟨k, rfl, rfl, hk, hall⟩
        have hst := shL_take (rs2 := rs2) hr
        by_cases hkl : k < rs2.length
        · obtain ⟨s, hs⟩ : ∃ s, rs2[k]? = some s := ⟨_, List.getElem?_eq_getElem hkl⟩
          have hmt : mtB r s = ((r.1 == s.1) && sameL entT r.2.1 s.2.1) := rfl
          have hnx : mtB r s = false → ∀ z ∈ rs2.take (k + 1), mtB r z = false := fun h z hz => by
            rw [List.take_add_one, hs] at hz
            rcases List.mem_append.1 hz with hz | hz
            · exact hall z hz
            · have : z = s := by simpa using hz
              rw [this]; exact h
          by_cases hid : r.1 = s.1
          · have hid2 : (r.1 == s.1) = true := by rw [hid]; exact beq_self_eq_true _
            rw [hid2, Bool.true_and] at hmt
            conv => whnf
            repeat' first
              | ((first | refine auIk ?_ | refine auIi ?_ | refine auT ?_ | refine auF ?_ | with_reducible first | refine auKt ?_ | refine auKf ?_ | refine auNt ?_ | refine auNf ?_ | refine auEt ?_ | refine auEf ?_); conv => whnf)
              | ((with_reducible first | refine br_dec (fun h => ?_) (fun h => ?_) | refine br_ndec (fun h => ?_) (fun h => ?_) | refine br_ne (fun h => ?_) (fun h => ?_) | refine br_eq (fun h => ?_) (fun h => ?_)) <;> first | (exfalso; omega) | conv => whnf)
              | (refine br_intro (fun h => ?_) (fun h => ?_) <;> conv => whnf)
              | ((first | refine auNd ?_ | refine idx_nat (by omega) (fun x hx => ?_) | refine frz_auto ?_ | refine draw_plain ?_ | refine auIx (fun x hx => ?_)); conv => whnf)
            · rename_i hse _
              have hany : rs2.any (mtB r) = true := List.any_eq_true.2 ⟨s, List.mem_of_getElem? hs, by rw [hmt]; first | exact hse | exact h | assumption⟩
              rw [hany, if_pos rfl] at hst
              refine back_intro (by conv => whnf) rfl ⟨i + 1, g + 1, sh_vs ?_, sh_heap ?_, by omega⟩ ?_
              · rw [hst, List.length_append]; rfl
              · rw [hst]; simp only [cast_self, List.take_length]; rfl
              · show rs.length - ((i : Int) + 1).toNat < rs.length - (i : Int).toNat
                omega
            · refine back_intro (by conv => whnf) rfl ⟨k + 1, rfl, rfl, by omega, hnx (hmt.trans (by first | exact h | assumption))⟩ ?_
              show rs2.length - ((k : Int) + 1).toNat < rs2.length - (k : Int).toNat
              omega
          · have hid2 : (r.1 == s.1) = false := beq_eq_false_iff_ne.2 hid
            rw [hid2, Bool.false_and] at hmt
            conv => whnf
            repeat' first
              | ((first | refine auIk ?_ | refine auIi ?_ | refine auT ?_ | refine auF ?_ | with_reducible first | refine auKt ?_ | refine auKf ?_ | refine auNt ?_ | refine auNf ?_ | refine auEt ?_ | refine auEf ?_); conv => whnf)
              | ((with_reducible first | refine br_dec (fun h => ?_) (fun h => ?_) | refine br_ndec (fun h => ?_) (fun h => ?_) | refine br_ne (fun h => ?_) (fun h => ?_) | refine br_eq (fun h => ?_) (fun h => ?_)) <;> first | (exfalso; omega) | conv => whnf)
              | (refine br_intro (fun h => ?_) (fun h => ?_) <;> conv => whnf)
              | ((first | refine auNd ?_ | refine idx_nat (by omega) (fun x hx => ?_) | refine frz_auto ?_ | refine draw_plain ?_ | refine auIx (fun x hx => ?_)); conv => whnf)
            refine back_intro (by conv => whnf) rfl ⟨k + 1, rfl, rfl, by omega, hnx hmt⟩ ?_
            show rs2.length - ((k : Int) + 1).toNat < rs2.length - (k : Int).toNat
            omega
        · have hany : rs2.any (mtB r) = false := by
            rw [List.any_eq_false]
            intro z hz
            rw [hall z (by rw [List.take_of_length_le (by omega)]; exact hz)]
            decide
          rw [hany, if_neg (by decide), List.append_nil] at hst
          conv => whnf
          repeat' first
            | ((first | refine auIk ?_ | refine auIi ?_ | refine auT ?_ | refine auF ?_ | with_reducible first | refine auKt ?_ | refine auKf ?_ | refine auNt ?_ | refine auNf ?_ | refine auEt ?_ | refine auEf ?_); conv => whnf)
            | ((with_reducible first | refine br_dec (fun h => ?_) (fun h => ?_) | refine br_ndec (fun h => ?_) (fun h => ?_) | refine br_ne (fun h => ?_) (fun h => ?_) | refine br_eq (fun h => ?_) (fun h => ?_)) <;> first | (exfalso; omega) | conv => whnf)
            | (refine br_intro (fun h => ?_) (fun h => ?_) <;> conv => whnf)
            | ((first | refine auNd ?_ | refine idx_nat (by omega) (fun x hx => ?_) | refine frz_auto ?_ | refine draw_plain ?_ | refine auIx (fun x hx => ?_)); conv => whnf)
          refine back_intro (by conv => whnf) rfl ⟨i + 1, g, sh_vs (by rw [hst]), sh_heap hst.symm, by omega⟩ ?_
          show rs.length - ((i : Int) + 1).toNat < rs.length - (i : Int).toNat
          omega
      · have hz := sortedI_len (shL (rs.take i) rs2)
        conv => whnf
        repeat' first
          | ((first | refine auIk ?_ | refine auIi ?_ | refine auT ?_ | refine auF ?_ | with_reducible first | refine auKt ?_ | refine auKf ?_ | refine auNt ?_ | refine auNf ?_ | refine auEt ?_ | refine auEf ?_); conv => whnf)
          | ((with_reducible first | refine br_dec (fun h => ?_) (fun h => ?_) | refine br_ndec (fun h => ?_) (fun h => ?_) | refine br_ne (fun h => ?_) (fun h => ?_) | refine br_eq (fun h => ?_) (fun h => ?_)) <;> first | (exfalso; omega) | conv => whnf)
          | (refine br_intro (fun h => ?_) (fun h => ?_) <;> conv => whnf)
          | ((first | refine auNd ?_ | refine idx_nat (by omega) (fun x hx => ?_) | refine frz_auto ?_ | refine draw_plain ?_ | refine auIx (fun x hx => ?_)); conv => whnf)
        rw [dhR, if_neg (by simp [he])]
        rw [List.take_of_length_le (l := sortedI _) (by omega), List.take_of_length_le (by omega)]
    · have hm : mpR b rs b2 rs2 = ([], [], dvE b rs b2 rs2) := by rw [mpR, if_pos he]
      have hme : ¬ (mpR b rs b2 rs2).2.2 = 0 := by rw [hm]; exact he
      conv => whnf
      repeat' first
        | ((first | refine auIk ?_ | refine auIi ?_ | refine auT ?_ | refine auF ?_ | with_reducible first | refine auKt ?_ | refine auKf ?_ | refine auNt ?_ | refine auNf ?_ | refine auEt ?_ | refine auEf ?_); conv => whnf)
        | ((with_reducible first | refine br_dec (fun h => ?_) (fun h => ?_) | refine br_ndec (fun h => ?_) (fun h => ?_) | refine br_ne (fun h => ?_) (fun h => ?_) | refine br_eq (fun h => ?_) (fun h => ?_)) <;> first | (exfalso; omega) | conv => whnf)
        | (refine br_intro (fun h => ?_) (fun h => ?_) <;> conv => whnf)
        | ((first | refine auNd ?_ | refine idx_nat (by omega) (fun x hx => ?_) | refine frz_auto ?_ | refine draw_plain ?_ | refine auIx (fun x hx => ?_)); conv => whnf)
      rw [dhR, if_pos he, hm]
      rfl
  · cases h
end Go.Proofs.YtdbnohpolknbbaaGreat
namespace Go.Proofs.YtdbnohpolknbbaaGreat
open Av Bk

/-! ### Lists that ascend -/
/-- The items of a key. -/
abbrev atK (l : List itemT.El) (k : ByteArray) : List itemT.El := l.filter (fun x => sEq x.2.1 k)
/-! ### Differences by key -/
theorem diff_lb : ∀ {X Y : List pairT.El} {k : ByteArray}, (∀ p ∈ X, sLt k p.1 = true) → (∀ p ∈ Y, sLt k p.1 = true) → ∀ z ∈ diffL X Y, sLt k z.2.1 = true
  | [], Y, k, _, hY => by
    intro z hz
    obtain ⟨y, hy, rfl⟩ := List.mem_map.1 (show z ∈ Y.map newI from hz)
    exact hY y hy
  | x :: X, Y, k, hX, hY => by
    have hx := hX x List.mem_cons_self
    have hX2 : ∀ p ∈ X, sLt k p.1 = true := fun p hp => hX p (List.mem_cons_of_mem _ hp)
    induction Y with
    | nil =>
      intro z hz
      rw [diffL_cons_nil] at hz
      rcases List.mem_cons.1 hz with rfl | hz
      · exact hx
      · exact diff_lb hX2 (by simp) z hz
    | cons y Y ih =>
      have hy := hY y List.mem_cons_self
      have hY2 : ∀ p ∈ Y, sLt k p.1 = true := fun p hp => hY p (List.mem_cons_of_mem _ hp)
      intro z hz
      by_cases h1 : sLt x.1 y.1 = true
      · rw [diffL_lt _ _ h1] at hz
        rcases List.mem_cons.1 hz with rfl | hz
        · exact hx
        · exact diff_lb hX2 hY z hz
      · have h1 : sLt x.1 y.1 = false := by simpa using h1
        by_cases h2 : sLt y.1 x.1 = true
        · rw [diffL_gt _ _ h2] at hz
          rcases List.mem_cons.1 hz with rfl | hz
          · exact hy
          · exact ih hY2 z hz
        · have h2 : sLt y.1 x.1 = false := by simpa using h2
          by_cases h3 : sEq x.2.1 y.2.1 = true
          · rw [diffL_eq _ _ h1 h2 h3] at hz
            exact diff_lb hX2 hY2 z hz
          · have h3 : sEq x.2.1 y.2.1 = false := by simpa using h3
            rw [diffL_ne _ _ h1 h2 h3] at hz
            rcases List.mem_cons.1 hz with rfl | hz
            · exact hx
            · exact diff_lb hX2 hY2 z hz
theorem lk_gt {m : List pairT.El} {k : ByteArray} (h : ∀ p ∈ m, sLt k p.1 = true) : lkV m k = none := lkV_none.2 (fun p hp => (sLt_ne (h p hp)).symm)
theorem at_cons (x : itemT.El) (l : List itemT.El) (k : ByteArray) : atK (x :: l) k = if x.2.1 = k then x :: atK l k else atK l k := by
  by_cases h : x.2.1 = k
  · rw [if_pos h]
    exact List.filter_cons_of_pos (by rw [sEq_iff]; exact h)
  · rw [if_neg h]
    exact List.filter_cons_of_neg (by rw [sEq_iff]; exact h)
/-- Differences ascend; of each key there is what both tables say. -/
theorem diff_spec : ∀ {X Y : List pairT.El}, ascP X → ascP Y → ascK itK (diffL X Y) ∧ ∀ k, atK (diffL X Y) k = dfI k (lkV X k) (lkV Y k)
  | [], Y, _, hY => by
    induction Y with
    | nil => exact ⟨List.Pairwise.nil, fun k => rfl⟩
    | cons y Y ih =>
      obtain ⟨hy, hY2⟩ := List.pairwise_cons.1 hY
      obtain ⟨h1, h2⟩ := ih hY2
      rw [diffL_nil_cons]
      refine ⟨List.pairwise_cons.2 ⟨fun z hz => diff_lb (by simp) hy z hz, h1⟩, fun k => ?_⟩
      rw [at_cons, h2, lkV_cons]
      by_cases hk : y.1 = k
      · rw [if_pos (show (newI y).2.1 = k from hk), if_pos hk, lk_gt (m := Y) (fun p hp => by rw [← hk]; exact hy p hp)]
        subst hk
        rfl
      · rw [if_neg (show ¬ (newI y).2.1 = k from hk), if_neg hk]
  | x :: X, Y, hX, hY => by
    obtain ⟨hx, hX2⟩ := List.pairwise_cons.1 hX
    induction Y with
    | nil =>
      obtain ⟨h1, h2⟩ := diff_spec hX2 (Y := []) List.Pairwise.nil
      rw [diffL_cons_nil]
      refine ⟨List.pairwise_cons.2 ⟨fun z hz => diff_lb hx (by simp) z hz, h1⟩, fun k => ?_⟩
      rw [at_cons, h2, lkV_cons]
      by_cases hk : x.1 = k
      · rw [if_pos (show (goneI x).2.1 = k from hk), if_pos hk, lk_gt (m := X) (fun p hp => by rw [← hk]; exact hx p hp)]
        subst hk
        rfl
      · rw [if_neg (show ¬ (goneI x).2.1 = k from hk), if_neg hk]
    | cons y Y ih =>
      obtain ⟨hy, hY2⟩ := List.pairwise_cons.1 hY
      by_cases c1 : sLt x.1 y.1 = true
      · obtain ⟨h1, h2⟩ := diff_spec hX2 hY
        have hxY : ∀ p ∈ y :: Y, sLt x.1 p.1 = true := fun p hp => by
          rcases List.mem_cons.1 hp with rfl | hp
          · exact c1
          · exact sLt_trans c1 (hy p hp)
        rw [diffL_lt _ _ c1]
        refine ⟨List.pairwise_cons.2 ⟨fun z hz => diff_lb hx hxY z hz, h1⟩, fun k => ?_⟩
        rw [at_cons, h2, lkV_cons x X]
        by_cases hk : x.1 = k
        · rw [if_pos (show (goneI x).2.1 = k from hk), if_pos hk, lk_gt (m := X) (fun p hp => by rw [← hk]; exact hx p hp), lk_gt (m := y :: Y) (fun p hp => by rw [← hk]; exact hxY p hp)]
          subst hk
          rfl
        · rw [if_neg (show ¬ (goneI x).2.1 = k from hk), if_neg hk]
      · have c1 : sLt x.1 y.1 = false := by simpa using c1
        by_cases c2 : sLt y.1 x.1 = true
        · obtain ⟨h1, h2⟩ := ih hY2
          have hyX : ∀ p ∈ x :: X, sLt y.1 p.1 = true := fun p hp => by
            rcases List.mem_cons.1 hp with rfl | hp
            · exact c2
            · exact sLt_trans c2 (hx p hp)
          rw [diffL_gt _ _ c2]
          refine ⟨List.pairwise_cons.2 ⟨fun z hz => diff_lb hyX hy z hz, h1⟩, fun k => ?_⟩
          rw [at_cons, h2, lkV_cons y Y]
          by_cases hk : y.1 = k
          · rw [if_pos (show (newI y).2.1 = k from hk), if_pos hk, lk_gt (m := Y) (fun p hp => by rw [← hk]; exact hy p hp), lk_gt (m := x :: X) (fun p hp => by rw [← hk]; exact hyX p hp)]
            subst hk
            rfl
          · rw [if_neg (show ¬ (newI y).2.1 = k from hk), if_neg hk]
        · have c2 : sLt y.1 x.1 = false := by simpa using c2
          have hxy : x.1 = y.1 := sLt_ext c1 c2
          obtain ⟨h1, h2⟩ := diff_spec hX2 hY2
          have hyx : ∀ p ∈ Y, sLt x.1 p.1 = true := fun p hp => by rw [hxy]; exact hy p hp
          by_cases c3 : sEq x.2.1 y.2.1 = true
          · rw [diffL_eq _ _ c1 c2 c3]
            refine ⟨h1, fun k => ?_⟩
            rw [h2, lkV_cons, lkV_cons]
            by_cases hk : x.1 = k
            · rw [if_pos hk, if_pos (hxy.symm.trans hk), lk_gt (m := X) (fun p hp => by rw [← hk]; exact hx p hp), lk_gt (m := Y) (fun p hp => by rw [← hk]; exact hyx p hp), sEq_iff.1 c3]
              unfold dfI
              rw [if_pos rfl, if_pos rfl]
            · rw [if_neg hk, if_neg (fun e => hk (hxy.trans e))]
          · have c3 : sEq x.2.1 y.2.1 = false := by simpa using c3
            rw [diffL_ne _ _ c1 c2 c3]
            refine ⟨List.pairwise_cons.2 ⟨fun z hz => diff_lb hx hyx z hz, h1⟩, fun k => ?_⟩
            rw [at_cons, h2, lkV_cons, lkV_cons]
            by_cases hk : x.1 = k
            · rw [if_pos (show (otherI x y).2.1 = k from hk), if_pos hk, if_pos (hxy.symm.trans hk), lk_gt (m := X) (fun p hp => by rw [← hk]; exact hx p hp), lk_gt (m := Y) (fun p hp => by rw [← hk]; exact hyx p hp)]
              subst hk
              have hne := sEq_no.1 c3
              unfold dfI
              rw [if_pos rfl, if_neg (by simpa using hne)]
              rfl
            · rw [if_neg (show ¬ (otherI x y).2.1 = k from hk), if_neg hk, if_neg (fun e => hk (hxy.trans e))]
end Go.Proofs.YtdbnohpolknbbaaGreat
namespace Go.Proofs.YtdbnohpolknbbaaGreat
open Av Bk

/-! ### The maps of views -/
theorem far_lenU : ∀ {rs : List runT.El} {n : Int}, 0 ≤ n → n ≤ 100 → farGo n rs = false → n + ((rs.map (fun r => r.2.1)).flatten.length : Int) ≤ 100
  | [], n, _, h, _ => by simpa using h
  | r :: rs, n, h0, h, hf => by
    rw [farGo] at hf
    rw [List.map_cons, List.flatten_cons, List.length_append]
    by_cases h2 : 200 < (r.2.1.length : Int)
    · rw [if_pos h2] at hf
      by_cases h1 : 100 < n + 200
      · rw [if_pos h1] at hf; cases hf
      · rw [if_neg h1] at hf
        split at hf
        · cases hf
        · have := far_lenU (by omega) (by omega) hf
          omega
    · rw [if_neg h2] at hf
      by_cases h1 : 100 < n + (r.2.1.length : Int)
      · rw [if_pos h1] at hf; cases hf
      · rw [if_neg h1] at hf
        split at hf
        · cases hf
        · have := far_lenU (by omega) (by omega) hf
          omega
theorem far_alU {b : List entT.El} {rs : List runT.El} (h : farB b rs = false) : (allE b rs).length ≤ 100 := by
  unfold farB at h
  split at h
  · cases h
  · split at h
    · cases h
    · rename_i h1 _
      have := far_lenU (by omega) (by omega) h
      show (b :: rs.map (fun r => r.2.1)).flatten.length ≤ 100
      rw [List.flatten_cons, List.length_append]
      omega
theorem map_szU {b : List entT.El} {rs : List runT.El} (h : GoodV b rs) {p : pairT.El} (hp : p ∈ mapL (allE b rs)) : (p.1.size : Int) ≤ 32 ∧ (p.2.1.size : Int) ≤ 64 := by
  obtain ⟨x, hx, hk, _, hv⟩ := getM_mem ((mapL_mem _ p).1 hp)
  have he := all_err h hx
  rw [← hk, ← hv]
  simp only [errX, errE] at he
  by_cases h1 : 32 < (x.1.size : Int)
  · simp [h1] at he
  · by_cases h2 : 64 < (x.2.1.size : Int)
    · simp [h2] at he
    · omega
theorem prE_zero {p : pairT.El} (h1 : (p.1.size : Int) ≤ 32) (h2 : (p.2.1.size : Int) ≤ 64) : prE p = 0 := by
  unfold prE
  exact if_neg (by omega)
theorem mcL_good {l : List pairT.El} (hl : l.length ≤ 4000) (h : ∀ p ∈ l, prE p = 0) (ha : ascP l) : mcL l = (0, 0) := by
  unfold mcL
  rw [if_neg (by omega)]
  exact ckGo_good h ha (fun x _ => rfl)
theorem mV_good {b : List entT.El} {rs : List runT.El} (h : (vcL b rs).2 = 0) (hf : farB b rs = false) : mcL (mV b rs) = (0, 0) := by
  refine mcL_good ?_ (fun p hp => ?_) (mapL_asc _)
  · have h1 := mapL_len (allE b rs)
    have h2 := far_alU hf
    show (mapL (allE b rs)).length ≤ 4000
    omega
  · obtain ⟨h1, h2⟩ := map_szU (vcL_zero h) hp
    exact prE_zero h1 h2
theorem dvR_good {b : List entT.El} {rs : List runT.El} {b2 : List entT.El} {rs2 : List runT.El} (h1 : (vcL b rs).2 = 0) (h2 : (vcL b2 rs2).2 = 0) (f1 : farB b rs = false) (f2 : farB b2 rs2 = false) : dvR b rs b2 rs2 = (diffL (mV b rs) (mV b2 rs2), 0) := by
  unfold dvR
  rw [if_neg (by simp [dv_good h1 h2])]
  unfold dfR
  rw [if_neg (by rw [mV_good h1 f1]; decide), if_neg (by rw [mV_good h2 f2]; decide)]
theorem dvR_bad {b : List entT.El} {rs : List runT.El} {b2 : List entT.El} {rs2 : List runT.El} (h : dvE b rs b2 rs2 ≠ 0) : dvR b rs b2 rs2 = ([], dvE b rs b2 rs2) := by
  unfold dvR
  rw [if_pos h]
theorem dfR_len (a b : List pairT.El) : (dfR a b).1.length ≤ 8000 := by
  unfold dfR
  split
  · simp
  · rename_i h1
    split
    · simp
    · rename_i h2
      have h3 := diffL_len a b
      have h4 := mcL_len (by simpa using h1)
      have h5 := mcL_len (by simpa using h2)
      show (diffL a b).length ≤ 8000
      omega
theorem dvR_len (b : List entT.El) (rs : List runT.El) (b2 : List entT.El) (rs2 : List runT.El) : (dvR b rs b2 rs2).1.length ≤ 8000 := by
  unfold dvR
  split
  · simp
  · exact dfR_len _ _
/-! ### Items of a difference -/
theorem diff_mem {X Y : List pairT.El} (hX : ascP X) (hY : ascP Y) {x : itemT.El} (h : x ∈ diffL X Y) : x ∈ dfI x.2.1 (lkV X x.2.1) (lkV Y x.2.1) := by
  rw [← (diff_spec hX hY).2]
  exact List.mem_filter.2 ⟨h, by rw [sEq_iff]⟩
theorem dfI_eq {k : ByteArray} {a b : Option ByteArray} {x : itemT.El} (h : x ∈ dfI k a b) : a ≠ b ∧ x = mkI (if a = none then 1 else if b = none then 2 else 3) k (a.getD ⟨#[]⟩) (b.getD ⟨#[]⟩) ∧ bfO x = a ∧ afO x = b := by
  unfold dfI at h
  split at h
  · cases h
  · rename_i hne
    have hx := List.mem_singleton.1 h
    refine ⟨hne, hx, ?_⟩
    subst hx
    cases a with
    | none =>
      cases b with
      | none => exact absurd rfl hne
      | some w => exact ⟨bf_1, af_1⟩
    | some v =>
      cases b with
      | none => exact ⟨bf_2, af_2⟩
      | some w => exact ⟨bf_3, af_3⟩
theorem diff_self {X : List pairT.El} (hX : ascP X) : diffL X X = [] := by
  cases h : diffL X X with
  | nil => rfl
  | cons x l =>
    have := (dfI_eq (diff_mem hX hX (x := x) (by rw [h]; exact List.mem_cons_self))).1
    exact absurd rfl this
theorem diff_nil {X Y : List pairT.El} (hX : ascP X) (hY : ascP Y) : diffL X Y = [] ↔ X = Y := by
  constructor
  · intro h
    refine tab_ext hX hY (fun k => ?_)
    have h1 := (diff_spec hX hY).2 k
    rw [h] at h1
    unfold dfI at h1
    split at h1
    · assumption
    · cases h1
  · rintro rfl
    exact diff_self hX
theorem itE_good {k : Int} {a b c : ByteArray} (hk : 1 ≤ k ∧ k ≤ 3) (h1 : (a.size : Int) ≤ 32) (h2 : (b.size : Int) ≤ 64) (h3 : (c.size : Int) ≤ 64) (h4 : k = 1 → b = ⟨#[]⟩) (h5 : k = 2 → c = ⟨#[]⟩) (h6 : k = 3 → b ≠ c) : itE (mkI k a b c) = 0 := by
  have e1 : ¬ (k < 1 ∨ 3 < k) := by omega
  have e2 : ¬ (32 < (a.size : Int) ∨ 64 < (b.size : Int) ∨ 64 < (c.size : Int)) := by omega
  have e3 : ¬ ((k = 1 ∧ sEq b ⟨#[]⟩ = false) ∨ (k = 2 ∧ sEq c ⟨#[]⟩ = false) ∨ (k = 3 ∧ sEq b c = true)) := by
    rintro (⟨h, e⟩ | ⟨h, e⟩ | ⟨h, e⟩)
    · exact sEq_no.1 e (h4 h)
    · exact sEq_no.1 e (h5 h)
    · exact h6 h (sEq_iff.1 e)
  have : itE (mkI k a b c) = if k < 1 ∨ 3 < k then 6 else if 32 < (a.size : Int) ∨ 64 < (b.size : Int) ∨ 64 < (c.size : Int) then 3 else if (k = 1 ∧ sEq b ⟨#[]⟩ = false) ∨ (k = 2 ∧ sEq c ⟨#[]⟩ = false) ∨ (k = 3 ∧ sEq b c = true) then 6 else 0 := rfl
  rw [this, if_neg e1, if_neg e2, if_neg e3]
theorem lk_sz {X : List pairT.El} (h : ∀ p ∈ X, prE p = 0) {k v : ByteArray} (hv : lkV X k = some v) : (k.size : Int) ≤ 32 ∧ (v.size : Int) ≤ 64 := by
  have := h _ (lkV_in hv)
  by_cases h1 : 32 < (k.size : Int) ∨ 64 < (v.size : Int)
  · have h2 : prE (mkP k v) = 3 := if_pos h1
    rw [h2] at this
    exact absurd this (by decide)
  · omega
theorem diff_good {X Y : List pairT.El} (hX : (mcL X).2 = 0) (hY : (mcL Y).2 = 0) : icL (diffL X Y) = (0, 0) := by
  obtain ⟨x1, x2, x3⟩ := mcL_zero hX
  obtain ⟨y1, y2, y3⟩ := mcL_zero hY
  have hl := diffL_len X Y
  unfold icL
  rw [if_neg (by omega)]
  refine ckGo_good (fun x hx => ?_) (diff_spec x3 y3).1 (fun x _ => rfl)
  obtain ⟨hne, he, _⟩ := dfI_eq (diff_mem x3 y3 hx)
  rw [he]
  cases ha : lkV X x.2.1 with
  | none =>
    cases hb : lkV Y x.2.1 with
    | none => rw [ha, hb] at hne; exact absurd rfl hne
    | some w =>
      obtain ⟨s1, s2⟩ := lk_sz y2 hb
      show itE (mkI 1 x.2.1 ⟨#[]⟩ w) = 0
      exact itE_good (by decide) s1 (by decide) s2 (fun _ => rfl) (fun e => absurd e (by decide)) (fun e => absurd e (by decide))
  | some v =>
    obtain ⟨s1, s2⟩ := lk_sz x2 ha
    cases hb : lkV Y x.2.1 with
    | none =>
      show itE (mkI 2 x.2.1 v ⟨#[]⟩) = 0
      exact itE_good (by decide) s1 s2 (by decide) (fun e => absurd e (by decide)) (fun _ => rfl) (fun e => absurd e (by decide))
    | some w =>
      obtain ⟨s3, s4⟩ := lk_sz y2 hb
      show itE (mkI 3 x.2.1 v w) = 0
      exact itE_good (by decide) s1 s2 s4 (fun e => absurd e (by decide)) (fun e => absurd e (by decide)) (fun _ e => hne (by rw [ha, hb]; exact congrArg some e))
theorem find_at {l : List itemT.El} {k : ByteArray} : l.find? (fun x => sEq x.2.1 k) = (atK l k).head? := by
  rw [List.head?_filter]
end Go.Proofs.YtdbnohpolknbbaaGreat
namespace Go.Proofs.YtdbnohpolknbbaaGreat
open Av Bk

theorem mt_refl (r : runT.El) : mtB r r = true := by
  show ((r.1 == r.1) && sameL entT r.2.1 r.2.1) = true
  rw [same_refl, beq_self_eq_true]
  rfl
theorem sh_self (rs : List runT.El) : (sortedI (shL rs rs)).length = rs.length := by
  rw [sortedI_len]
  unfold shL
  rw [List.length_map, List.filter_eq_self.2 (fun r hr => List.any_eq_true.2 ⟨r, hr, mt_refl r⟩)]
theorem eqIt_refl (x : itemT.El) : eqT itemT x x = true := by
  show ((x.1 == x.1) && (sEq x.2.1 x.2.1 && (sEq x.2.2.1 x.2.2.1 && sEq x.2.2.2.1 x.2.2.2.1))) = true
  rw [sEq_refl, sEq_refl, sEq_refl, beq_self_eq_true]
  rfl
theorem sameI_refl : ∀ l : List itemT.El, sameL itemT l l = true
  | [] => rfl
  | x :: l => by
    rw [sameL, sameI_refl l, eqIt_refl]
    rfl
/-- Same, by the code and by the reference. -/
theorem sv_eq {b : List entT.El} {rs : List runT.El} {b2 : List entT.El} {rs2 : List runT.El} (f1 : farB b rs = false) (f2 : farB b2 rs2 = false) : svR b rs b2 rs2 = (decide ((dvR b rs b2 rs2).2 = 0) && decide ((dvR b rs b2 rs2).1.length = 0)) ∧ dvE b rs b2 rs2 = (dvR b rs b2 rs2).2 := by
  by_cases h : dvE b rs b2 rs2 = 0
  · obtain ⟨h1, h2⟩ := dv_zero h
    rw [dvR_good h1 h2 f1 f2, h]
    refine ⟨?_, rfl⟩
    unfold svR
    rw [h, decide_eq_true rfl, Bool.true_and, Bool.true_and, Bool.eq_iff_iff, sameP_iff, decide_eq_true_iff, List.length_eq_zero_iff, diff_nil (mapL_asc _) (mapL_asc _)]
  · rw [dvR_bad h]
    refine ⟨?_, rfl⟩
    unfold svR
    rw [decide_eq_false h]
    rfl
end Go.Proofs.YtdbnohpolknbbaaGreat
