/-
  Differences of two views: their maps, Diff and Same by the code.
  Views: what the reference says of two: Diff, Same, Shared.
  Views: the runs that two have in common, by the code.
  Differences of tables, by key. Plain Lean.
  What the laws of differences need. Plain Lean.
  The runs that views have in common. Plain Lean.
  slices.Insert at pairs: the roads of its text, by the walk.
-/
import Derived.Test.YtdbnohpolknbbaaGreatUg
import Derived.Test.YtdbnohpolknbbaaGreatLn
import Derived.Test.YtdbnohpolknbbaaGreatE3
import Derived.Test.YtdbnohpolknbbaaGreatSo4
import Derived.Shelf.Spec.SlicesInsertGrow
namespace Go.Proofs.YtdbnohpolknbbaaGreat
open Av Bk

/-- The error of two views. -/
def dvE (b : List entT.El) (rs : List runT.El) (b2 : List entT.El) (rs2 : List runT.El) : Int := if (vcL b rs).2 ≠ 0 then (vcL b rs).2 else (vcL b2 rs2).2
abbrev mV (b : List entT.El) (rs : List runT.El) : List pairT.El := mapL (allE b rs)
theorem dv_zero {b : List entT.El} {rs : List runT.El} {b2 : List entT.El} {rs2 : List runT.El} (h : dvE b rs b2 rs2 = 0) : (vcL b rs).2 = 0 ∧ (vcL b2 rs2).2 = 0 := by
  unfold dvE at h
  split at h
  · rename_i h1; exact absurd h h1
  · rename_i h1; exact ⟨by simpa using h1, h⟩
theorem dv_good {b : List entT.El} {rs : List runT.El} {b2 : List entT.El} {rs2 : List runT.El} (h1 : (vcL b rs).2 = 0) (h2 : (vcL b2 rs2).2 = 0) : dvE b rs b2 rs2 = 0 := by
  unfold dvE
  rw [if_neg (by simp [h1]), h2]
/-- What maps answers. -/
def mpR (b : List entT.El) (rs : List runT.El) (b2 : List entT.El) (rs2 : List runT.El) : List pairT.El × List pairT.El × Int := if dvE b rs b2 rs2 ≠ 0 then ([], [], dvE b rs b2 rs2) else (mV b rs, mV b2 rs2, 0)
def spMp : DSpec
  | [.agg [.lst (.st [.str, .str, .bool, .int .i64]) b, .lst (.st [.int .i64, .sl (.st [.str, .str, .bool, .int .i64])]) rs], .agg [.lst (.st [.str, .str, .bool, .int .i64]) b2, .lst (.st [.int .i64, .sl (.st [.str, .str, .bool, .int .i64])]) rs2]] => some (True, .tup [.lst pairT (mpR b rs b2 rs2).1, .lst pairT (mpR b rs b2 rs2).2.1, .int .i64 (mpR b rs b2 rs2).2.2])
  | _ => none
theorem lo_all (k : ByteArray) : sLt k ⟨#[]⟩ = false := by
  unfold sLt
  cases k.data.toList <;> rfl
theorem part_alU {b : List entT.El} {rs : List runT.El} (h : (vcL b rs).2 = 0) : partR b rs ⟨#[]⟩ ⟨#[]⟩ false = (mV b rs, 0) := by
  unfold partR
  rw [if_neg (by simp [h]), if_neg (by decide)]
  congr 1
  rw [List.filter_eq_self]
  intro p _
  unfold hasB
  rw [lo_all]
  rfl
theorem mV_len {b : List entT.El} {rs : List runT.El} (h : (vcL b rs).2 = 0) : (mV b rs).length ≤ 1000000000 := Nat.le_trans (mapL_len _) (all_len (vcL_zero h)).2
set_option maxRecDepth 100000 in
theorem fnOk_dMaps : FnOk Tryz.prog 30 Tryz.f30 := ⟨by rfl, by kernel_rfl, by
  show okCode _ _ = true ∧ drawsOk _ = true
  exact ⟨by kernel_rfl, by kernel_rfl⟩⟩
set_option maxRecDepth 100000 in
theorem fnOk_dDiff : FnOk Tryz.prog 9 Tryz.f9 := ⟨by rfl, by kernel_rfl, by
  show okCode _ _ = true ∧ drawsOk _ = true
  exact ⟨by kernel_rfl, by kernel_rfl⟩⟩
set_option maxRecDepth 100000 in
theorem fnOk_dSame : FnOk Tryz.prog 10 Tryz.f10 := ⟨by rfl, by kernel_rfl, by
  show okCode _ _ = true ∧ drawsOk _ = true
  exact ⟨by kernel_rfl, by kernel_rfl⟩⟩
noncomputable def cxun : Cx := ⟨tb, [], [(58, spVC), (59, spPart)]⟩
theorem specsun : SpecsOk Tryz.prog cxun.specs := .cons verC_ok (.cons lkPart_ok .nil)
set_option maxRecDepth 100000 in
set_option maxHeartbeats 4000000 in
theorem dMaps_ok : SpecOk Tryz.prog 30 spMp := by
  refine spec_body (C := cxun) mixed tbOk specsun (callN_ok (C := cxun) mixed tbOk specsun FnsOk.nil 0) fnOk_dMaps ?_
  intro ys p r h hp
  unfold spMp at h
  split at h
  · rename_i b rs b2 rs2
    cases h
    have q0 : ([(b, rs, ()), (b2, rs2, ())] : List viewT.El)[Int.toNat 0]? = some (b, rs, ()) := rfl
    have q1 : ([(b, rs, ()), (b2, rs2, ())] : List viewT.El)[Int.toNat (0 + 1)]? = some (b2, rs2, ()) := rfl
    by_cases h1 : (vcL b rs).2 = 0
    · by_cases h2 : (vcL b2 rs2).2 = 0
      · have hp1 := part_alU h1
        have hp2 := part_alU h2
        have hp1e : (partR b rs ⟨#[]⟩ ⟨#[]⟩ false).2 = 0 := by rw [hp1]
        have hm : mpR b rs b2 rs2 = ((partR b rs ⟨#[]⟩ ⟨#[]⟩ false).1, (partR b2 rs2 ⟨#[]⟩ ⟨#[]⟩ false).1, (partR b2 rs2 ⟨#[]⟩ ⟨#[]⟩ false).2) := by
          rw [mpR, if_neg (by simp [dv_good h1 h2]), hp1, hp2]
        conv => whnf
        repeat' first
          | ((first | refine auIk ?_ | refine auIi ?_ | refine auT ?_ | refine auF ?_ | with_reducible first | refine auKt ?_ | refine auKf ?_ | refine auNt ?_ | refine auNf ?_ | refine auEt ?_ | refine auEf ?_); conv => whnf)
          | ((with_reducible first | refine br_dec (fun h => ?_) (fun h => ?_) | refine br_ndec (fun h => ?_) (fun h => ?_) | refine br_ne (fun h => ?_) (fun h => ?_) | refine br_eq (fun h => ?_) (fun h => ?_)) <;> first | (exfalso; omega) | conv => whnf)
          | (refine br_intro (fun h => ?_) (fun h => ?_) <;> conv => whnf)
          | ((first | refine auNd ?_ | refine idx_nat (by omega) (fun x hx => ?_) | refine frz_auto ?_ | refine draw_plain ?_ | refine auIx (fun x hx => ?_)); conv => whnf)
        refine loop_turns 3 ?_
        conv => whnf
        repeat' first
          | ((first | refine auIk ?_ | refine auIi ?_ | refine auT ?_ | refine auF ?_ | with_reducible first | refine auKt ?_ | refine auKf ?_ | refine auNt ?_ | refine auNf ?_ | refine auEt ?_ | refine auEf ?_); conv => whnf)
          | ((with_reducible first | refine br_dec (fun h => ?_) (fun h => ?_) | refine br_ndec (fun h => ?_) (fun h => ?_) | refine br_ne (fun h => ?_) (fun h => ?_) | refine br_eq (fun h => ?_) (fun h => ?_)) <;> first | (exfalso; omega) | conv => whnf)
          | (refine br_intro (fun h => ?_) (fun h => ?_) <;> conv => whnf)
          | ((first | refine auNd ?_ | refine idx_nat (by omega) (fun x hx => ?_) | refine frz_auto ?_ | refine draw_plain ?_ | refine auIx (fun x hx => ?_)); conv => whnf)
        rw [hm]
      · have hm : mpR b rs b2 rs2 = ([], [], (vcL b2 rs2).2) := by
          have : dvE b rs b2 rs2 = (vcL b2 rs2).2 := by unfold dvE; rw [if_neg (by simp [h1])]
          rw [mpR, this, if_pos h2]
        conv => whnf
        repeat' first
          | ((first | refine auIk ?_ | refine auIi ?_ | refine auT ?_ | refine auF ?_ | with_reducible first | refine auKt ?_ | refine auKf ?_ | refine auNt ?_ | refine auNf ?_ | refine auEt ?_ | refine auEf ?_); conv => whnf)
          | ((with_reducible first | refine br_dec (fun h => ?_) (fun h => ?_) | refine br_ndec (fun h => ?_) (fun h => ?_) | refine br_ne (fun h => ?_) (fun h => ?_) | refine br_eq (fun h => ?_) (fun h => ?_)) <;> first | (exfalso; omega) | conv => whnf)
          | (refine br_intro (fun h => ?_) (fun h => ?_) <;> conv => whnf)
          | ((first | refine auNd ?_ | refine idx_nat (by omega) (fun x hx => ?_) | refine frz_auto ?_ | refine draw_plain ?_ | refine auIx (fun x hx => ?_)); conv => whnf)
        refine loop_turns 3 ?_
        conv => whnf
        repeat' first
          | ((first | refine auIk ?_ | refine auIi ?_ | refine auT ?_ | refine auF ?_ | with_reducible first | refine auKt ?_ | refine auKf ?_ | refine auNt ?_ | refine auNf ?_ | refine auEt ?_ | refine auEf ?_); conv => whnf)
          | ((with_reducible first | refine br_dec (fun h => ?_) (fun h => ?_) | refine br_ndec (fun h => ?_) (fun h => ?_) | refine br_ne (fun h => ?_) (fun h => ?_) | refine br_eq (fun h => ?_) (fun h => ?_)) <;> first | (exfalso; omega) | conv => whnf)
          | (refine br_intro (fun h => ?_) (fun h => ?_) <;> conv => whnf)
          | ((first | refine auNd ?_ | refine idx_nat (by omega) (fun x hx => ?_) | refine frz_auto ?_ | refine draw_plain ?_ | refine auIx (fun x hx => ?_)); conv => whnf)
        rw [hm]
        rfl
    · have hm : mpR b rs b2 rs2 = ([], [], (vcL b rs).2) := by
        have : dvE b rs b2 rs2 = (vcL b rs).2 := by unfold dvE; rw [if_pos h1]
        rw [mpR, this, if_pos h1]
      conv => whnf
      repeat' first
        | ((first | refine auIk ?_ | refine auIi ?_ | refine auT ?_ | refine auF ?_ | with_reducible first | refine auKt ?_ | refine auKf ?_ | refine auNt ?_ | refine auNf ?_ | refine auEt ?_ | refine auEf ?_); conv => whnf)
        | ((with_reducible first | refine br_dec (fun h => ?_) (fun h => ?_) | refine br_ndec (fun h => ?_) (fun h => ?_) | refine br_ne (fun h => ?_) (fun h => ?_) | refine br_eq (fun h => ?_) (fun h => ?_)) <;> first | (exfalso; omega) | conv => whnf)
        | (refine br_intro (fun h => ?_) (fun h => ?_) <;> conv => whnf)
        | ((first | refine auNd ?_ | refine idx_nat (by omega) (fun x hx => ?_) | refine frz_auto ?_ | refine draw_plain ?_ | refine auIx (fun x hx => ?_)); conv => whnf)
      refine loop_turns 3 ?_
      conv => whnf
      repeat' first
        | ((first | refine auIk ?_ | refine auIi ?_ | refine auT ?_ | refine auF ?_ | with_reducible first | refine auKt ?_ | refine auKf ?_ | refine auNt ?_ | refine auNf ?_ | refine auEt ?_ | refine auEf ?_); conv => whnf)
        | ((with_reducible first | refine br_dec (fun h => ?_) (fun h => ?_) | refine br_ndec (fun h => ?_) (fun h => ?_) | refine br_ne (fun h => ?_) (fun h => ?_) | refine br_eq (fun h => ?_) (fun h => ?_)) <;> first | (exfalso; omega) | conv => whnf)
        | (refine br_intro (fun h => ?_) (fun h => ?_) <;> conv => whnf)
        | ((first | refine auNd ?_ | refine idx_nat (by omega) (fun x hx => ?_) | refine frz_auto ?_ | refine draw_plain ?_ | refine auIx (fun x hx => ?_)); conv => whnf)
      rw [hm]
      rfl
  · cases h
/-- What Diff answers. -/
def dvR (b : List entT.El) (rs : List runT.El) (b2 : List entT.El) (rs2 : List runT.El) : List itemT.El × Int := if dvE b rs b2 rs2 ≠ 0 then ([], dvE b rs b2 rs2) else dfR (mV b rs) (mV b2 rs2)
def spDv : DSpec
  | [.agg [.lst (.st [.str, .str, .bool, .int .i64]) b, .lst (.st [.int .i64, .sl (.st [.str, .str, .bool, .int .i64])]) rs], .agg [.lst (.st [.str, .str, .bool, .int .i64]) b2, .lst (.st [.int .i64, .sl (.st [.str, .str, .bool, .int .i64])]) rs2]] => some (True, .tup [.lst itemT (dvR b rs b2 rs2).1, .int .i64 (dvR b rs b2 rs2).2])
  | _ => none
def svR (b : List entT.El) (rs : List runT.El) (b2 : List entT.El) (rs2 : List runT.El) : Bool := decide (dvE b rs b2 rs2 = 0) && sameL pairT (mV b rs) (mV b2 rs2)
def spSv : DSpec
  | [.agg [.lst (.st [.str, .str, .bool, .int .i64]) b, .lst (.st [.int .i64, .sl (.st [.str, .str, .bool, .int .i64])]) rs], .agg [.lst (.st [.str, .str, .bool, .int .i64]) b2, .lst (.st [.int .i64, .sl (.st [.str, .str, .bool, .int .i64])]) rs2]] => some (True, .tup [.bool (svR b rs b2 rs2), .int .i64 (dvE b rs b2 rs2)])
  | _ => none
noncomputable def cxun2 : Cx := ⟨tb, [], [(30, spMp), (31, spDiff), (32, spSameP)]⟩
theorem specsun2 : SpecsOk Tryz.prog cxun2.specs := .cons dMaps_ok (.cons mDiff_ok (.cons eqPr_ok .nil))
set_option maxRecDepth 100000 in
set_option maxHeartbeats 4000000 in
theorem dDiff_ok : SpecOk Tryz.prog 9 spDv := by
  refine spec_body (C := cxun2) mixed tbOk specsun2 (callN_ok (C := cxun2) mixed tbOk specsun2 FnsOk.nil 0) fnOk_dDiff ?_
  intro ys p r h hp
  unfold spDv at h
  split at h
  · rename_i b rs b2 rs2
    cases h
    by_cases he : dvE b rs b2 rs2 = 0
    · have hm : mpR b rs b2 rs2 = (mV b rs, mV b2 rs2, 0) := by rw [mpR, if_neg (by simp [he])]
      have hme : (mpR b rs b2 rs2).2.2 = 0 := by rw [hm]
      have hm1 : (mpR b rs b2 rs2).1.length ≤ 4611686018427387904 := by rw [hm]; have := mV_len (dv_zero he).1; show (mV b rs).length ≤ _; omega
      have hm2 : (mpR b rs b2 rs2).2.1.length ≤ 4611686018427387904 := by rw [hm]; have := mV_len (dv_zero he).2; show (mV b2 rs2).length ≤ _; omega
      conv => whnf
      repeat' first
        | ((first | refine auIk ?_ | refine auIi ?_ | refine auT ?_ | refine auF ?_ | with_reducible first | refine auKt ?_ | refine auKf ?_ | refine auNt ?_ | refine auNf ?_ | refine auEt ?_ | refine auEf ?_); conv => whnf)
        | ((with_reducible first | refine br_dec (fun h => ?_) (fun h => ?_) | refine br_ndec (fun h => ?_) (fun h => ?_) | refine br_ne (fun h => ?_) (fun h => ?_) | refine br_eq (fun h => ?_) (fun h => ?_)) <;> first | (exfalso; omega) | conv => whnf)
        | (refine br_intro (fun h => ?_) (fun h => ?_) <;> conv => whnf)
        | ((first | refine auNd ?_ | refine idx_nat (by omega) (fun x hx => ?_) | refine frz_auto ?_ | refine draw_plain ?_ | refine auIx (fun x hx => ?_)); conv => whnf)
      rw [dvR, if_neg (by simp [he]), hm]
    · have hm : mpR b rs b2 rs2 = ([], [], dvE b rs b2 rs2) := by rw [mpR, if_pos he]
      have hme : ¬ (mpR b rs b2 rs2).2.2 = 0 := by rw [hm]; exact he
      conv => whnf
      repeat' first
        | ((first | refine auIk ?_ | refine auIi ?_ | refine auT ?_ | refine auF ?_ | with_reducible first | refine auKt ?_ | refine auKf ?_ | refine auNt ?_ | refine auNf ?_ | refine auEt ?_ | refine auEf ?_); conv => whnf)
        | ((with_reducible first | refine br_dec (fun h => ?_) (fun h => ?_) | refine br_ndec (fun h => ?_) (fun h => ?_) | refine br_ne (fun h => ?_) (fun h => ?_) | refine br_eq (fun h => ?_) (fun h => ?_)) <;> first | (exfalso; omega) | conv => whnf)
        | (refine br_intro (fun h => ?_) (fun h => ?_) <;> conv => whnf)
        | ((first | refine auNd ?_ | refine idx_nat (by omega) (fun x hx => ?_) | refine frz_auto ?_ | refine draw_plain ?_ | refine auIx (fun x hx => ?_)); conv => whnf)
      rw [dvR, if_pos he, hm]
      rfl
  · cases h
set_option maxRecDepth 100000 in
set_option maxHeartbeats 4000000 in
theorem dSame_ok : SpecOk Tryz.prog 10 spSv := by
  refine spec_body (C := cxun2) mixed tbOk specsun2 (callN_ok (C := cxun2) mixed tbOk specsun2 FnsOk.nil 0) fnOk_dSame ?_
  intro ys p r h hp
  unfold spSv at h
  split at h
  · rename_i b rs b2 rs2
    cases h
    by_cases he : dvE b rs b2 rs2 = 0
    · have hm : mpR b rs b2 rs2 = (mV b rs, mV b2 rs2, 0) := by rw [mpR, if_neg (by simp [he])]
      have hme : (mpR b rs b2 rs2).2.2 = 0 := by rw [hm]
      have hm1 : (mpR b rs b2 rs2).1.length ≤ 4611686018427387904 := by rw [hm]; have := mV_len (dv_zero he).1; show (mV b rs).length ≤ _; omega
      conv => whnf
      repeat' first
        | ((first | refine auIk ?_ | refine auIi ?_ | refine auT ?_ | refine auF ?_ | with_reducible first | refine auKt ?_ | refine auKf ?_ | refine auNt ?_ | refine auNf ?_ | refine auEt ?_ | refine auEf ?_); conv => whnf)
        | ((with_reducible first | refine br_dec (fun h => ?_) (fun h => ?_) | refine br_ndec (fun h => ?_) (fun h => ?_) | refine br_ne (fun h => ?_) (fun h => ?_) | refine br_eq (fun h => ?_) (fun h => ?_)) <;> first | (exfalso; omega) | conv => whnf)
        | (refine br_intro (fun h => ?_) (fun h => ?_) <;> conv => whnf)
        | ((first | refine auNd ?_ | refine idx_nat (by omega) (fun x hx => ?_) | refine frz_auto ?_ | refine draw_plain ?_ | refine auIx (fun x hx => ?_)); conv => whnf)
      rw [svR, hm, he]
      rfl
    · have hm : mpR b rs b2 rs2 = ([], [], dvE b rs b2 rs2) := by rw [mpR, if_pos he]
      have hme : ¬ (mpR b rs b2 rs2).2.2 = 0 := by rw [hm]; exact he
      conv => whnf
      repeat' first
        | ((first | refine auIk ?_ | refine auIi ?_ | refine auT ?_ | refine auF ?_ | with_reducible first | refine auKt ?_ | refine auKf ?_ | refine auNt ?_ | refine auNf ?_ | refine auEt ?_ | refine auEf ?_); conv => whnf)
        | ((with_reducible first | refine br_dec (fun h => ?_) (fun h => ?_) | refine br_ndec (fun h => ?_) (fun h => ?_) | refine br_ne (fun h => ?_) (fun h => ?_) | refine br_eq (fun h => ?_) (fun h => ?_)) <;> first | (exfalso; omega) | conv => whnf)
        | (refine br_intro (fun h => ?_) (fun h => ?_) <;> conv => whnf)
        | ((first | refine auNd ?_ | refine idx_nat (by omega) (fun x hx => ?_) | refine frz_auto ?_ | refine draw_plain ?_ | refine auIx (fun x hx => ?_)); conv => whnf)
      rw [svR, hm, decide_eq_false he]
      rfl
  · cases h
end Go.Proofs.YtdbnohpolknbbaaGreat
namespace Go.Proofs.YtdbnohpolknbbaaGreat
open Av Bk

theorem take_nxU {α : Type} {a b : List α} {i : Nat} {x : α} (h : a.take i = b.take i) (ha : a[i]? = some x) (hb : b[i]? = some x) : a.take (i + 1) = b.take (i + 1) := by
  rw [List.take_add_one, List.take_add_one, h, ha, hb]
theorem take_alU {α : Type} {a b : List α} {i : Nat} (h : a.take i = b.take i) (ha : a.length ≤ i) (hb : b.length ≤ i) : a = b := by
  rwa [List.take_of_length_le ha, List.take_of_length_le hb] at h
theorem ne_atU {α : Type} {a b : List α} {i : Nat} {x y : α} (ha : a[i]? = some x) (hb : b[i]? = some y) (h : x ≠ y) : a ≠ b := by
  rintro rfl
  rw [ha] at hb
  cases hb
  exact h rfl
set_option maxRecDepth 100000 in
theorem fnOk_rInts : FnOk Tryz.prog 20 Tryz.f20 := ⟨by rfl, by kernel_rfl, by
  show okCode _ _ = true ∧ drawsOk _ = true
  exact ⟨by kernel_rfl, by kernel_rfl⟩⟩
def spInts : DSpec
  | [.lst (.int .i64) a, .lst (.int .i64) b] => some (a.length ≤ 4611686018427387904, .bool (decide (a = b)))
  | _ => none
set_option maxRecDepth 100000 in
set_option maxHeartbeats 2000000 in
theorem rInts_ok : SpecOk Tryz.prog 20 spInts := by
  refine spec_body (C := cx0) mixed tbOk SpecsOk.nil (callN_ok (C := cx0) mixed tbOk SpecsOk.nil FnsOk.nil 0) fnOk_rInts ?_
  intro ys p r h hp
  unfold spInts at h
  split at h
  · rename_i a b
    cases h
    by_cases hlen : a.length = b.length
    · conv => whnf
      repeat' first
        | ((first | refine auT ?_ | refine auF ?_ | with_reducible first | refine auKt ?_ | refine auKf ?_ | refine auNt ?_ | refine auNf ?_ | refine auEt ?_ | refine auEf ?_); conv => whnf)
        | ((with_reducible first | refine br_dec (fun h => ?_) (fun h => ?_) | refine br_ndec (fun h => ?_) (fun h => ?_) | refine br_ne (fun h => ?_) (fun h => ?_) | refine br_eq (fun h => ?_) (fun h => ?_)) <;> first | (exfalso; omega) | conv => whnf)
        | (refine br_intro (fun h => ?_) (fun h => ?_) <;> conv => whnf)
        | ((first | refine auNd ?_ | refine idx_nat (by omega) (fun x hx => ?_) | refine frz_auto ?_ | refine draw_plain ?_ | refine auIx (fun x hx => ?_)); conv => whnf)
      refine loop_inv [] [5] (fun vs h => ∃ i : Nat, vs = [.int .i64 (i : Int)] ∧ h = [] ∧ i ≤ a.length ∧ a.take i = b.take i) (fun vs _ => match vs with | [.int _ k] => a.length - k.toNat | _ => 0) ?_
      refine ⟨⟨0, rfl, rfl, Nat.zero_le _, rfl⟩, ?_⟩
      rintro vs h' - ⟨i, rfl, rfl, hi, hs⟩
      conv => whnf
      by_cases hil : i < a.length
      · obtain ⟨x, hx⟩ : ∃ x, a[i]? = some x := ⟨_, List.getElem?_eq_getElem hil⟩
        obtain ⟨y, hy⟩ : ∃ y, b[i]? = some y := ⟨_, List.getElem?_eq_getElem (by omega)⟩
        repeat' first
          | ((first | refine auIk ?_ | refine auIi ?_ | refine auT ?_ | refine auF ?_ | with_reducible first | refine auKt ?_ | refine auKf ?_ | refine auNt ?_ | refine auNf ?_ | refine auEt ?_ | refine auEf ?_); conv => whnf)
          | ((with_reducible first | refine br_dec (fun h => ?_) (fun h => ?_) | refine br_ndec (fun h => ?_) (fun h => ?_) | refine br_ne (fun h => ?_) (fun h => ?_) | refine br_eq (fun h => ?_) (fun h => ?_)) <;> first | (exfalso; omega) | conv => whnf)
          | (refine br_intro (fun h => ?_) (fun h => ?_) <;> conv => whnf)
          | ((first | refine auNd ?_ | refine idx_nat (by omega) (fun x hx => ?_) | refine frz_auto ?_ | refine draw_plain ?_ | refine auIx (fun x hx => ?_)); conv => whnf)
        · rw [decide_eq_false (ne_atU hx hy h)]
        · subst h
          refine back_intro (by conv => whnf) rfl ⟨i + 1, rfl, rfl, by omega, take_nxU hs hx hy⟩ ?_
          show a.length - ((i : Int) + 1).toNat < a.length - (i : Int).toNat
          omega
      · skip
        repeat' first
          | ((first | refine auIk ?_ | refine auIi ?_ | refine auT ?_ | refine auF ?_ | with_reducible first | refine auKt ?_ | refine auKf ?_ | refine auNt ?_ | refine auNf ?_ | refine auEt ?_ | refine auEf ?_); conv => whnf)
          | ((with_reducible first | refine br_dec (fun h => ?_) (fun h => ?_) | refine br_ndec (fun h => ?_) (fun h => ?_) | refine br_ne (fun h => ?_) (fun h => ?_) | refine br_eq (fun h => ?_) (fun h => ?_)) <;> first | (exfalso; omega) | conv => whnf)
          | (refine br_intro (fun h => ?_) (fun h => ?_) <;> conv => whnf)
          | ((first | refine auNd ?_ | refine idx_nat (by omega) (fun x hx => ?_) | refine frz_auto ?_ | refine draw_plain ?_ | refine auIx (fun x hx => ?_)); conv => whnf)
        rw [decide_eq_true (take_alU hs (by omega) (by omega))]
    · have hne : a ≠ b := fun e => hlen (by rw [e])
      conv => whnf
      repeat' first
        | ((first | refine auT ?_ | refine auF ?_ | with_reducible first | refine auKt ?_ | refine auKf ?_ | refine auNt ?_ | refine auNf ?_ | refine auEt ?_ | refine auEf ?_); conv => whnf)
        | ((with_reducible first | refine br_dec (fun h => ?_) (fun h => ?_) | refine br_ndec (fun h => ?_) (fun h => ?_) | refine br_ne (fun h => ?_) (fun h => ?_) | refine br_eq (fun h => ?_) (fun h => ?_)) <;> first | (exfalso; omega) | conv => whnf)
        | (refine br_intro (fun h => ?_) (fun h => ?_) <;> conv => whnf)
        | ((first | refine auNd ?_ | refine idx_nat (by omega) (fun x hx => ?_) | refine frz_auto ?_ | refine draw_plain ?_ | refine auIx (fun x hx => ?_)); conv => whnf)
      rw [decide_eq_false hne]
  · cases h
/-! ### Shared runs: plain -/
/-- Whether two runs are one. -/
def mtB (r s : runT.El) : Bool := (r.1 == s.1) && sameL entT r.2.1 s.2.1
/-! ### The functions -/
theorem run_len {b : List entT.El} {rs : List runT.El} (h : (vcL b rs).2 = 0) {r : runT.El} (hr : r ∈ rs) : r.2.1.length ≤ 4611686018427387904 := by
  have := (clL_zero ((vcL_zero h).gr r hr)).1
  omega
end Go.Proofs.YtdbnohpolknbbaaGreat
namespace Go.Proofs.YtdbnohpolknbbaaGreat
open Av Bk

set_option maxRecDepth 100000 in
theorem fnOk_dShared : FnOk Tryz.prog 13 Tryz.f13 := ⟨by rfl, by kernel_rfl, by
  show okCode _ _ = true ∧ drawsOk _ = true
  exact ⟨by kernel_rfl, by kernel_rfl⟩⟩
set_option maxRecDepth 100000 in
theorem fnOk_dShared1 : FnOk Tryz.prog 37 Tryz.f37 := ⟨by rfl, by kernel_rfl, by
  show okCode _ _ = true ∧ drawsOk _ = true
  exact ⟨by kernel_rfl, by kernel_rfl⟩⟩
set_option maxRecDepth 100000 in
theorem fnOk_contRn : FnOk Tryz.prog 36 Tryz.f36 := ⟨by rfl, by kernel_rfl, by
  show okCode _ _ = true ∧ drawsOk _ = true
  exact ⟨by kernel_rfl, by kernel_rfl⟩⟩
set_option maxRecDepth 100000 in
theorem fnOk_idxRn : FnOk Tryz.prog 61 Tryz.f61 := ⟨by rfl, by kernel_rfl, by
  show okCode _ _ = true ∧ drawsOk _ = true
  exact ⟨by kernel_rfl, by kernel_rfl⟩⟩
set_option maxRecDepth 100000 in
theorem fnOk_slSrtU : FnOk Tryz.prog 39 Tryz.f39 := ⟨by rfl, by kernel_rfl, by
  show okCode _ _ = true ∧ drawsOk _ = true
  exact ⟨by kernel_rfl, by kernel_rfl⟩⟩
/-- The ids of the runs that others have too. -/
def shL (rs rs2 : List runT.El) : List Int := (rs.filter (fun r => rs2.any (mtB r))).map (fun r => r.1)
theorem shL_take {rs rs2 : List runT.El} {i : Nat} {r : runT.El} (hr : rs[i]? = some r) : shL (rs.take (i + 1)) rs2 = shL (rs.take i) rs2 ++ (if rs2.any (mtB r) = true then [r.1] else []) := by
  unfold shL
  rw [List.take_add_one, hr, List.filter_append, List.map_append]
  congr 1
  show (List.filter (fun r => rs2.any (mtB r)) [r]).map (fun r => r.1) = _
  rw [List.filter_cons]
  split <;> rfl
theorem shL_len (rs rs2 : List runT.El) : (shL rs rs2).length ≤ rs.length := by
  unfold shL
  rw [List.length_map]
  exact List.length_filter_le _ _
def dhR (b : List entT.El) (rs : List runT.El) (b2 : List entT.El) (rs2 : List runT.El) : List Int × Int := if dvE b rs b2 rs2 ≠ 0 then ([], dvE b rs b2 rs2) else (sortedI (shL rs rs2), 0)
def spSh : DSpec
  | [.agg [.lst (.st [.str, .str, .bool, .int .i64]) b, .lst (.st [.int .i64, .sl (.st [.str, .str, .bool, .int .i64])]) rs], .agg [.lst (.st [.str, .str, .bool, .int .i64]) b2, .lst (.st [.int .i64, .sl (.st [.str, .str, .bool, .int .i64])]) rs2]] => some (True, .tup [.lst (.int .i64) (dhR b rs b2 rs2).1, .int .i64 (dhR b rs b2 rs2).2])
  | _ => none
theorem sh_vs {g n m : Nat} {k : Int} (h : n = m) : [AV.own 3 g n, .int .i64 k] = [AV.own 3 g m, .int .i64 k] := by rw [h]
theorem sh_heap {a b c : AObj} {T : TypeId} {g : Nat} {l m : List Int} (h : l = m) : [a, b, c, .arr T (.int .i64) l false g] = [a, b, c, AObj.arr T (.int .i64) m false g] := by rw [h]
noncomputable def cxuq : Cx := ⟨tb, [(37, Tryz.f37), (36, Tryz.f36), (61, Tryz.f61)], [(30, spMp), (38, spSameE)]⟩
theorem specsuq : SpecsOk Tryz.prog cxuq.specs := .cons dMaps_ok (.cons eqEn_ok .nil)
theorem fnsuq : FnsOk Tryz.prog cxuq.fns := .cons fnOk_dShared1 (.cons fnOk_contRn (.cons fnOk_idxRn .nil))
set_option maxRecDepth 100000 in
theorem isortsU : ∀ f ∈ [39], SortIOk Tryz.prog f := by
  intro f hf
  rw [List.mem_singleton] at hf
  subst hf
  exact SortIOk.of sortI fnOk_slSrtU.enters
set_option maxRecDepth 100000 in
set_option maxHeartbeats 4000000 in
theorem dShared_ok : SpecOk Tryz.prog 13 spSh := by
  refine spec_body (C := cxuq) mixed tbOk specsuq (callY_ok (C := cxuq) mixed tbOk specsuq fnsuq isortsU SortsOk.nil 5) fnOk_dShared ?_
  intro ys p r h hp
  unfold spSh at h
  split at h
  · rename_i b rs b2 rs2
    cases h
    by_cases he : dvE b rs b2 rs2 = 0
    · have hm : mpR b rs b2 rs2 = (mV b rs, mV b2 rs2, 0) := by rw [mpR, if_neg (by simp [he])]
      have hme : (mpR b rs b2 rs2).2.2 = 0 := by rw [hm]
      have hlr := (vcL_zero (dv_zero he).1).lr
      have hlr2 := (vcL_zero (dv_zero he).2).lr
      conv => whnf
      repeat' first
        | ((first | refine auIk ?_ | refine auIi ?_ | refine auT ?_ | refine auF ?_ | with_reducible first | refine auKt ?_ | refine auKf ?_ | refine auNt ?_ | refine auNf ?_ | refine auEt ?_ | refine auEf ?_); conv => whnf)
        | ((with_reducible first | refine br_dec (fun h => ?_) (fun h => ?_) | refine br_ndec (fun h => ?_) (fun h => ?_) | refine br_ne (fun h => ?_) (fun h => ?_) | refine br_eq (fun h => ?_) (fun h => ?_)) <;> first | (exfalso; omega) | conv => whnf)
        | (refine br_intro (fun h => ?_) (fun h => ?_) <;> conv => whnf)
        | ((first | refine auNd ?_ | refine idx_nat (by omega) (fun x hx => ?_) | refine frz_auto ?_ | refine draw_plain ?_ | refine auIx (fun x hx => ?_)); conv => whnf)
      refine loop_inv [] [9, 25] (fun vs h => ∃ (i g : Nat), vs = [.own 3 g (shL (rs.take i) rs2).length, .int .i64 (i : Int)] ∧ h = [.cells 25 [.lst entT b, .lst runT rs], .cells 25 [.lst entT b2, .lst runT rs2], .arr 3 (.int .i64) [] false 0, .arr 3 (.int .i64) (shL (rs.take i) rs2) false g] ∧ i ≤ rs.length) (fun vs _ => match vs with | [_, .int _ k] => rs.length - k.toNat | _ => 0) ?_
      conv => whnf
      refine ⟨⟨0, 0, rfl, rfl, Nat.zero_le _⟩, ?_⟩
      rintro vs h' - ⟨i, g, rfl, rfl, hi⟩
      have hsl := shL_len (rs.take i) rs2
      have hsl2 : (shL (rs.take i) rs2).length ≤ 24 := by rw [List.length_take] at hsl; omega
      by_cases hil : i < rs.length
      · obtain ⟨r, hr⟩ : ∃ r, rs[i]? = some r := ⟨_, List.getElem?_eq_getElem hil⟩
        have hrl := run_len (dv_zero he).1 (List.mem_of_getElem? hr)
        conv => whnf
        repeat' first
          | ((first | refine auIk ?_ | refine auIi ?_ | refine auT ?_ | refine auF ?_ | with_reducible first | refine auKt ?_ | refine auKf ?_ | refine auNt ?_ | refine auNf ?_ | refine auEt ?_ | refine auEf ?_); conv => whnf)
          | ((with_reducible first | refine br_dec (fun h => ?_) (fun h => ?_) | refine br_ndec (fun h => ?_) (fun h => ?_) | refine br_ne (fun h => ?_) (fun h => ?_) | refine br_eq (fun h => ?_) (fun h => ?_)) <;> first | (exfalso; omega) | conv => whnf)
          | (refine br_intro (fun h => ?_) (fun h => ?_) <;> conv => whnf)
          | ((first | refine auNd ?_ | refine idx_nat (by omega) (fun x hx => ?_) | refine frz_auto ?_ | refine draw_plain ?_ | refine auIx (fun x hx => ?_)); conv => whnf)
        refine loop_inv [] [8] (fun vs h => ∃ k : Nat, vs = [.int .i64 (k : Int)] ∧ h = [.cells 25 [.lst entT b, .lst runT rs], .cells 25 [.lst entT b2, .lst runT rs2], .arr 3 (.int .i64) [] false 0, .arr 3 (.int .i64) (shL (rs.take i) rs2) false g, .cells 56 [.int .i64 r.1, .lst entT r.2.1]] ∧ k ≤ rs2.length ∧ ∀ s ∈ rs2.take k, mtB r s = false) (fun vs _ => match vs with | [.int _ k] => rs2.length - k.toNat | _ => 0) ?_
        conv => whnf
        refine ⟨⟨0, rfl, rfl, Nat.zero_le _, by simp⟩, ?_⟩
        rintro vs h' - ⟨k, rfl, rfl, hk, hall⟩
        have hst := shL_take (rs2 := rs2) hr
        by_cases hkl : k < rs2.length
        · obtain ⟨s, hs⟩ : ∃ s, rs2[k]? = some s := ⟨_, List.getElem?_eq_getElem hkl⟩
          have hmt : mtB r s = ((r.1 == s.1) && sameL entT r.2.1 s.2.1) := rfl
          have hnx : mtB r s = false → ∀ z ∈ rs2.take (k + 1), mtB r z = false := fun h z hz => by
            rw [List.take_add_one, hs] at hz
            rcases List.mem_append.1 hz with hz | hz
            · exact hall z hz
            · have : z = s := by simpa using hz
              rw [this]; exact h
          by_cases hid : r.1 = s.1
          · have hid2 : (r.1 == s.1) = true := by rw [hid]; exact beq_self_eq_true _
            rw [hid2, Bool.true_and] at hmt
            conv => whnf
            repeat' first
              | ((first | refine auIk ?_ | refine auIi ?_ | refine auT ?_ | refine auF ?_ | with_reducible first | refine auKt ?_ | refine auKf ?_ | refine auNt ?_ | refine auNf ?_ | refine auEt ?_ | refine auEf ?_); conv => whnf)
              | ((with_reducible first | refine br_dec (fun h => ?_) (fun h => ?_) | refine br_ndec (fun h => ?_) (fun h => ?_) | refine br_ne (fun h => ?_) (fun h => ?_) | refine br_eq (fun h => ?_) (fun h => ?_)) <;> first | (exfalso; omega) | conv => whnf)
              | (refine br_intro (fun h => ?_) (fun h => ?_) <;> conv => whnf)
              | ((first | refine auNd ?_ | refine idx_nat (by omega) (fun x hx => ?_) | refine frz_auto ?_ | refine draw_plain ?_ | refine auIx (fun x hx => ?_)); conv => whnf)
            · rename_i hse _
              have hany : rs2.any (mtB r) = true := List.any_eq_true.2 ⟨s, List.mem_of_getElem? hs, by rw [hmt]; first | exact hse | exact h | assumption⟩
              rw [hany, if_pos rfl] at hst
              refine back_intro (by conv => whnf) rfl ⟨i + 1, g + 1, sh_vs ?_, sh_heap ?_, by omega⟩ ?_
              · rw [hst, List.length_append]; rfl
              · rw [hst]; simp only [cast_self, List.take_length]; rfl
              · show rs.length - ((i : Int) + 1).toNat < rs.length - (i : Int).toNat
                omega
            · refine back_intro (by conv => whnf) rfl ⟨k + 1, rfl, rfl, by omega, hnx (hmt.trans (by first | exact h | assumption))⟩ ?_
              show rs2.length - ((k : Int) + 1).toNat < rs2.length - (k : Int).toNat
              omega
          · have hid2 : (r.1 == s.1) = false := beq_eq_false_iff_ne.2 hid
            rw [hid2, Bool.false_and] at hmt
            conv => whnf
            repeat' first
              | ((first | refine auIk ?_ | refine auIi ?_ | refine auT ?_ | refine auF ?_ | with_reducible first | refine auKt ?_ | refine auKf ?_ | refine auNt ?_ | refine auNf ?_ | refine auEt ?_ | refine auEf ?_); conv => whnf)
              | ((with_reducible first | refine br_dec (fun h => ?_) (fun h => ?_) | refine br_ndec (fun h => ?_) (fun h => ?_) | refine br_ne (fun h => ?_) (fun h => ?_) | refine br_eq (fun h => ?_) (fun h => ?_)) <;> first | (exfalso; omega) | conv => whnf)
              | (refine br_intro (fun h => ?_) (fun h => ?_) <;> conv => whnf)
              | ((first | refine auNd ?_ | refine idx_nat (by omega) (fun x hx => ?_) | refine frz_auto ?_ | refine draw_plain ?_ | refine auIx (fun x hx => ?_)); conv => whnf)
            refine back_intro (by conv => whnf) rfl ⟨k + 1, rfl, rfl, by omega, hnx hmt⟩ ?_
            show rs2.length - ((k : Int) + 1).toNat < rs2.length - (k : Int).toNat
            omega
        · have hany : rs2.any (mtB r) = false := by
            rw [List.any_eq_false]
            intro z hz
            rw [hall z (by rw [List.take_of_length_le (by omega)]; exact hz)]
            decide
          rw [hany, if_neg (by decide), List.append_nil] at hst
          conv => whnf
          repeat' first
            | ((first | refine auIk ?_ | refine auIi ?_ | refine auT ?_ | refine auF ?_ | with_reducible first | refine auKt ?_ | refine auKf ?_ | refine auNt ?_ | refine auNf ?_ | refine auEt ?_ | refine auEf ?_); conv => whnf)
            | ((with_reducible first | refine br_dec (fun h => ?_) (fun h => ?_) | refine br_ndec (fun h => ?_) (fun h => ?_) | refine br_ne (fun h => ?_) (fun h => ?_) | refine br_eq (fun h => ?_) (fun h => ?_)) <;> first | (exfalso; omega) | conv => whnf)
            | (refine br_intro (fun h => ?_) (fun h => ?_) <;> conv => whnf)
            | ((first | refine auNd ?_ | refine idx_nat (by omega) (fun x hx => ?_) | refine frz_auto ?_ | refine draw_plain ?_ | refine auIx (fun x hx => ?_)); conv => whnf)
          refine back_intro (by conv => whnf) rfl ⟨i + 1, g, sh_vs (by rw [hst]), sh_heap hst.symm, by omega⟩ ?_
          show rs.length - ((i : Int) + 1).toNat < rs.length - (i : Int).toNat
          omega
      · have hz := sortedI_len (shL (rs.take i) rs2)
        conv => whnf
        repeat' first
          | ((first | refine auIk ?_ | refine auIi ?_ | refine auT ?_ | refine auF ?_ | with_reducible first | refine auKt ?_ | refine auKf ?_ | refine auNt ?_ | refine auNf ?_ | refine auEt ?_ | refine auEf ?_); conv => whnf)
          | ((with_reducible first | refine br_dec (fun h => ?_) (fun h => ?_) | refine br_ndec (fun h => ?_) (fun h => ?_) | refine br_ne (fun h => ?_) (fun h => ?_) | refine br_eq (fun h => ?_) (fun h => ?_)) <;> first | (exfalso; omega) | conv => whnf)
          | (refine br_intro (fun h => ?_) (fun h => ?_) <;> conv => whnf)
          | ((first | refine auNd ?_ | refine idx_nat (by omega) (fun x hx => ?_) | refine frz_auto ?_ | refine draw_plain ?_ | refine auIx (fun x hx => ?_)); conv => whnf)
        rw [dhR, if_neg (by simp [he])]
        rw [List.take_of_length_le (l := sortedI _) (by omega), List.take_of_length_le (by omega)]
    · have hm : mpR b rs b2 rs2 = ([], [], dvE b rs b2 rs2) := by rw [mpR, if_pos he]
      have hme : ¬ (mpR b rs b2 rs2).2.2 = 0 := by rw [hm]; exact he
      conv => whnf
      repeat' first
        | ((first | refine auIk ?_ | refine auIi ?_ | refine auT ?_ | refine auF ?_ | with_reducible first | refine auKt ?_ | refine auKf ?_ | refine auNt ?_ | refine auNf ?_ | refine auEt ?_ | refine auEf ?_); conv => whnf)
        | ((with_reducible first | refine br_dec (fun h => ?_) (fun h => ?_) | refine br_ndec (fun h => ?_) (fun h => ?_) | refine br_ne (fun h => ?_) (fun h => ?_) | refine br_eq (fun h => ?_) (fun h => ?_)) <;> first | (exfalso; omega) | conv => whnf)
        | (refine br_intro (fun h => ?_) (fun h => ?_) <;> conv => whnf)
        | ((first | refine auNd ?_ | refine idx_nat (by omega) (fun x hx => ?_) | refine frz_auto ?_ | refine draw_plain ?_ | refine auIx (fun x hx => ?_)); conv => whnf)
      rw [dhR, if_pos he, hm]
      rfl
  · cases h
end Go.Proofs.YtdbnohpolknbbaaGreat
namespace Go.Proofs.YtdbnohpolknbbaaGreat
open Av Bk

/-! ### Lists that ascend -/
/-- The items of a key. -/
abbrev atK (l : List itemT.El) (k : ByteArray) : List itemT.El := l.filter (fun x => sEq x.2.1 k)
/-! ### Differences by key -/
end Go.Proofs.YtdbnohpolknbbaaGreat
namespace Go.Proofs.YtdbnohpolknbbaaGreat
open Av Bk

/-! ### The maps of views -/
/-! ### Items of a difference -/
theorem find_at {l : List itemT.El} {k : ByteArray} : l.find? (fun x => sEq x.2.1 k) = (atK l k).head? := by
  rw [List.head?_filter]
end Go.Proofs.YtdbnohpolknbbaaGreat
namespace Go.Proofs.YtdbnohpolknbbaaGreat
open Av Bk

theorem apR_len (m : List pairT.El) (l : List itemT.El) : (apR m l).1.length ≤ 4000 := by
  unfold apR
  split
  · simp
  · split
    · simp
    · split
      · simp
      · split
        · simp
        · rename_i h
          show (apGo 0 l m).1.length ≤ 4000
          omega
end Go.Proofs.YtdbnohpolknbbaaGreat
set_option linter.unusedVariables false
set_option linter.unusedSimpArgs false
namespace Go.Proofs.YtdbnohpolknbbaaGreat
open Go.Shelf Go.RowKit Go.Lib Go.Proofs

section
variable {P : Program}
/-- A copy of elements of k cells. -/
theorem run_copy_k (w : World) (dT sT ty elem : TypeId) (k : Nat) (b o dLen dCap : Nat) (a : Addr) (sLen sCap q : Nat) (cs : List Value)
    (hu : P.underlying dT = some (.slice elem)) (hs : (P.info? elem).map (·.size) = some k) (hq : Nat.min sLen dLen = q) (hn : cs.length = q * k)
    (hsrc : ∀ j v, cs[j]? = some v → w.cell? (a.add j) = some v) (hc : ∀ j, j < cs.length → (w.cell? ⟨b, o + j, none⟩).isSome = true) (hf : ∀ j, j < cs.length → w.frozen? ⟨b, o + j, none⟩ = false) (h1 : ∀ v ∈ cs, v.oneCell' = true) :
    (Builtin.copy_ #[dT, sT] ty #[.slice (some ⟨b, o, none⟩) dLen dCap, .slice (some a) sLen sCap]).run P w = .ok (goInt q) (w.setCells b o cs) := by
  have hl := run_loadCells_list (P := P) w a cs hsrc
  have hst := run_storeCells_cells (P := P) b o cs 0 w (by simpa using hc) (by simpa using hf) h1
  cases hi : P.info? elem with
  | none => simp [hi] at hs
  | some i =>
    have hi2 : i.size = k := by simpa [hi] using hs
    simp [Builtin.copy_, run_underlying hu, Builtin.lenOf, Builtin.firstCells, sizeOf, typeInfo, hi, hi2, hq, ← hn, hl, hst]
end
theorem prInfo : ∃ ie z, Tryz.prog.info? 60 = some ie ∧ ie.size = 2 ∧ ie.bytes = 32 ∧ ie.zero = some z ∧ z.cells.size = 2 := by
  obtain ⟨ie, z, h1, h2, h3, h4, h5⟩ := (Av.tb_und tbOk (T := 60) (ti := _) rfl).info
  refine ⟨ie, z, h1, h2, h3, h4, ?_⟩
  have := Av.zero_size tbOk (e := 60) (te := _) rfl (t := pairT) rfl h1 h4
  exact this
theorem prSize : (Tryz.prog.info? 60).map (·.size) = some 2 := by
  obtain ⟨ie, z, h1, h2, _⟩ := prInfo
  rw [h1]
  simp [h2]

set_option maxHeartbeats 4000000 in
set_option maxRecDepth 100000 in
/-- There is room, and elements stand behind the place. -/
theorem ins_shift (b off n c i vb voff m vc : Nat) (cs vs : List Value) (w : World) (hi : i < n) (hm : 0 < m) (hroom : n + m ≤ c) (hc63 : c ≤ 9223372036854775807) (hvb : vb ≠ b)
    (hcl : cs.length = n * 2) (hvl : vs.length = m * 2)
    (hcs : ∀ j v, cs[j]? = some v → w.cell? ⟨b, off + j, none⟩ = some v) (hsp : ∀ j, j < (n + m) * 2 → (w.cell? ⟨b, off + j, none⟩).isSome = true) (hfz : ∀ j, j < (n + m) * 2 → w.frozen? ⟨b, off + j, none⟩ = false)
    (hvs : ∀ j v, vs[j]? = some v → w.cell? ⟨vb, voff + j, none⟩ = some v) (h1c : ∀ v ∈ cs, v.oneCell' = true) (h1v : ∀ v ∈ vs, v.oneCell' = true)
    (tA tB : TypeId) (kA kB : Nat) (hsa : w.shape? vb = some (tA, kA)) (hsb : w.shape? b = some (tB, kB)) (hkB : kB ≠ 0) (hfa : w.frozen? ⟨vb, voff, none⟩ = false) (hfe : w.frozen? ⟨vb, kA, none⟩ = false) :
    Calls Tryz.prog 65 #[.slice (some ⟨b, off, none⟩) n c, .int .i64 i, .slice (some ⟨vb, voff, none⟩) m vc] w fun e w' =>
      e = .returned (.slice (some ⟨b, off, none⟩) (n + m) c) ∧ w' = (w.drew.setCells b (off + (i + m) * 2) (cs.drop (i * 2))).setCells b (off + i * 2) vs := by
  have hz1 : ¬ ((m : Int) = 0) := by omega
  have hz2 : ¬ ((i : Int) = (n : Int)) := by omega
  have hsz := prSize
  have hov : ∀ lb cb, (callFunc 92 #[.slice (some ⟨vb, voff, none⟩) m vc, .slice (some ⟨b, off + (i + m) * 2, none⟩) lb cb]).run Tryz.prog w = .ok (.value (.bool false)) w := fun lb cb => by
    rw [run_callFunc_extern Tryz.func92 (by kernel_rfl) (by kernel_rfl) (by kernel_rfl) (e := Extern.SlicesOverlaps.overlaps #[34, 34] #[4]) (by kernel_rfl),
      Lib.run_overlaps_apart w 34 4 60 Tryz.underlying34 2 Tryz.sizeOf60 ⟨vb, voff, none⟩ ⟨b, off + (i + m) * 2, none⟩ m vc lb cb hvb tA tB kA kB hsa hsb hkB hfa hfe]
    rfl
  have hdl : (cs.drop (i * 2)).length = (n - i) * 2 := by rw [List.length_drop, hcl]; omega
  have hw1 : IntKind.i64.wrap ((i : Int) + (m : Int)) = (i : Int) + (m : Int) := by rw [IntKind.wrap_i64]; omega
  have hb1 : (0 : Int) ≤ (i : Int) + (m : Int) := by omega
  have hin : i ≤ n := by omega
  have htn : ((i : Int) + (m : Int)).toNat = i + m := by omega
  have hb2 : ¬ (c = i + m) := by omega
  have hb3 : (i : Int) ≤ (n : Int) + (m : Int) := by omega
  have hb4 : ¬ (c = i) := by omega
  have hcp1 : ∀ ty dc sc, (Builtin.copy_ #[34, 34] ty #[.slice (some ⟨b, off + (i + m) * 2, none⟩) (n + m - (i + m)) dc, .slice (some ⟨b, off + i * 2, none⟩) (n + m - i) sc]).run Tryz.prog w.drew = .ok (goInt ((n - i : Nat) : Int)) (w.drew.setCells b (off + (i + m) * 2) (cs.drop (i * 2))) := fun ty dc sc =>
    run_copy_k w.drew _ _ ty 60 2 b (off + (i + m) * 2) (n + m - (i + m)) dc ⟨b, off + i * 2, none⟩ (n + m - i) sc (n - i) (cs.drop (i * 2)) Tryz.underlying34 hsz (by simp only [Nat.min_def]; split <;> omega) hdl
      (fun j v hj => by rw [Addr.add_lit, Nat.add_assoc]; exact hcs (i * 2 + j) v (by rwa [List.getElem?_drop] at hj))
      (fun j hj => by rw [Nat.add_assoc]; exact hsp _ (by omega)) (fun j hj => by rw [Nat.add_assoc]; exact hfz _ (by omega)) (fun v hv => h1c v (List.mem_of_mem_drop hv))
  obtain ⟨W1, hW1⟩ : ∃ W1, W1 = w.drew.setCells b (off + (i + m) * 2) (cs.drop (i * 2)) := ⟨_, rfl⟩
  have hsp1 : ∀ k, k < (n + m) * 2 → (W1.cell? ⟨b, off + k, none⟩).isSome = true := fun k hk => by
    rw [hW1]
    exact isSome_setCells b _ _ _ (fun j hj => by rw [Nat.add_assoc]; exact hsp _ (by omega)) _ (hsp k hk)
  have hcp2 : ∀ (W : World), (∀ x, W.cell? x = W1.cell? x) → (∀ x, W.frozen? x = W1.frozen? x) → ∀ ty dc, (Builtin.copy_ #[34, 34] ty #[.slice (some ⟨b, off + i * 2, none⟩) (n + m - i) dc, .slice (some ⟨vb, voff, none⟩) m vc]).run Tryz.prog W = .ok (goInt m) (W.setCells b (off + i * 2) vs) := fun W hWc hWf ty dc =>
    run_copy_k W _ _ ty 60 2 b (off + i * 2) (n + m - i) dc ⟨vb, voff, none⟩ m vc m vs Tryz.underlying34 hsz (by simp only [Nat.min_def]; split <;> omega) hvl
      (fun j v hj => by
        rw [Addr.add_lit, hWc, hW1, World.cell?_setCells_out b _ _ _ _ (fun h _ => absurd h hvb)]
        exact hvs j v hj)
      (fun j hj => by rw [hWc, Nat.add_assoc]; exact hsp1 _ (by omega)) (fun j hj => by rw [hWf, hW1, World.frozen?_setCells, Nat.add_assoc]; exact hfz _ (by omega)) h1v
  rw [← hW1] at hcp1
  have mixed := mixed
  go_enter Tryz.func65, Tryz.ntmps65
  go_wp2_with (simp only [hov])
  go_region_law_o (refine step_copy_runI rfl _ _ 34 34 rfl _ _ (by simp [Act.eval, Act.put]) (by simp [Act.eval, Act.put]) (hcp1 _ _ _) ?_)
  go_wp2_with (at_builtin; refine wpList_copy_runI _ rfl _ _ 34 34 rfl _ _ rfl rfl (hcp2 _ (fun _ => rfl) (fun _ => rfl) _ _) ?_)
  go_ret
  first | exact ⟨rfl, rfl⟩ | exact ⟨rfl, by rw [hW1]⟩

set_option maxHeartbeats 4000000 in
set_option maxRecDepth 100000 in
/-- At the end. -/
theorem ins_end (base : Option Addr) (n c vb voff m vc : Nat) (w w1 : World) (v1 : Value) (hm : 0 < m) (hnc : n ≤ c) (hc63 : c ≤ 9223372036854775807) (hnil : base = none → n = 0 ∧ c = 0)
    (hrun : ∀ ty, (Builtin.append_ #[34, 34] ty #[.slice base n c, .slice (some ⟨vb, voff, none⟩) m vc]).run Tryz.prog w = .ok v1 w1) :
    Calls Tryz.prog 65 #[.slice base n c, .int .i64 n, .slice (some ⟨vb, voff, none⟩) m vc] w fun e w' => e = .returned v1 ∧ w' = w1 := by
  have hz1 : ¬ ((m : Int) = 0) := by omega
  have mixed := mixed
  go_enter Tryz.func65, Tryz.ntmps65
  cases base with
  | none =>
    obtain ⟨rfl, rfl⟩ := hnil rfl
    go_wp2_with (at_builtin; refine Lib.wpList_append_run _ rfl _ _ _ _ rfl _ _ rfl rfl _ _ (hrun _) ?_)
    go_ret
    exact ⟨rfl, rfl⟩
  | some a =>
    obtain ⟨ab, ao, asp⟩ := a
    go_wp2_with (at_builtin; refine Lib.wpList_append_run _ rfl _ _ _ _ rfl _ _ rfl rfl _ _ (hrun _) ?_)
    all_goals (go_ret; exact ⟨rfl, rfl⟩)

set_option maxHeartbeats 4000000 in
set_option maxRecDepth 100000 in
/-- No room, and elements stand behind the place: a new row. -/
theorem ins_grow (ie : TypeInfo) (z : Value) (hie : Tryz.prog.info? 60 = some ie) (hzs : ie.size = 2) (hzb : ie.bytes = 32) (hz0 : ie.zero = some z) (hzc : z.cells.size = 2)
    (b off n c i vb voff m vc : Nat) (cs vs : List Value) (w : World) (hi : i < n) (hm : 0 < m) (hnc : n ≤ c) (hroom : c < n + m) (hbig : (n + m) * 32 ≤ 140737488355328)
    (hcl : cs.length = n * 2) (hvl : vs.length = m * 2)
    (hcs : ∀ j v, cs[j]? = some v → w.cell? ⟨b, off + j, none⟩ = some v)
    (hvs : ∀ j v, vs[j]? = some v → w.cell? ⟨vb, voff + j, none⟩ = some v) (h1c : ∀ v ∈ cs, v.oneCell' = true) (h1v : ∀ v ∈ vs, v.oneCell' = true) :
    Calls Tryz.prog 65 #[.slice (some ⟨b, off, none⟩) n c, .int .i64 i, .slice (some ⟨vb, voff, none⟩) m vc] w fun e w' =>
      e = .returned (.slice (some ⟨w.heap.size, 0, none⟩) (n + m) (grownCap w (n + m) c 60)) ∧
      w' = (((w.alloc (.cells ((cs.take (i * 2)).toArray ++ Builtin.zeroCells z.cells (n + m - i) ++ Builtin.zeroCells z.cells (grownCap w (n + m) c 60 - (n + m))) 60)).drew.setCells w.heap.size (i * 2) vs).drew).setCells w.heap.size ((i + m) * 2) (cs.drop (i * 2)) := by
  have hz1 : ¬ ((m : Int) = 0) := by omega
  have hz2 : ¬ ((i : Int) = (n : Int)) := by omega
  have hz3 : (c : Int) < (n : Int) + (m : Int) := by omega
  have hsz := prSize
  have hbw : b < w.heap.size := block_lt_of_cell (hcs 0 _ (List.getElem?_eq_getElem (by omega)))
  have hvw : vb < w.heap.size := block_lt_of_cell (hvs 0 _ (List.getElem?_eq_getElem (by omega)))
  have hkk : (n : Int) + (m : Int) - (i : Int) = ((n + m - i : Nat) : Int) := by omega
  have hik : i + (n + m - i) = n + m := by omega
  have hold : (Builtin.firstCells ie.size i (.slice (some ⟨b, off, none⟩) i c)).run Tryz.prog w.drew = .ok (cs.take (i * 2)).toArray w.drew := by
    rw [hzs]
    exact run_firstCells_some w.drew 2 i ⟨b, off, none⟩ i c (cs.take (i * 2)) (by rw [List.length_take]; omega) (fun j v hj => by
      rw [Addr.add_lit]
      rw [List.getElem?_take] at hj
      split at hj
      · exact hcs j v hj
      · cases hj)
  have hrz : ∀ ty, (Builtin.append_ #[34, 3] ty #[.slice (some ⟨b, off, none⟩) i c, .int .i64 ((n : Int) + (m : Int) - (i : Int))]).run Tryz.prog w =
      .ok (.slice (some ⟨w.heap.size, 0, none⟩) (n + m) (grownCap w (n + m) c 60)) (w.drew.alloc (.cells ((cs.take (i * 2)).toArray ++ Builtin.zeroCells z.cells (n + m - i) ++ Builtin.zeroCells z.cells (grownCap w (n + m) c 60 - (n + m))) 60)) := fun ty => by
    have h := Lib.run_append_grow_zeros w 34 3 ty 60 ie z .i64 .i64 Tryz.underlying34 Tryz.underlying3 hie hz0 (some ⟨b, off, none⟩) i c (cs.take (i * 2)) hold (n + m - i) (by omega) (by omega) (by omega) (by omega) (by rw [hzb]; omega) (by rw [hzb, hik]; exact growslice_fits hroom hbig)
    rw [hik] at h
    rw [hkk]
    exact h
  obtain ⟨G, hG⟩ : ∃ G, G = grownCap w (n + m) c 60 := ⟨_, rfl⟩
  obtain ⟨ROW, hROW⟩ : ∃ ROW : Array Value, ROW = (cs.take (i * 2)).toArray ++ Builtin.zeroCells z.cells (n + m - i) ++ Builtin.zeroCells z.cells (G - (n + m)) := ⟨_, rfl⟩
  rw [← hG] at hrz ⊢
  rw [← hROW] at hrz ⊢
  have hRl : (n + m) * 2 ≤ ROW.size := by
    rw [hROW]
    simp [Builtin.zeroCells, hzc]
    omega
  obtain ⟨W1, hW1⟩ : ∃ W1, W1 = w.drew.alloc (.cells ROW 60) := ⟨_, rfl⟩
  rw [← hW1] at hrz
  have hN : ∀ j, j < (n + m) * 2 → (W1.cell? ⟨w.heap.size, j, none⟩).isSome = true := fun j hj => by
    rw [hW1, World.cell?_alloc_at (w := w.drew) ROW _ w.heap.size j rfl, Array.getElem?_eq_getElem (by omega)]; rfl
  have hNf : ∀ j, W1.frozen? ⟨w.heap.size, j, none⟩ = false := fun j => by rw [hW1]; exact World.frozen?_alloc_at (w := w.drew) ROW _ w.heap.size j rfl
  have hOb : ∀ j v, w.cell? ⟨b, j, none⟩ = some v → W1.cell? ⟨b, j, none⟩ = some v := fun j v h => by rw [hW1, World.cell?_alloc_past (w := w.drew) _ b j hbw]; exact h
  have hOv : ∀ j v, w.cell? ⟨vb, j, none⟩ = some v → W1.cell? ⟨vb, j, none⟩ = some v := fun j v h => by rw [hW1, World.cell?_alloc_past (w := w.drew) _ vb j hvw]; exact h
  have hcpA : ∀ (W : World), (∀ x, W.cell? x = W1.cell? x) → (∀ x, W.frozen? x = W1.frozen? x) → ∀ ty dc, (Builtin.copy_ #[34, 34] ty #[.slice (some ⟨w.heap.size, i * 2, none⟩) (n + m - i) dc, .slice (some ⟨vb, voff, none⟩) m vc]).run Tryz.prog W = .ok (goInt m) (W.setCells w.heap.size (i * 2) vs) := fun W hWc hWf ty dc =>
    run_copy_k W _ _ ty 60 2 w.heap.size (i * 2) (n + m - i) dc ⟨vb, voff, none⟩ m vc m vs Tryz.underlying34 hsz (by simp only [Nat.min_def]; split <;> omega) hvl
      (fun j v hj => by rw [Addr.add_lit, hWc]; exact hOv _ v (hvs j v hj))
      (fun j hj => by rw [hWc]; exact hN _ (by omega)) (fun j hj => by rw [hWf]; exact hNf _) h1v
  have hGn : n + m ≤ G := by rw [hG]; exact grownCap_ge w _ _ _
  have hG63 : G ≤ 9223372036854775807 := by
    have := grownCap_le_maxLen w (n + m) c 60 (by unfold maxLen; omega)
    rw [← hG] at this
    unfold maxLen at this
    omega
  have hGi : ¬ (G = i) := by omega
  have hGim : ¬ (G = i + m) := by omega
  have hci : ¬ (c = i) := by omega
  have hbN : b ≠ w.heap.size := by omega
  have hdl : (cs.drop (i * 2)).length = (n - i) * 2 := by rw [List.length_drop, hcl]; omega
  have hcpB : ∀ (W : World), (∀ x, W.cell? x = (W1.setCells w.heap.size (i * 2) vs).cell? x) → (∀ x, W.frozen? x = (W1.setCells w.heap.size (i * 2) vs).frozen? x) → ∀ ty dc sc, (Builtin.copy_ #[34, 34] ty #[.slice (some ⟨w.heap.size, (i + m) * 2, none⟩) (n + m - (i + m)) dc, .slice (some ⟨b, off + i * 2, none⟩) (n - i) sc]).run Tryz.prog W = .ok (goInt ((n - i : Nat) : Int)) (W.setCells w.heap.size ((i + m) * 2) (cs.drop (i * 2))) := fun W hWc hWf ty dc sc =>
    run_copy_k W _ _ ty 60 2 w.heap.size ((i + m) * 2) (n + m - (i + m)) dc ⟨b, off + i * 2, none⟩ (n - i) sc (n - i) (cs.drop (i * 2)) Tryz.underlying34 hsz (by simp only [Nat.min_def]; split <;> omega) hdl
      (fun j v hj => by
        rw [Addr.add_lit, hWc, World.cell?_setCells_out _ _ _ _ _ (fun h _ => absurd h hbN), Nat.add_assoc]
        exact hOb _ v (hcs (i * 2 + j) v (by rwa [List.getElem?_drop] at hj)))
      (fun j hj => by rw [hWc]; exact isSome_setCells _ _ _ _ (fun t ht => hN _ (by omega)) _ (hN _ (by omega)))
      (fun j hj => by rw [hWf, World.frozen?_setCells]; exact hNf _) (fun v hv => h1c v (List.mem_of_mem_drop hv))
  subst hW1
  have hE1 : ∀ x, ((w.alloc (.cells ROW 60)).drew).cell? x = (w.drew.alloc (.cells ROW 60)).cell? x := fun x => rfl
  have hE2 : ∀ x, ((w.alloc (.cells ROW 60)).drew).frozen? x = (w.drew.alloc (.cells ROW 60)).frozen? x := fun x => rfl
  have hF1 : ∀ x, (((w.alloc (.cells ROW 60)).drew.setCells w.heap.size (i * 2) vs).drew).cell? x = ((w.drew.alloc (.cells ROW 60)).setCells w.heap.size (i * 2) vs).cell? x := fun x => rfl
  have hF2 : ∀ x, (((w.alloc (.cells ROW 60)).drew.setCells w.heap.size (i * 2) vs).drew).frozen? x = ((w.drew.alloc (.cells ROW 60)).setCells w.heap.size (i * 2) vs).frozen? x := fun x => rfl
  have hw1 : IntKind.i64.wrap ((i : Int) + (m : Int)) = (i : Int) + (m : Int) := by rw [IntKind.wrap_i64]; omega
  have hb1 : (0 : Int) ≤ (i : Int) + (m : Int) := by omega
  have hin : i ≤ n := by omega
  have htn : ((i : Int) + (m : Int)).toNat = i + m := by omega
  have hb3 : (i : Int) ≤ (n : Int) := by omega
  have mixed := mixed
  clear hkk hik hold hROW hG hRl
  go_enter Tryz.func65, Tryz.ntmps65
  go_wp2_with (first
    | (at_builtin; refine Lib.wpList_append_run _ rfl _ _ _ _ rfl _ _ rfl rfl _ _ (hrz _) ?_)
    | (at_builtin; refine wpList_copy_runI _ rfl _ _ 34 34 rfl _ _ rfl rfl (hcpA _ hE1 hE2 _ _) ?_)
    | (at_builtin; refine wpList_copy_runI _ rfl _ _ 34 34 rfl _ _ rfl rfl (hcpB _ (fun _ => rfl) (fun _ => rfl) _ _ _) ?_))
  go_region_law_o (refine step_copy_runI rfl _ _ 34 34 rfl (.slice (some ⟨w.heap.size, (i + m) * 2, none⟩) (n + m - (i + m)) (G - (i + m))) (.slice (some ⟨b, off + i * 2, none⟩) (n - i) (c - i)) (by simp [Act.eval, Act.put]) (by simp [Act.eval, Act.put]) (hcpB _ hF1 hF2 3 (G - (i + m)) (c - i)) ?_)
  go_wp2
  go_ret
  exact ⟨rfl, rfl⟩
end Go.Proofs.YtdbnohpolknbbaaGreat
