/-
  Seal and Fork of both builders, and what a law does with both, each with its memory alone.
  What a law does with both builders; Fork of both; each with its memory alone.
  Fork of both builders, each with its memory alone.
-/
import Derived.Test.YtkjoofinfhdcaaaBq
namespace Go.Proofs.Ytkjoofinfhdcaaa
open Av Bk

set_option maxRecDepth 100000 in
theorem fnOk_rSealC : FnOk Try.prog 29 Try.f29 := ⟨by rfl, by kernel_rfl, by
 show okCode _ _ = true ∧ drawsOk _ = true
 exact ⟨by kernel_rfl, by kernel_rfl⟩⟩
set_option maxRecDepth 100000 in
theorem fnOk_rRun6 : FnOk Try.prog 34 Try.f34 := ⟨by rfl, by kernel_rfl, by
 show okCode _ _ = true ∧ drawsOk _ = true
 exact ⟨by kernel_rfl, by kernel_rfl⟩⟩
set_option maxRecDepth 100000 in
theorem fnOk_rForkC : FnOk Try.prog 28 Try.f28 := ⟨by rfl, by kernel_rfl, by
 show okCode _ _ = true ∧ drawsOk _ = true
 exact ⟨by kernel_rfl, by kernel_rfl⟩⟩
set_option maxRecDepth 100000 in
theorem fnOk_rLast6 : FnOk Try.prog 41 Try.f41 := ⟨by rfl, by kernel_rfl, by
 show okCode _ _ = true ∧ drawsOk _ = true
 exact ⟨by kernel_rfl, by kernel_rfl⟩⟩
set_option maxRecDepth 100000 in
theorem fnOk_rLen6 : FnOk Try.prog 42 Try.f42 := ⟨by rfl, by kernel_rfl, by
 show okCode _ _ = true ∧ drawsOk _ = true
 exact ⟨by kernel_rfl, by kernel_rfl⟩⟩
set_option maxRecDepth 100000 in
theorem fnOk_rRoom6 : FnOk Try.prog 43 Try.f43 := ⟨by rfl, by kernel_rfl, by
 show okCode _ _ = true ∧ drawsOk _ = true
 exact ⟨by kernel_rfl, by kernel_rfl⟩⟩
set_option maxRecDepth 100000 in
theorem fnOk_alikeC : FnOk Try.prog 30 Try.f30 := ⟨by rfl, by kernel_rfl, by
 show okCode _ _ = true ∧ drawsOk _ = true
 exact ⟨by kernel_rfl, by kernel_rfl⟩⟩
set_option maxRecDepth 100000 in
theorem fnOk_doesC : FnOk Try.prog 26 Try.f26 := ⟨by rfl, by kernel_rfl, by
 show okCode _ _ = true ∧ drawsOk _ = true
 exact ⟨by kernel_rfl, by kernel_rfl⟩⟩
abbrev aR (r : Int × List entT.El) : AV := .agg [.int .i64 r.1, .lst entT r.2]
def bSealA : LocA := fun ys h K => ∃ id : Int, bP [.ptr 0 0, .int .i64 id] (fun b => b.sealN id) (fun b => .tup [aR (b.sealR id), .int .i64 (b.sealE id)]) ys h K
def rSealA : LocA := fun ys h K => ∃ id : Int, rP [.ptr 0 0, .int .i64 id] (fun b => b.sealN id) (fun b => .tup [aR (b.sealR id), .int .i64 (b.sealE id)]) ys h K
def spClE1 : FSpec
 | [.lst (.st [.str, .str, .bool, .int .i64]) m] => some (1 ≤ m.length ∧ m.length ≤ 100000, ⟨25, entT, m⟩)
 | _ => none
set_option maxRecDepth 100000 in
set_option maxHeartbeats 2000000 in
theorem cloneE1_ok : FreshOk Try.prog 33 spClE1 := by
 refine fresh_body (C := cx0) mixed tbOk SpecsOk.nil (callN_ok (C := cx0) mixed tbOk SpecsOk.nil FnsOk.nil 0) fnOk_clone ?_
 intro ys p r h hp
 unfold spClE1 at h
 split at h
 ·rename_i ks
  cases h
  obtain ⟨h1, h2⟩ := hp
  conv => whnf
  repeat' first | ((first | refine auT ?_ | refine auF ?_ | with_reducible first | refine auKt ?_ | refine auKf ?_ | refine auNt ?_ | refine auNf ?_ | refine auEt ?_ | refine auEf ?_); conv => whnf) | ((with_reducible first | refine br_dec ?_ ?_ | refine br_ndec ?_ ?_ | refine br_ne ?_ ?_ | refine br_eq ?_ ?_) <;> intro h <;> first | (exfalso; omega) | conv => whnf) | (refine br_intro ?_ ?_ <;> intro h <;> conv => whnf) | ((first | refine auNd ?_ | refine idx_nat (by omega) (fun x hx => ?_) | refine frz_auto ?_ | refine draw_plain ?_ | refine auIx (fun x hx => ?_)); conv => whnf)
  exact ⟨1, 1, false, by simp only [cast_self, Nat.zero_add], by simp only [cast_self, List.take_zero, List.nil_append]; rfl⟩
 ·cases h
noncomputable def cxs : Cx := ⟨tb, [(11, Try.f11), (35, Try.f35), (40, Try.f40), (34, Try.f34), (17, Try.f17), (21, Try.f21), (20, Try.f20), (37, Try.f37), (41, Try.f41), (42, Try.f42), (43, Try.f43)], [(32, .d spCL), (33, .f spClE1)]⟩
theorem specss : SpecsOk Try.prog cxs.specs := .cons entsCL_ok (.consF cloneE1_ok .nil)
theorem fnss : FnsOk Try.prog cxs.fns := .cons fnOk_bOf (.cons fnOk_bIs (.cons fnOk_rNone6 (.cons fnOk_rRun6 (.cons fnOk_bLast (.cons fnOk_bLen (.cons fnOk_bRoom (.cons fnOk_bCount (.cons fnOk_rLast6 (.cons fnOk_rLen6 (.cons fnOk_rRoom6 .nil))))))))))
theorem calls : CallOk Try.prog (callN cxs 3) := callN_ok mixed tbOk specss fnss 3
theorem K_r {K : AV → Hp → Prop} {i e : Int} {l l' : List entT.El} {h : Hp} (hk : K (.tup [.agg [.int .i64 i, .lst entT l'], .int .i64 e]) h) (hl : l = l') : K (.tup [.agg [.int .i64 i, .lst entT l], .int .i64 e]) h := hl ▸ hk
theorem of_bad {id : Int} {l : List entT.El} (h : id < 1 ∨ 1000000 < id) : ofR id l = (0, [], 7) := if_pos h
theorem of_none {id : Int} {l : List entT.El} (h : ¬ (id < 1 ∨ 1000000 < id)) (hl : l.length = 0) : ofR id l = (0, [], 4) := by
 have : l = [] := List.length_eq_zero_iff.1 hl
 subst this
 unfold ofR
 rw [if_neg h]
 rfl
theorem of_ok {id : Int} {l : List entT.El} (h : ¬ (id < 1 ∨ 1000000 < id)) (hl : l.length ≠ 0) (ho : okL8 l) (h5 : l.length ≤ 5000) : ofR id l = (id, l, 0) := by
 unfold ofR
 rw [if_neg h, okL8_cl ho h5, if_neg (by decide), if_neg hl]
set_option maxRecDepth 100000 in
set_option maxHeartbeats 4000000 in
theorem bSeal_own : LocOk Try.prog 19 (fun ys h K => ∃ (id : Int) (b : BM) (g : Nat) , ys = [.ptr 0 0, .int .i64 id] ∧ h = [.cells 65 [.int .i64 b.most, .own 1 g b.l.length, .int .i64 b.st], .arr 25 entT b.l false g] ∧ BW b ∧ ∀ oB' oA', BRel 1 oB' oA' (b.sealN id) → K (.tup [aR (b.sealR id), .int .i64 (b.sealE id)]) [oB', oA']) := by
 refine loc_body (C := cxs) mixed tbOk specss calls fnOk_bSeal ?_
 rintro ys h0 K ⟨id, b, g, rfl, rfl, hw, hK⟩
 have hmo := hw.lo
 have hmi := hw.hi
 have hle0 := hw.len
 cases hs : b.sl with
 | true =>
  have hst := st_two hs
  have he : b.sealE id = 9 := if_pos hs
  have hn : b.sealN id = b := if_neg (by rw [he]; decide)
  have hr : b.sealR id = (0, []) := if_neg (by rw [he]; decide)
  rw [he, hn, hr] at hK
  conv => whnf
  repeat' first | ((first | refine auTq ?_ | refine auFq ?_ | refine auIk ?_ | refine auIi ?_ | refine auT ?_ | refine auF ?_ | with_reducible first | refine auKt ?_ | refine auKf ?_ | refine auNt ?_ | refine auNf ?_ | refine auEt ?_ | refine auEf ?_); conv => whnf) | ((with_reducible first | refine br_dec ?_ ?_ | refine br_ndec ?_ ?_ | refine br_ne ?_ ?_ | refine br_eq ?_ ?_) <;> intro h <;> first | (exfalso; omega) | conv => whnf) | (refine br_intro ?_ ?_ <;> intro h <;> conv => whnf) | ((first | refine auNd ?_ | refine idx_nat (by omega) (fun x hx => ?_) | refine frz_auto ?_ | refine draw_plain ?_ | refine auIx (fun x hx => ?_)); conv => whnf)
  all_goals
   refine exA [0, 1] ?_
   conv => whnf
   repeat (refine auNd ?_; conv => whnf)
   exact hK _ _ (.own g (by simp only [hst]) rfl)
 | false =>
  have hst := st_one hs
  have hs0 : ¬ b.sl = true := by rw [hs]; decide
  by_cases hid : id < 1 ∨ 1000000 < id
  ·have he : b.sealE id = 7 := by unfold BM.sealE; rw [if_neg hs0, if_pos hid]
   have hn : b.sealN id = b := if_neg (by rw [he]; decide)
   have hr : b.sealR id = (0, []) := if_neg (by rw [he]; decide)
   rw [he, hn, hr] at hK
   have hof : ofR id b.l = (0, [], 7) := of_bad hid
   have hcl : (clL (List.take b.l.length b.l)).2 = 0 := by rw [List.take_length, okL8_cl hw.ok (by omega)]
   conv => whnf
   repeat' first | ((first | refine auTq ?_ | refine auFq ?_ | refine auIk ?_ | refine auIi ?_ | refine auT ?_ | refine auF ?_ | with_reducible first | refine auKt ?_ | refine auKf ?_ | refine auNt ?_ | refine auNf ?_ | refine auEt ?_ | refine auEf ?_); conv => whnf) | ((with_reducible first | refine br_dec ?_ ?_ | refine br_ndec ?_ ?_ | refine br_ne ?_ ?_ | refine br_eq ?_ ?_) <;> intro h <;> first | (exfalso; omega) | conv => whnf) | (refine br_intro ?_ ?_ <;> intro h <;> conv => whnf) | ((first | refine auNd ?_ | refine idx_nat (by omega) (fun x hx => ?_) | refine frz_auto ?_ | refine draw_plain ?_ | refine auIx (fun x hx => ?_)); conv => whnf)
   all_goals
    refine exA [0, 1] ?_
    conv => whnf
    repeat (refine auNd ?_; conv => whnf)
    exact hK _ _ (.own g (by simp only [hst]) rfl)
  ·by_cases hl : b.l.length = 0
   ·have he : b.sealE id = 4 := by unfold BM.sealE; rw [if_neg hs0, if_neg hid, if_pos hl]
    have hn : b.sealN id = b := if_neg (by rw [he]; decide)
    have hr : b.sealR id = (0, []) := if_neg (by rw [he]; decide)
    rw [he, hn, hr] at hK
    have hof : ofR id b.l = (0, [], 4) := of_none hid hl
    have hcl : (clL (List.take b.l.length b.l)).2 = 0 := by rw [List.take_length, okL8_cl hw.ok (by omega)]
    have hln : (b.l.length : Int) = 0 := by omega
    conv => whnf
    repeat' first | ((first | refine auTq ?_ | refine auFq ?_ | refine auIk ?_ | refine auIi ?_ | refine auT ?_ | refine auF ?_ | with_reducible first | refine auKt ?_ | refine auKf ?_ | refine auNt ?_ | refine auNf ?_ | refine auEt ?_ | refine auEf ?_); conv => whnf) | ((with_reducible first | refine br_dec ?_ ?_ | refine br_ndec ?_ ?_ | refine br_ne ?_ ?_ | refine br_eq ?_ ?_) <;> intro h <;> first | (exfalso; omega) | conv => whnf) | (refine br_intro ?_ ?_ <;> intro h <;> conv => whnf) | ((first | refine auNd ?_ | refine idx_nat (by omega) (fun x hx => ?_) | refine frz_auto ?_ | refine draw_plain ?_ | refine auIx (fun x hx => ?_)); conv => whnf)
    all_goals
     refine exA [0, 1] ?_
     conv => whnf
     repeat (refine auNd ?_; conv => whnf)
     exact hK _ _ (.own g (by simp only [hst]) rfl)
   ·have he : b.sealE id = 0 := by unfold BM.sealE; rw [if_neg hs0, if_neg hid, if_neg hl]
    have hn : b.sealN id = { b with sl := true } := if_pos he
    have hr : b.sealR id = (id, b.l) := if_pos he
    rw [he, hn, hr] at hK
    have hof : ofR id b.l = (id, b.l, 0) := of_ok hid hl hw.ok (by omega)
    have hcl : (clL (List.take b.l.length b.l)).2 = 0 := by rw [List.take_length, okL8_cl hw.ok (by omega)]
    have hln : (b.l.length : Int) ≠ 0 := by omega
    conv => whnf
    repeat' first | ((first | refine auTq ?_ | refine auFq ?_ | refine auIk ?_ | refine auIi ?_ | refine auT ?_ | refine auF ?_ | with_reducible first | refine auKt ?_ | refine auKf ?_ | refine auNt ?_ | refine auNf ?_ | refine auEt ?_ | refine auEf ?_); conv => whnf) | ((with_reducible first | refine br_dec ?_ ?_ | refine br_ndec ?_ ?_ | refine br_ne ?_ ?_ | refine br_eq ?_ ?_) <;> intro h <;> first | (exfalso; omega) | conv => whnf) | (refine br_intro ?_ ?_ <;> intro h <;> conv => whnf) | ((first | refine auNd ?_ | refine idx_nat (by omega) (fun x hx => ?_) | refine frz_auto ?_ | refine draw_plain ?_ | refine auIx (fun x hx => ?_)); conv => whnf)
    all_goals
     refine exA [0, 1] ?_
     conv => whnf
     repeat (refine auNd ?_; conv => whnf)
     refine K_r (hK _ _ (.own g rfl rfl)) ?_
     simp [cast_self]
set_option maxRecDepth 100000 in
set_option maxHeartbeats 4000000 in
theorem bSeal_tig : LocOk Try.prog 19 (fun ys h K => ∃ (id : Int) (b : BM) (g : Nat) , ys = [.ptr 0 0, .int .i64 id] ∧ h = [.cells 65 [.int .i64 b.most, .tlst entT b.l, .int .i64 b.st], .arr 25 entT [] false g] ∧ BW b ∧ ∀ oB' oA', BRel 1 oB' oA' (b.sealN id) → K (.tup [aR (b.sealR id), .int .i64 (b.sealE id)]) [oB', oA']) := by
 refine loc_body (C := cxs) mixed tbOk specss calls fnOk_bSeal ?_
 rintro ys h0 K ⟨id, b, g, rfl, rfl, hw, hK⟩
 have hmo := hw.lo
 have hmi := hw.hi
 have hle0 := hw.len
 cases hs : b.sl with
 | true =>
  have hst := st_two hs
  have he : b.sealE id = 9 := if_pos hs
  have hn : b.sealN id = b := if_neg (by rw [he]; decide)
  have hr : b.sealR id = (0, []) := if_neg (by rw [he]; decide)
  rw [he, hn, hr] at hK
  conv => whnf
  repeat' first | ((first | refine auTq ?_ | refine auFq ?_ | refine auIk ?_ | refine auIi ?_ | refine auT ?_ | refine auF ?_ | with_reducible first | refine auKt ?_ | refine auKf ?_ | refine auNt ?_ | refine auNf ?_ | refine auEt ?_ | refine auEf ?_); conv => whnf) | ((with_reducible first | refine br_dec ?_ ?_ | refine br_ndec ?_ ?_ | refine br_ne ?_ ?_ | refine br_eq ?_ ?_) <;> intro h <;> first | (exfalso; omega) | conv => whnf) | (refine br_intro ?_ ?_ <;> intro h <;> conv => whnf) | ((first | refine auNd ?_ | refine idx_nat (by omega) (fun x hx => ?_) | refine frz_auto ?_ | refine draw_plain ?_ | refine auIx (fun x hx => ?_)); conv => whnf)
  all_goals
   refine exA [0, 1] ?_
   conv => whnf
   repeat (refine auNd ?_; conv => whnf)
   exact hK _ _ (.tig g (by simp only [hst]) rfl)
 | false =>
  have hst := st_one hs
  have hs0 : ¬ b.sl = true := by rw [hs]; decide
  by_cases hid : id < 1 ∨ 1000000 < id
  ·have he : b.sealE id = 7 := by unfold BM.sealE; rw [if_neg hs0, if_pos hid]
   have hn : b.sealN id = b := if_neg (by rw [he]; decide)
   have hr : b.sealR id = (0, []) := if_neg (by rw [he]; decide)
   rw [he, hn, hr] at hK
   have hof : ofR id b.l = (0, [], 7) := of_bad hid
   have hcl : (clL b.l).2 = 0 := by rw [okL8_cl hw.ok (by omega)]
   conv => whnf
   repeat' first | ((first | refine auTq ?_ | refine auFq ?_ | refine auIk ?_ | refine auIi ?_ | refine auT ?_ | refine auF ?_ | with_reducible first | refine auKt ?_ | refine auKf ?_ | refine auNt ?_ | refine auNf ?_ | refine auEt ?_ | refine auEf ?_); conv => whnf) | ((with_reducible first | refine br_dec ?_ ?_ | refine br_ndec ?_ ?_ | refine br_ne ?_ ?_ | refine br_eq ?_ ?_) <;> intro h <;> first | (exfalso; omega) | conv => whnf) | (refine br_intro ?_ ?_ <;> intro h <;> conv => whnf) | ((first | refine auNd ?_ | refine idx_nat (by omega) (fun x hx => ?_) | refine frz_auto ?_ | refine draw_plain ?_ | refine auIx (fun x hx => ?_)); conv => whnf)
   all_goals
    refine exA [0, 1] ?_
    conv => whnf
    repeat (refine auNd ?_; conv => whnf)
    exact hK _ _ (.tig g (by simp only [hst]) rfl)
  ·by_cases hl : b.l.length = 0
   ·have he : b.sealE id = 4 := by unfold BM.sealE; rw [if_neg hs0, if_neg hid, if_pos hl]
    have hn : b.sealN id = b := if_neg (by rw [he]; decide)
    have hr : b.sealR id = (0, []) := if_neg (by rw [he]; decide)
    rw [he, hn, hr] at hK
    have hof : ofR id b.l = (0, [], 4) := of_none hid hl
    have hcl : (clL b.l).2 = 0 := by rw [okL8_cl hw.ok (by omega)]
    have hln : (b.l.length : Int) = 0 := by omega
    conv => whnf
    repeat' first | ((first | refine auTq ?_ | refine auFq ?_ | refine auIk ?_ | refine auIi ?_ | refine auT ?_ | refine auF ?_ | with_reducible first | refine auKt ?_ | refine auKf ?_ | refine auNt ?_ | refine auNf ?_ | refine auEt ?_ | refine auEf ?_); conv => whnf) | ((with_reducible first | refine br_dec ?_ ?_ | refine br_ndec ?_ ?_ | refine br_ne ?_ ?_ | refine br_eq ?_ ?_) <;> intro h <;> first | (exfalso; omega) | conv => whnf) | (refine br_intro ?_ ?_ <;> intro h <;> conv => whnf) | ((first | refine auNd ?_ | refine idx_nat (by omega) (fun x hx => ?_) | refine frz_auto ?_ | refine draw_plain ?_ | refine auIx (fun x hx => ?_)); conv => whnf)
    all_goals
     refine exA [0, 1] ?_
     conv => whnf
     repeat (refine auNd ?_; conv => whnf)
     exact hK _ _ (.tig g (by simp only [hst]) rfl)
   ·have he : b.sealE id = 0 := by unfold BM.sealE; rw [if_neg hs0, if_neg hid, if_neg hl]
    have hn : b.sealN id = { b with sl := true } := if_pos he
    have hr : b.sealR id = (id, b.l) := if_pos he
    rw [he, hn, hr] at hK
    have hof : ofR id b.l = (id, b.l, 0) := of_ok hid hl hw.ok (by omega)
    have hcl : (clL b.l).2 = 0 := by rw [okL8_cl hw.ok (by omega)]
    have hln : (b.l.length : Int) ≠ 0 := by omega
    conv => whnf
    repeat' first | ((first | refine auTq ?_ | refine auFq ?_ | refine auIk ?_ | refine auIi ?_ | refine auT ?_ | refine auF ?_ | with_reducible first | refine auKt ?_ | refine auKf ?_ | refine auNt ?_ | refine auNf ?_ | refine auEt ?_ | refine auEf ?_); conv => whnf) | ((with_reducible first | refine br_dec ?_ ?_ | refine br_ndec ?_ ?_ | refine br_ne ?_ ?_ | refine br_eq ?_ ?_) <;> intro h <;> first | (exfalso; omega) | conv => whnf) | (refine br_intro ?_ ?_ <;> intro h <;> conv => whnf) | ((first | refine auNd ?_ | refine idx_nat (by omega) (fun x hx => ?_) | refine frz_auto ?_ | refine draw_plain ?_ | refine auIx (fun x hx => ?_)); conv => whnf)
    all_goals
     refine exA [0, 1] ?_
     conv => whnf
     repeat (refine auNd ?_; conv => whnf)
     refine K_r (hK _ _ (.tig g rfl rfl)) ?_
     simp [cast_self]
set_option maxRecDepth 100000 in
set_option maxHeartbeats 4000000 in
theorem bSeal_res : LocOk Try.prog 19 (fun ys h K => ∃ (id : Int) (b : BM) , ys = [.ptr 0 0, .int .i64 id] ∧ h = [.cells 65 [.int .i64 b.most, .tlst entT b.l, .int .i64 b.st], .resv] ∧ BW b ∧ ∀ oB' oA', BRel 1 oB' oA' (b.sealN id) → K (.tup [aR (b.sealR id), .int .i64 (b.sealE id)]) [oB', oA']) := by
 refine loc_body (C := cxs) mixed tbOk specss calls fnOk_bSeal ?_
 rintro ys h0 K ⟨id, b, rfl, rfl, hw, hK⟩
 have hmo := hw.lo
 have hmi := hw.hi
 have hle0 := hw.len
 cases hs : b.sl with
 | true =>
  have hst := st_two hs
  have he : b.sealE id = 9 := if_pos hs
  have hn : b.sealN id = b := if_neg (by rw [he]; decide)
  have hr : b.sealR id = (0, []) := if_neg (by rw [he]; decide)
  rw [he, hn, hr] at hK
  conv => whnf
  repeat' first | ((first | refine auTq ?_ | refine auFq ?_ | refine auIk ?_ | refine auIi ?_ | refine auT ?_ | refine auF ?_ | with_reducible first | refine auKt ?_ | refine auKf ?_ | refine auNt ?_ | refine auNf ?_ | refine auEt ?_ | refine auEf ?_); conv => whnf) | ((with_reducible first | refine br_dec ?_ ?_ | refine br_ndec ?_ ?_ | refine br_ne ?_ ?_ | refine br_eq ?_ ?_) <;> intro h <;> first | (exfalso; omega) | conv => whnf) | (refine br_intro ?_ ?_ <;> intro h <;> conv => whnf) | ((first | refine auNd ?_ | refine idx_nat (by omega) (fun x hx => ?_) | refine frz_auto ?_ | refine draw_plain ?_ | refine auIx (fun x hx => ?_)); conv => whnf)
  all_goals
   refine exA [0, 1] ?_
   conv => whnf
   repeat (refine auNd ?_; conv => whnf)
   exact hK _ _ (.res (by simp only [hst]) rfl)
 | false =>
  have hst := st_one hs
  have hs0 : ¬ b.sl = true := by rw [hs]; decide
  by_cases hid : id < 1 ∨ 1000000 < id
  ·have he : b.sealE id = 7 := by unfold BM.sealE; rw [if_neg hs0, if_pos hid]
   have hn : b.sealN id = b := if_neg (by rw [he]; decide)
   have hr : b.sealR id = (0, []) := if_neg (by rw [he]; decide)
   rw [he, hn, hr] at hK
   have hof : ofR id b.l = (0, [], 7) := of_bad hid
   have hcl : (clL b.l).2 = 0 := by rw [okL8_cl hw.ok (by omega)]
   conv => whnf
   repeat' first | ((first | refine auTq ?_ | refine auFq ?_ | refine auIk ?_ | refine auIi ?_ | refine auT ?_ | refine auF ?_ | with_reducible first | refine auKt ?_ | refine auKf ?_ | refine auNt ?_ | refine auNf ?_ | refine auEt ?_ | refine auEf ?_); conv => whnf) | ((with_reducible first | refine br_dec ?_ ?_ | refine br_ndec ?_ ?_ | refine br_ne ?_ ?_ | refine br_eq ?_ ?_) <;> intro h <;> first | (exfalso; omega) | conv => whnf) | (refine br_intro ?_ ?_ <;> intro h <;> conv => whnf) | ((first | refine auNd ?_ | refine idx_nat (by omega) (fun x hx => ?_) | refine frz_auto ?_ | refine draw_plain ?_ | refine auIx (fun x hx => ?_)); conv => whnf)
   all_goals
    refine exA [0, 1] ?_
    conv => whnf
    repeat (refine auNd ?_; conv => whnf)
    exact hK _ _ (.res (by simp only [hst]) rfl)
  ·by_cases hl : b.l.length = 0
   ·have he : b.sealE id = 4 := by unfold BM.sealE; rw [if_neg hs0, if_neg hid, if_pos hl]
    have hn : b.sealN id = b := if_neg (by rw [he]; decide)
    have hr : b.sealR id = (0, []) := if_neg (by rw [he]; decide)
    rw [he, hn, hr] at hK
    have hof : ofR id b.l = (0, [], 4) := of_none hid hl
    have hcl : (clL b.l).2 = 0 := by rw [okL8_cl hw.ok (by omega)]
    have hln : (b.l.length : Int) = 0 := by omega
    conv => whnf
    repeat' first | ((first | refine auTq ?_ | refine auFq ?_ | refine auIk ?_ | refine auIi ?_ | refine auT ?_ | refine auF ?_ | with_reducible first | refine auKt ?_ | refine auKf ?_ | refine auNt ?_ | refine auNf ?_ | refine auEt ?_ | refine auEf ?_); conv => whnf) | ((with_reducible first | refine br_dec ?_ ?_ | refine br_ndec ?_ ?_ | refine br_ne ?_ ?_ | refine br_eq ?_ ?_) <;> intro h <;> first | (exfalso; omega) | conv => whnf) | (refine br_intro ?_ ?_ <;> intro h <;> conv => whnf) | ((first | refine auNd ?_ | refine idx_nat (by omega) (fun x hx => ?_) | refine frz_auto ?_ | refine draw_plain ?_ | refine auIx (fun x hx => ?_)); conv => whnf)
    all_goals
     refine exA [0, 1] ?_
     conv => whnf
     repeat (refine auNd ?_; conv => whnf)
     exact hK _ _ (.res (by simp only [hst]) rfl)
   ·have he : b.sealE id = 0 := by unfold BM.sealE; rw [if_neg hs0, if_neg hid, if_neg hl]
    have hn : b.sealN id = { b with sl := true } := if_pos he
    have hr : b.sealR id = (id, b.l) := if_pos he
    rw [he, hn, hr] at hK
    have hof : ofR id b.l = (id, b.l, 0) := of_ok hid hl hw.ok (by omega)
    have hcl : (clL b.l).2 = 0 := by rw [okL8_cl hw.ok (by omega)]
    have hln : (b.l.length : Int) ≠ 0 := by omega
    conv => whnf
    repeat' first | ((first | refine auTq ?_ | refine auFq ?_ | refine auIk ?_ | refine auIi ?_ | refine auT ?_ | refine auF ?_ | with_reducible first | refine auKt ?_ | refine auKf ?_ | refine auNt ?_ | refine auNf ?_ | refine auEt ?_ | refine auEf ?_); conv => whnf) | ((with_reducible first | refine br_dec ?_ ?_ | refine br_ndec ?_ ?_ | refine br_ne ?_ ?_ | refine br_eq ?_ ?_) <;> intro h <;> first | (exfalso; omega) | conv => whnf) | (refine br_intro ?_ ?_ <;> intro h <;> conv => whnf) | ((first | refine auNd ?_ | refine idx_nat (by omega) (fun x hx => ?_) | refine frz_auto ?_ | refine draw_plain ?_ | refine auIx (fun x hx => ?_)); conv => whnf)
    all_goals
     refine exA [0, 1] ?_
     conv => whnf
     repeat (refine auNd ?_; conv => whnf)
     refine K_r (hK _ _ (.res rfl rfl)) ?_
     simp [cast_self]
theorem bSeal_ok : LocOk Try.prog 19 bSealA := by
 rintro ys h0 K ⟨id, b, oB, oA, rfl, rfl, hw, hr, hK⟩
 rcases hr with ⟨g, rfl, rfl⟩ | ⟨g, rfl, rfl⟩ | ⟨rfl, rfl⟩
 ·exact bSeal_own _ _ _ ⟨id, b, g, rfl, rfl, hw, hK⟩
 ·exact bSeal_tig _ _ _ ⟨id, b, g, rfl, rfl, hw, hK⟩
 ·exact bSeal_res _ _ _ ⟨id, b, rfl, rfl, hw, hK⟩
set_option maxRecDepth 100000 in
set_option maxHeartbeats 4000000 in
theorem rSeal_ok : LocOk Try.prog 29 rSealA := by
 refine loc_body (C := cxs) mixed tbOk specss calls fnOk_rSealC ?_
 rintro ys h0 K ⟨id, b, rfl, rfl, hw, hK⟩
 have hmo := hw.lo
 have hmi := hw.hi
 have hle0 := hw.len
 have hmz : b.most ≠ 0 := by omega
 cases hs : b.sl with
 | true =>
  have hst := st_two hs
  have he : b.sealE id = 9 := if_pos hs
  have hn : b.sealN id = b := if_neg (by rw [he]; decide)
  have hr : b.sealR id = (0, []) := if_neg (by rw [he]; decide)
  rw [he, hn, hr] at hK
  conv => whnf
  repeat' first | ((first | refine auTq ?_ | refine auFq ?_ | refine auIk ?_ | refine auIi ?_ | refine auT ?_ | refine auF ?_ | with_reducible first | refine auKt ?_ | refine auKf ?_ | refine auNt ?_ | refine auNf ?_ | refine auEt ?_ | refine auEf ?_); conv => whnf) | ((with_reducible first | refine br_dec ?_ ?_ | refine br_ndec ?_ ?_ | refine br_ne ?_ ?_ | refine br_eq ?_ ?_) <;> intro h <;> first | (exfalso; omega) | conv => whnf) | (refine br_intro ?_ ?_ <;> intro h <;> conv => whnf) | ((first | refine auNd ?_ | refine idx_nat (by omega) (fun x hx => ?_) | refine frz_auto ?_ | refine draw_plain ?_ | refine auIx (fun x hx => ?_)); conv => whnf)
  all_goals
   refine exA [0] ?_
   conv => whnf
   repeat (refine auNd ?_; conv => whnf)
   exact hK
 | false =>
  have hst := st_one hs
  have hs0 : ¬ b.sl = true := by rw [hs]; decide
  by_cases hid : id < 1 ∨ 1000000 < id
  ·have he : b.sealE id = 7 := by unfold BM.sealE; rw [if_neg hs0, if_pos hid]
   have hn : b.sealN id = b := if_neg (by rw [he]; decide)
   have hr : b.sealR id = (0, []) := if_neg (by rw [he]; decide)
   rw [he, hn, hr] at hK
   have hof : ofR id b.l = (0, [], 7) := of_bad hid
   conv => whnf
   repeat' first | ((first | refine auTq ?_ | refine auFq ?_ | refine auIk ?_ | refine auIi ?_ | refine auT ?_ | refine auF ?_ | with_reducible first | refine auKt ?_ | refine auKf ?_ | refine auNt ?_ | refine auNf ?_ | refine auEt ?_ | refine auEf ?_); conv => whnf) | ((with_reducible first | refine br_dec ?_ ?_ | refine br_ndec ?_ ?_ | refine br_ne ?_ ?_ | refine br_eq ?_ ?_) <;> intro h <;> first | (exfalso; omega) | conv => whnf) | (refine br_intro ?_ ?_ <;> intro h <;> conv => whnf) | ((first | refine auNd ?_ | refine idx_nat (by omega) (fun x hx => ?_) | refine frz_auto ?_ | refine draw_plain ?_ | refine auIx (fun x hx => ?_)); conv => whnf)
   all_goals
    refine exA [0] ?_
    conv => whnf
    repeat (refine auNd ?_; conv => whnf)
    exact hK
  ·by_cases hl : b.l.length = 0
   ·have he : b.sealE id = 4 := by unfold BM.sealE; rw [if_neg hs0, if_neg hid, if_pos hl]
    have hn : b.sealN id = b := if_neg (by rw [he]; decide)
    have hr : b.sealR id = (0, []) := if_neg (by rw [he]; decide)
    rw [he, hn, hr] at hK
    have hof : ofR id b.l = (0, [], 4) := of_none hid hl
    have hln : (b.l.length : Int) = 0 := by omega
    conv => whnf
    repeat' first | ((first | refine auTq ?_ | refine auFq ?_ | refine auIk ?_ | refine auIi ?_ | refine auT ?_ | refine auF ?_ | with_reducible first | refine auKt ?_ | refine auKf ?_ | refine auNt ?_ | refine auNf ?_ | refine auEt ?_ | refine auEf ?_); conv => whnf) | ((with_reducible first | refine br_dec ?_ ?_ | refine br_ndec ?_ ?_ | refine br_ne ?_ ?_ | refine br_eq ?_ ?_) <;> intro h <;> first | (exfalso; omega) | conv => whnf) | (refine br_intro ?_ ?_ <;> intro h <;> conv => whnf) | ((first | refine auNd ?_ | refine idx_nat (by omega) (fun x hx => ?_) | refine frz_auto ?_ | refine draw_plain ?_ | refine auIx (fun x hx => ?_)); conv => whnf)
    all_goals
     refine exA [0] ?_
     conv => whnf
     repeat (refine auNd ?_; conv => whnf)
     exact hK
   ·have he : b.sealE id = 0 := by unfold BM.sealE; rw [if_neg hs0, if_neg hid, if_neg hl]
    have hn : b.sealN id = { b with sl := true } := if_pos he
    have hr : b.sealR id = (id, b.l) := if_pos he
    rw [he, hn, hr] at hK
    have hof : ofR id b.l = (id, b.l, 0) := of_ok hid hl hw.ok (by omega)
    have hln : (b.l.length : Int) ≠ 0 := by omega
    conv => whnf
    repeat' first | ((first | refine auTq ?_ | refine auFq ?_ | refine auIk ?_ | refine auIi ?_ | refine auT ?_ | refine auF ?_ | with_reducible first | refine auKt ?_ | refine auKf ?_ | refine auNt ?_ | refine auNf ?_ | refine auEt ?_ | refine auEf ?_); conv => whnf) | ((with_reducible first | refine br_dec ?_ ?_ | refine br_ndec ?_ ?_ | refine br_ne ?_ ?_ | refine br_eq ?_ ?_) <;> intro h <;> first | (exfalso; omega) | conv => whnf) | (refine br_intro ?_ ?_ <;> intro h <;> conv => whnf) | ((first | refine auNd ?_ | refine idx_nat (by omega) (fun x hx => ?_) | refine frz_auto ?_ | refine draw_plain ?_ | refine auIx (fun x hx => ?_)); conv => whnf)
    all_goals
     refine exA [0] ?_
     conv => whnf
     repeat (refine auNd ?_; conv => whnf)
     refine K_r hK ?_
     simp [cast_self]
inductive akP (ys : List AV) (h : Hp) (K : AV → Hp → Prop) : Prop where
 | mk (b : BM) (oB oA : AObj) (hy : ys = [.ptr 0 0, .ptr 2 0]) (hh : h = [oB, oA, RO b]) (hw : BW b) (hr : BRel 1 oB oA b) (hK : ∀ oB' oA', BRel 1 oB' oA' b → K (.bool true) [oB', oA', RO b]) : akP ys h K
def akA : LocA := fun ys h K => akP ys h K
set_option maxRecDepth 100000 in
set_option maxHeartbeats 4000000 in
theorem ak_own : LocOk Try.prog 30 (fun ys h K => ∃ (b : BM) (g : Nat) , ys = [.ptr 0 0, .ptr 2 0] ∧ h = [.cells 65 [.int .i64 b.most, .own 1 g b.l.length, .int .i64 b.st], .arr 25 entT b.l false g, RO b] ∧ BW b ∧ ∀ oB' oA', BRel 1 oB' oA' b → K (.bool true) [oB', oA', RO b]) := by
  refine loc_body (C := cxs) mixed tbOk specss calls fnOk_alikeC ?_
  rintro ys h0 K ⟨b, g, rfl, rfl, hw, hK⟩
  have hmo := hw.lo
  have hmi := hw.hi
  have hle0 := hw.len
  have hmz : b.most ≠ 0 := by omega
  have hst : b.st = b.st := rfl
  have hre : (b.most - (b.l.length : Int) == b.most - (b.l.length : Int)) = true := beq_self_eq_true _
  have hrl : ((b.l.length : Int) == (b.l.length : Int)) = true := beq_self_eq_true _
  cases hs : b.sl <;> (first | have hs1 := st_one hs | have hs1 := st_two hs) <;> by_cases hl : b.l.length = 0
  all_goals
    first
      | (have hln : (b.l.length : Int) = 0 := by omega
         conv => whnf
         repeat' first | ((first | refine auTq ?_ | refine auFq ?_ | refine auIk ?_ | refine auIi ?_ | refine auT ?_ | refine auF ?_ | with_reducible first | refine auKt ?_ | refine auKf ?_ | refine auNt ?_ | refine auNf ?_ | refine auEt ?_ | refine auEf ?_); conv => whnf) | ((with_reducible first | refine br_dec ?_ ?_ | refine br_ndec ?_ ?_ | refine br_ne ?_ ?_ | refine br_eq ?_ ?_) <;> intro h <;> first | (exfalso; omega) | conv => whnf) | (refine br_intro ?_ ?_ <;> intro h <;> conv => whnf) | ((first | refine auNd ?_ | refine idx_nat (by omega) (fun x hx => ?_) | refine frz_auto ?_ | refine draw_plain ?_ | refine auIx (fun x hx => ?_)); conv => whnf)
         all_goals
           refine exA [0, 1, 2] ?_
           conv => whnf
           exact hK _ _ (.own g (by simp only [hst]) rfl))
      | (have hln : (b.l.length : Int) ≠ 0 := by omega
         have hlt : ((b.l.length : Int) - 1).toNat < b.l.length := by omega
         have hlg : 0 ≤ (b.l.length : Int) - 1 := by omega
         obtain ⟨y, hy⟩ : ∃ y, b.l[((b.l.length : Int) - 1).toNat]? = some y := ⟨_, List.getElem?_eq_getElem hlt⟩
         have hyy := eqE_refl y
         conv => whnf
         repeat' first | ((first | refine auTq ?_ | refine auFq ?_ | refine auIk ?_ | refine auIi ?_ | refine auT ?_ | refine auF ?_ | with_reducible first | refine auKt ?_ | refine auKf ?_ | refine auNt ?_ | refine auNf ?_ | refine auEt ?_ | refine auEf ?_); conv => whnf) | ((with_reducible first | refine br_dec ?_ ?_ | refine br_ndec ?_ ?_ | refine br_ne ?_ ?_ | refine br_eq ?_ ?_) <;> intro h <;> first | (exfalso; omega) | conv => whnf) | (refine br_intro ?_ ?_ <;> intro h <;> conv => whnf) | ((first | refine auNd ?_ | refine idx_nat (by omega) (fun x hx => ?_) | refine frz_auto ?_ | refine draw_plain ?_ | refine auIx (fun x hx => ?_)); conv => whnf)
         all_goals
           refine exA [0, 1, 2] ?_
           conv => whnf
           exact hK _ _ (.own g (by simp only [hst]) rfl))
set_option maxRecDepth 100000 in
set_option maxHeartbeats 4000000 in
theorem ak_tig : LocOk Try.prog 30 (fun ys h K => ∃ (b : BM) (g : Nat) , ys = [.ptr 0 0, .ptr 2 0] ∧ h = [.cells 65 [.int .i64 b.most, .tlst entT b.l, .int .i64 b.st], .arr 25 entT [] false g, RO b] ∧ BW b ∧ ∀ oB' oA', BRel 1 oB' oA' b → K (.bool true) [oB', oA', RO b]) := by
  refine loc_body (C := cxs) mixed tbOk specss calls fnOk_alikeC ?_
  rintro ys h0 K ⟨b, g, rfl, rfl, hw, hK⟩
  have hmo := hw.lo
  have hmi := hw.hi
  have hle0 := hw.len
  have hmz : b.most ≠ 0 := by omega
  have hst : b.st = b.st := rfl
  have hre : (b.most - (b.l.length : Int) == b.most - (b.l.length : Int)) = true := beq_self_eq_true _
  have hrl : ((b.l.length : Int) == (b.l.length : Int)) = true := beq_self_eq_true _
  cases hs : b.sl <;> (first | have hs1 := st_one hs | have hs1 := st_two hs) <;> by_cases hl : b.l.length = 0
  all_goals
    first
      | (have hln : (b.l.length : Int) = 0 := by omega
         conv => whnf
         repeat' first | ((first | refine auTq ?_ | refine auFq ?_ | refine auIk ?_ | refine auIi ?_ | refine auT ?_ | refine auF ?_ | with_reducible first | refine auKt ?_ | refine auKf ?_ | refine auNt ?_ | refine auNf ?_ | refine auEt ?_ | refine auEf ?_); conv => whnf) | ((with_reducible first | refine br_dec ?_ ?_ | refine br_ndec ?_ ?_ | refine br_ne ?_ ?_ | refine br_eq ?_ ?_) <;> intro h <;> first | (exfalso; omega) | conv => whnf) | (refine br_intro ?_ ?_ <;> intro h <;> conv => whnf) | ((first | refine auNd ?_ | refine idx_nat (by omega) (fun x hx => ?_) | refine frz_auto ?_ | refine draw_plain ?_ | refine auIx (fun x hx => ?_)); conv => whnf)
         all_goals
           refine exA [0, 1, 2] ?_
           conv => whnf
           exact hK _ _ (.tig g (by simp only [hst]) rfl))
      | (have hln : (b.l.length : Int) ≠ 0 := by omega
         have hlt : ((b.l.length : Int) - 1).toNat < b.l.length := by omega
         have hlg : 0 ≤ (b.l.length : Int) - 1 := by omega
         obtain ⟨y, hy⟩ : ∃ y, b.l[((b.l.length : Int) - 1).toNat]? = some y := ⟨_, List.getElem?_eq_getElem hlt⟩
         have hyy := eqE_refl y
         conv => whnf
         repeat' first | ((first | refine auTq ?_ | refine auFq ?_ | refine auIk ?_ | refine auIi ?_ | refine auT ?_ | refine auF ?_ | with_reducible first | refine auKt ?_ | refine auKf ?_ | refine auNt ?_ | refine auNf ?_ | refine auEt ?_ | refine auEf ?_); conv => whnf) | ((with_reducible first | refine br_dec ?_ ?_ | refine br_ndec ?_ ?_ | refine br_ne ?_ ?_ | refine br_eq ?_ ?_) <;> intro h <;> first | (exfalso; omega) | conv => whnf) | (refine br_intro ?_ ?_ <;> intro h <;> conv => whnf) | ((first | refine auNd ?_ | refine idx_nat (by omega) (fun x hx => ?_) | refine frz_auto ?_ | refine draw_plain ?_ | refine auIx (fun x hx => ?_)); conv => whnf)
         all_goals
           refine exA [0, 1, 2] ?_
           conv => whnf
           exact hK _ _ (.tig g (by simp only [hst]) rfl))
set_option maxRecDepth 100000 in
set_option maxHeartbeats 4000000 in
theorem ak_res : LocOk Try.prog 30 (fun ys h K => ∃ (b : BM) , ys = [.ptr 0 0, .ptr 2 0] ∧ h = [.cells 65 [.int .i64 b.most, .tlst entT b.l, .int .i64 b.st], .resv, RO b] ∧ BW b ∧ ∀ oB' oA', BRel 1 oB' oA' b → K (.bool true) [oB', oA', RO b]) := by
  refine loc_body (C := cxs) mixed tbOk specss calls fnOk_alikeC ?_
  rintro ys h0 K ⟨b, rfl, rfl, hw, hK⟩
  have hmo := hw.lo
  have hmi := hw.hi
  have hle0 := hw.len
  have hmz : b.most ≠ 0 := by omega
  have hst : b.st = b.st := rfl
  have hre : (b.most - (b.l.length : Int) == b.most - (b.l.length : Int)) = true := beq_self_eq_true _
  have hrl : ((b.l.length : Int) == (b.l.length : Int)) = true := beq_self_eq_true _
  cases hs : b.sl <;> (first | have hs1 := st_one hs | have hs1 := st_two hs) <;> by_cases hl : b.l.length = 0
  all_goals
    first
      | (have hln : (b.l.length : Int) = 0 := by omega
         conv => whnf
         repeat' first | ((first | refine auTq ?_ | refine auFq ?_ | refine auIk ?_ | refine auIi ?_ | refine auT ?_ | refine auF ?_ | with_reducible first | refine auKt ?_ | refine auKf ?_ | refine auNt ?_ | refine auNf ?_ | refine auEt ?_ | refine auEf ?_); conv => whnf) | ((with_reducible first | refine br_dec ?_ ?_ | refine br_ndec ?_ ?_ | refine br_ne ?_ ?_ | refine br_eq ?_ ?_) <;> intro h <;> first | (exfalso; omega) | conv => whnf) | (refine br_intro ?_ ?_ <;> intro h <;> conv => whnf) | ((first | refine auNd ?_ | refine idx_nat (by omega) (fun x hx => ?_) | refine frz_auto ?_ | refine draw_plain ?_ | refine auIx (fun x hx => ?_)); conv => whnf)
         all_goals
           refine exA [0, 1, 2] ?_
           conv => whnf
           exact hK _ _ (.res (by simp only [hst]) rfl))
      | (have hln : (b.l.length : Int) ≠ 0 := by omega
         have hlt : ((b.l.length : Int) - 1).toNat < b.l.length := by omega
         have hlg : 0 ≤ (b.l.length : Int) - 1 := by omega
         obtain ⟨y, hy⟩ : ∃ y, b.l[((b.l.length : Int) - 1).toNat]? = some y := ⟨_, List.getElem?_eq_getElem hlt⟩
         have hyy := eqE_refl y
         conv => whnf
         repeat' first | ((first | refine auTq ?_ | refine auFq ?_ | refine auIk ?_ | refine auIi ?_ | refine auT ?_ | refine auF ?_ | with_reducible first | refine auKt ?_ | refine auKf ?_ | refine auNt ?_ | refine auNf ?_ | refine auEt ?_ | refine auEf ?_); conv => whnf) | ((with_reducible first | refine br_dec ?_ ?_ | refine br_ndec ?_ ?_ | refine br_ne ?_ ?_ | refine br_eq ?_ ?_) <;> intro h <;> first | (exfalso; omega) | conv => whnf) | (refine br_intro ?_ ?_ <;> intro h <;> conv => whnf) | ((first | refine auNd ?_ | refine idx_nat (by omega) (fun x hx => ?_) | refine frz_auto ?_ | refine draw_plain ?_ | refine auIx (fun x hx => ?_)); conv => whnf)
         all_goals
           refine exA [0, 1, 2] ?_
           conv => whnf
           exact hK _ _ (.res (by simp only [hst]) rfl))
theorem ak_ok : LocOk Try.prog 30 akA := by
 rintro ys h0 K ⟨b, oB, oA, rfl, rfl, hw, hr, hK⟩
 rcases hr with ⟨g, rfl, rfl⟩ | ⟨g, rfl, rfl⟩ | ⟨rfl, rfl⟩
 ·exact ak_own _ _ _ ⟨b, g, rfl, rfl, hw, hK⟩
 ·exact ak_tig _ _ _ ⟨b, g, rfl, rfl, hw, hK⟩
 ·exact ak_res _ _ _ ⟨b, rfl, rfl, hw, hK⟩
end Go.Proofs.Ytkjoofinfhdcaaa
namespace Av
inductive exWNP (h0 : Hp) (K : AV → Hp → Prop) (v : AV) (h : Hp) : Prop where
 | mk (nz : List NZ) (hh : normK nz .leaf h fun _ h => exNP h0 K v h) : exWNP h0 K v h
theorem exWN_ok {s s1 : St} {K : AV → Hp → Prop} {v : AV} {cr : Go.Value} (hst : Step s s1) (hok : Ok s1) (hv : R s1 v cr) (hk : exWNP s.h K v s1.h) : ∃ s' v', s'.w = s1.w ∧ Step s s' ∧ Ok s' ∧ R s' v' cr ∧ K v' s'.h := by
 obtain ⟨nz, hk⟩ := hk
 obtain ⟨s2, f, h1, h2, _, h3, h4⟩ := normK_ok (a := { tmps := #[], defers := [] }) nz .leaf s1 _ hok (leaf_FR _ _) hk
 obtain ⟨s', v', a1, a2, a3, a4, a5⟩ := exN_ok (hst.trans h1) h2 (R_mono h1 v cr hv) h4
 exact ⟨s', v', a1.trans h3, a2, a3, a4, a5⟩
end Av
namespace Go.Proofs.Ytkjoofinfhdcaaa
open Av Bk

inductive dsP (ys : List AV) (h : Hp) (K : AV → Hp → Prop) : Prop where
 | mk (b : BM) (x : entT.El) (wh id : Int) (oB oA : AObj) (hy : ys = [.ptr 0 0, .ptr 2 0, .agg [.int .u8 wh, .str x.1, .str x.2.1, .bool x.2.2.1, .int .i64 x.2.2.2.1, .int .i64 id]]) (hh : h = [oB, oA, RO b]) (hw : BW b) (hwh : 0 ≤ wh ∧ wh ≤ 255) (hr : BRel 1 oB oA b)
  (hK : ∀ b' oB' oA', (b' = b.addN x ∨ b' = b.sealN id ∨ b' = b) → BRel 1 oB' oA' b' → K (.bool true) [oB', oA', RO b']) : dsP ys h K
def dsA : LocA := fun ys h K => dsP ys h K
noncomputable def cxt : Cx := ⟨tb, [], [(13, .d spRSame)]⟩
theorem specst : SpecsOk Try.prog cxt.specs := .cons r6Same_ok .nil
def loct : List (FuncId × LocA) := [(18, bAddA), (39, rAddA), (19, bSealA), (29, rSealA), (30, akA)]
theorem loctOk : LocsOk Try.prog loct := .cons bAdd_ok (.cons rAdd_ok (.cons bSeal_ok (.cons rSeal_ok (.cons ak_ok .nil))))
theorem callt : CallOk Try.prog (callM cxt loct 2) := callM_ok mixed tbOk specst FnsOk.nil loctOk 2
theorem sealR_len (b : BM) (id : Int) : (b.sealR id).2.length ≤ b.l.length := by
 unfold BM.sealR
 split
 ·exact Nat.le_refl _
 ·simp
set_option maxRecDepth 100000 in
set_option maxHeartbeats 4000000 in
theorem does_ok : LocOk Try.prog 26 dsA := by
 refine loc_bodyX (C := cxt) (E := fun h0 K v h => exQP h0 K v h) mixed tbOk specst callt fnOk_doesC exQ_ok ?_
 rintro ys h0 K ⟨b, x, wh, id, oB, oA, rfl, rfl, hw, ⟨hwh, hwh2⟩, hr, hK⟩
 have hwa := bw_add hw x
 have hws := bw_seal hw id
 have hee : (b.addE x == b.addE x) = true := beq_self_eq_true _
 have hse : (b.sealE id == b.sealE id) = true := beq_self_eq_true _
 have hss : ((b.sealR id).1 == (b.sealR id).1 && sameL entT (b.sealR id).2 (b.sealR id).2) = true := by rw [beq_self_eq_true, same_refl]; rfl
 have hsl : (b.sealR id).2.length ≤ 4611686018427387904 := by have := sealR_len b id; have := hw.len; have := hw.hi; omega
 conv => whnf
 repeat' first | ((first | refine auTq ?_ | refine auFq ?_ | first | (refine frP.nk [0, 1] ?_; (conv => whnf); refine ⟨x, bP.mk b _ _ rfl rfl hw (hr.ren (by rfl)) ?_⟩; rintro oB1 oA1 hr1) | (refine frP.mk [2] ?_; (conv => whnf); refine ⟨x, rP.mk b rfl rfl hw ?_⟩) | (refine frP.nk [0, 1, 2] ?_; (conv => whnf); refine akP.mk (b.addN x) _ _ rfl rfl hwa ((hr1.ren (by rfl)).ren (by rfl)) ?_; rintro oB2 oA2 hr2) | (refine frP.nk [0, 1] ?_; (conv => whnf); refine ⟨id, bP.mk b _ _ rfl rfl hw (hr.ren (by rfl)) ?_⟩; rintro oB3 oA3 hr3) | (refine frP.mk [2] ?_; (conv => whnf); refine ⟨id, rP.mk b rfl rfl hw ?_⟩) | (refine frP.nk [0, 1, 2] ?_; (conv => whnf); refine akP.mk (b.sealN id) _ _ rfl rfl hws ((hr3.ren (by rfl)).ren (by rfl)) ?_; rintro oB4 oA4 hr4) | (refine frP.nk [0, 1, 2] ?_; (conv => whnf); refine akP.mk b _ _ rfl rfl hw (hr.ren (by rfl)) ?_; rintro oB5 oA5 hr5) | refine auIk ?_ | refine auIi ?_ | refine auT ?_ | refine auF ?_ | with_reducible first | refine auKt ?_ | refine auKf ?_ | refine auNt ?_ | refine auNf ?_ | refine auEt ?_ | refine auEf ?_); conv => whnf) | ((with_reducible first | refine br_dec ?_ ?_ | refine br_ndec ?_ ?_ | refine br_ne ?_ ?_ | refine br_eq ?_ ?_) <;> intro h <;> first | (exfalso; omega) | conv => whnf) | (refine br_intro ?_ ?_ <;> intro h <;> conv => whnf) | ((first | refine auNd ?_ | refine idx_nat (by omega) (fun x hx => ?_) | refine frz_auto ?_ | refine draw_plain ?_ | refine auIx (fun x hx => ?_)); conv => whnf) | (refine both.mk ?_ ?_ <;> conv => whnf) | ((first | refine bx_idx ?_ | refine bx_intro (fun b hb => ?_)); conv => whnf)
 all_goals
  refine exQA [0, 1, 2] ?_
  conv => whnf
  first
   | exact hK _ _ _ (.inl rfl) ((hr2.ren (by rfl)).ren (by rfl))
   | exact hK _ _ _ (.inr (.inl rfl)) ((hr4.ren (by rfl)).ren (by rfl))
   | exact hK _ _ _ (.inr (.inr rfl)) ((hr5.ren (by rfl)).ren (by rfl))
end Go.Proofs.Ytkjoofinfhdcaaa
namespace Go.Proofs.Ytkjoofinfhdcaaa
open Av Bk

inductive bFkP (ys : List AV) (h : Hp) (K : AV → Hp → Prop) : Prop where
 | mk (b : BM) (oB oA : AObj) (hy : ys = [.ptr 0 0]) (hh : h = [oB, oA, .resv, .resv]) (hw : BW b) (hr : BRel 1 oB oA b)
  (hK : ∀ oB' oA' oC oE, BRel 1 oB' oA' b → BRel 3 oC oE b → K (.ptr 2 0) [oB', oA', oC, oE]) : bFkP ys h K
def bFkA : LocA := fun ys h K => bFkP ys h K
inductive rFkP (ys : List AV) (h : Hp) (K : AV → Hp → Prop) : Prop where
 | mk (b : BM) (hy : ys = [.ptr 0 0]) (hh : h = [RO b, .resv]) (hw : BW b) (hK : K (.ptr 1 0) [RO b, RO b]) : rFkP ys h K
def rFkA : LocA := fun ys h K => rFkP ys h K
noncomputable def cxu : Cx := ⟨tb, [(35, Try.f35), (40, Try.f40)], []⟩
theorem fnsu : FnsOk Try.prog cxu.fns := .cons fnOk_bIs (.cons fnOk_rNone6 .nil)
theorem callu : CallOk Try.prog (callN cxu 2) := callN_ok mixed tbOk SpecsOk.nil fnsu 2
theorem st_pos (b : BM) : b.st ≠ 0 := by unfold BM.st; split <;> decide
set_option maxRecDepth 100000 in
set_option maxHeartbeats 4000000 in
theorem bFk_l : LocOk Try.prog 27 (fun ys h K => ∃ (b : BM) (g : Nat) , ys = [.ptr 0 0] ∧ h = [.cells 65 [.int .i64 b.most, .lst entT b.l, .int .i64 b.st], .arr 25 entT [] false g, .resv, .resv] ∧ BW b ∧ ∀ oB' oA' oC oE, BRel 1 oB' oA' b → BRel 3 oC oE b → K (.ptr 2 0) [oB', oA', oC, oE]) := by
  refine loc_bodyN (C := cxu) mixed tbOk SpecsOk.nil callu fnOk_bFork ?_
  rintro ys h0 K ⟨b, g, rfl, rfl, hw, hK⟩
  have hmo := hw.lo
  have hmi := hw.hi
  have hle0 := hw.len
  have hst := st_pos b
  conv => whnf
  repeat' first | ((first | refine auTq ?_ | refine auFq ?_ | refine auIk ?_ | refine auIi ?_ | refine auT ?_ | refine auF ?_ | with_reducible first | refine auKt ?_ | refine auKf ?_ | refine auNt ?_ | refine auNf ?_ | refine auEt ?_ | refine auEf ?_); conv => whnf) | ((with_reducible first | refine br_dec ?_ ?_ | refine br_ndec ?_ ?_ | refine br_ne ?_ ?_ | refine br_eq ?_ ?_) <;> intro h <;> first | (exfalso; omega) | conv => whnf) | (refine br_intro ?_ ?_ <;> intro h <;> conv => whnf) | ((first | refine auNd ?_ | refine idx_nat (by omega) (fun x hx => ?_) | refine frz_auto ?_ | refine draw_plain ?_ | refine auIx (fun x hx => ?_)); conv => whnf) | (refine both.mk ?_ ?_ <;> conv => whnf) | ((first | refine bx_idx ?_ | refine bx_intro (fun b hb => ?_)); conv => whnf)
  all_goals first
    | (refine .mk [0, 1, 4, 3] ?_
       conv => whnf
       refine hK _ _ _ _ (.tig g (by simp) rfl) (.res (by simp) rfl)
       done)
    | (refine .mk [0, 1, 5, 3] ?_
       conv => whnf
       refine hK _ _ _ _ (.tig g (by simp) rfl) (.res (by simp) rfl)
       done)
    | (refine .mk [0, 1, 6, 3] ?_
       conv => whnf
       refine hK _ _ _ _ (.tig g (by simp) rfl) (.res (by simp) rfl)
       done)
    | (refine .mk [0, 1, 7, 3] ?_
       conv => whnf
       refine hK _ _ _ _ (.tig g (by simp) rfl) (.res (by simp) rfl)
       done)
    | (refine .mk [0, 1, 8, 3] ?_
       conv => whnf
       refine hK _ _ _ _ (.tig g (by simp) rfl) (.res (by simp) rfl)
       done)
set_option maxRecDepth 100000 in
set_option maxHeartbeats 4000000 in
theorem bFk_t : LocOk Try.prog 27 (fun ys h K => ∃ (b : BM) (g : Nat) , ys = [.ptr 0 0] ∧ h = [.cells 65 [.int .i64 b.most, .tlst entT b.l, .int .i64 b.st], .arr 25 entT [] false g, .resv, .resv] ∧ BW b ∧ ∀ oB' oA' oC oE, BRel 1 oB' oA' b → BRel 3 oC oE b → K (.ptr 2 0) [oB', oA', oC, oE]) := by
  refine loc_bodyN (C := cxu) mixed tbOk SpecsOk.nil callu fnOk_bFork ?_
  rintro ys h0 K ⟨b, g, rfl, rfl, hw, hK⟩
  have hmo := hw.lo
  have hmi := hw.hi
  have hle0 := hw.len
  have hst := st_pos b
  conv => whnf
  repeat' first | ((first | refine auTq ?_ | refine auFq ?_ | refine auIk ?_ | refine auIi ?_ | refine auT ?_ | refine auF ?_ | with_reducible first | refine auKt ?_ | refine auKf ?_ | refine auNt ?_ | refine auNf ?_ | refine auEt ?_ | refine auEf ?_); conv => whnf) | ((with_reducible first | refine br_dec ?_ ?_ | refine br_ndec ?_ ?_ | refine br_ne ?_ ?_ | refine br_eq ?_ ?_) <;> intro h <;> first | (exfalso; omega) | conv => whnf) | (refine br_intro ?_ ?_ <;> intro h <;> conv => whnf) | ((first | refine auNd ?_ | refine idx_nat (by omega) (fun x hx => ?_) | refine frz_auto ?_ | refine draw_plain ?_ | refine auIx (fun x hx => ?_)); conv => whnf) | (refine both.mk ?_ ?_ <;> conv => whnf) | ((first | refine bx_idx ?_ | refine bx_intro (fun b hb => ?_)); conv => whnf)
  all_goals first
    | (refine .mk [0, 1, 4, 3] ?_
       conv => whnf
       refine hK _ _ _ _ (.tig g (by simp) rfl) (.res (by simp) rfl)
       done)
    | (refine .mk [0, 1, 5, 3] ?_
       conv => whnf
       refine hK _ _ _ _ (.tig g (by simp) rfl) (.res (by simp) rfl)
       done)
    | (refine .mk [0, 1, 6, 3] ?_
       conv => whnf
       refine hK _ _ _ _ (.tig g (by simp) rfl) (.res (by simp) rfl)
       done)
    | (refine .mk [0, 1, 7, 3] ?_
       conv => whnf
       refine hK _ _ _ _ (.tig g (by simp) rfl) (.res (by simp) rfl)
       done)
    | (refine .mk [0, 1, 8, 3] ?_
       conv => whnf
       refine hK _ _ _ _ (.tig g (by simp) rfl) (.res (by simp) rfl)
       done)
set_option maxRecDepth 100000 in
set_option maxHeartbeats 4000000 in
theorem bFk_r : LocOk Try.prog 27 (fun ys h K => ∃ (b : BM) , ys = [.ptr 0 0] ∧ h = [.cells 65 [.int .i64 b.most, .tlst entT b.l, .int .i64 b.st], .resv, .resv, .resv] ∧ BW b ∧ ∀ oB' oA' oC oE, BRel 1 oB' oA' b → BRel 3 oC oE b → K (.ptr 2 0) [oB', oA', oC, oE]) := by
  refine loc_bodyN (C := cxu) mixed tbOk SpecsOk.nil callu fnOk_bFork ?_
  rintro ys h0 K ⟨b, rfl, rfl, hw, hK⟩
  have hmo := hw.lo
  have hmi := hw.hi
  have hle0 := hw.len
  have hst := st_pos b
  conv => whnf
  repeat' first | ((first | refine auTq ?_ | refine auFq ?_ | refine auIk ?_ | refine auIi ?_ | refine auT ?_ | refine auF ?_ | with_reducible first | refine auKt ?_ | refine auKf ?_ | refine auNt ?_ | refine auNf ?_ | refine auEt ?_ | refine auEf ?_); conv => whnf) | ((with_reducible first | refine br_dec ?_ ?_ | refine br_ndec ?_ ?_ | refine br_ne ?_ ?_ | refine br_eq ?_ ?_) <;> intro h <;> first | (exfalso; omega) | conv => whnf) | (refine br_intro ?_ ?_ <;> intro h <;> conv => whnf) | ((first | refine auNd ?_ | refine idx_nat (by omega) (fun x hx => ?_) | refine frz_auto ?_ | refine draw_plain ?_ | refine auIx (fun x hx => ?_)); conv => whnf) | (refine both.mk ?_ ?_ <;> conv => whnf) | ((first | refine bx_idx ?_ | refine bx_intro (fun b hb => ?_)); conv => whnf)
  all_goals first
    | (refine .mk [0, 1, 4, 3] ?_
       conv => whnf
       refine hK _ _ _ _ (.res (by simp) rfl) (.res (by simp) rfl)
       done)
    | (refine .mk [0, 1, 5, 3] ?_
       conv => whnf
       refine hK _ _ _ _ (.res (by simp) rfl) (.res (by simp) rfl)
       done)
    | (refine .mk [0, 1, 6, 3] ?_
       conv => whnf
       refine hK _ _ _ _ (.res (by simp) rfl) (.res (by simp) rfl)
       done)
    | (refine .mk [0, 1, 7, 3] ?_
       conv => whnf
       refine hK _ _ _ _ (.res (by simp) rfl) (.res (by simp) rfl)
       done)
    | (refine .mk [0, 1, 8, 3] ?_
       conv => whnf
       refine hK _ _ _ _ (.res (by simp) rfl) (.res (by simp) rfl)
       done)
theorem bFk_ok : LocOk Try.prog 27 bFkA := by
 rintro ys h0 K ⟨b, oB, oA, rfl, rfl, hw, hr, hK⟩
 rcases hr with ⟨g, rfl, rfl⟩ | ⟨g, rfl, rfl⟩ | ⟨rfl, rfl⟩
 ·refine loc_turn (A := fun ys h K' => ys = [.ptr 0 0] ∧ h = [.cells 65 [.int .i64 b.most, .own 1 g b.l.length, .int .i64 b.st], .arr 25 entT b.l false g, .resv, .resv] ∧ ∀ oB' oA' oC oE, BRel 1 oB' oA' b → BRel 3 oC oE b → K' (.ptr 2 0) [oB', oA', oC, oE]) bFk_l ?_ fnOk_bFork.enters _ _ _ ⟨rfl, rfl, hK⟩
  rintro ys h0 K' ⟨rfl, rfl, hK⟩ s hs hok
  have ho : s.h[1]? = some (.arr 25 entT b.l false g) := by rw [hs]; rfl
  have hi : s.h[0]? = some (.cells 65 [.int .i64 b.most, .own 1 g b.l.length, .int .i64 b.st]) := by rw [hs]; rfl
  obtain ⟨s', h1, h2, h3, h4⟩ := frd_ok hok ho hi (j := 1) (m := b.l.length) rfl (Nat.le_refl _)
  refine ⟨s', h1, h2, h3, b, g + 1, rfl, ?_, hw, hK⟩
  rw [h4, hs, List.take_length]
  rfl
 ·exact bFk_t _ _ _ ⟨b, g, rfl, rfl, hw, hK⟩
 ·exact bFk_r _ _ _ ⟨b, rfl, rfl, hw, hK⟩
set_option maxRecDepth 100000 in
set_option maxHeartbeats 4000000 in
theorem rFk_ok : LocOk Try.prog 28 rFkA := by
 refine loc_bodyX (C := cxu) (E := fun h0 K v h => exWNP h0 K v h) mixed tbOk SpecsOk.nil callu fnOk_rForkC exWN_ok ?_
 rintro ys h0 K ⟨b, rfl, rfl, hw, hK⟩
 have hmo := hw.lo
 have hmi := hw.hi
 have hle0 := hw.len
 have hmz : b.most ≠ 0 := by omega
 conv => whnf
 repeat' first | ((first | refine auTq ?_ | refine auFq ?_ | refine auIk ?_ | refine auIi ?_ | refine auT ?_ | refine auF ?_ | with_reducible first | refine auKt ?_ | refine auKf ?_ | refine auNt ?_ | refine auNf ?_ | refine auEt ?_ | refine auEf ?_); conv => whnf) | ((with_reducible first | refine br_dec ?_ ?_ | refine br_ndec ?_ ?_ | refine br_ne ?_ ?_ | refine br_eq ?_ ?_) <;> intro h <;> first | (exfalso; omega) | conv => whnf) | (refine br_intro ?_ ?_ <;> intro h <;> conv => whnf) | ((first | refine auNd ?_ | refine idx_nat (by omega) (fun x hx => ?_) | refine frz_auto ?_ | refine draw_plain ?_ | refine auIx (fun x hx => ?_)); conv => whnf) | (refine both.mk ?_ ?_ <;> conv => whnf) | ((first | refine bx_idx ?_ | refine bx_intro (fun b hb => ?_)); conv => whnf)
 all_goals
  refine .mk [.frz 6 [] [(17, 1)]] ?_
  conv => whnf
  refine need_in ⟨rfl, by simp⟩ ?_
  conv => whnf
  refine .mk [0, 17] ?_
  conv => whnf
  refine K_h hK ?_
  simp [cast_self]
  try exact (List.take_of_length_le (by simp)).symm
end Go.Proofs.Ytkjoofinfhdcaaa
