/-
  Add, of a builder and of the reference, each with its memory alone.
-/
import Derived.Test.YtkjoofinfhdcaaaBp
namespace Go.Proofs.Ytkjoofinfhdcaaa
open Av Bk

set_option maxRecDepth 100000 in
theorem fnOk_rAddC : FnOk Try.prog 39 Try.f39 := ⟨by rfl, by kernel_rfl, by
 show okCode _ _ = true ∧ drawsOk _ = true
 exact ⟨by kernel_rfl, by kernel_rfl⟩⟩
set_option maxRecDepth 100000 in
theorem fnOk_rNone6 : FnOk Try.prog 40 Try.f40 := ⟨by rfl, by kernel_rfl, by
 show okCode _ _ = true ∧ drawsOk _ = true
 exact ⟨by kernel_rfl, by kernel_rfl⟩⟩
inductive bP (ar : List AV) (nx : BM → BM) (rt : BM → AV) (ys : List AV) (h : Hp) (K : AV → Hp → Prop) : Prop where
 | mk (b : BM) (oB oA : AObj) (hy : ys = ar) (hh : h = [oB, oA]) (hw : BW b) (hr : BRel 1 oB oA b) (hK : ∀ oB' oA', BRel 1 oB' oA' (nx b) → K (rt b) [oB', oA']) : bP ar nx rt ys h K
inductive rP (ar : List AV) (nx : BM → BM) (rt : BM → AV) (ys : List AV) (h : Hp) (K : AV → Hp → Prop) : Prop where
 | mk (b : BM) (hy : ys = ar) (hh : h = [RO b]) (hw : BW b) (hK : K (rt b) [RO (nx b)]) : rP ar nx rt ys h K
abbrev aE (x : entT.El) : AV := .agg [.str x.1, .str x.2.1, .bool x.2.2.1, .int .i64 x.2.2.2.1]
def bAddA : LocA := fun ys h K => ∃ x : entT.El, bP [.ptr 0 0, aE x] (fun b => b.addN x) (fun b => .int .i64 (b.addE x)) ys h K
def rAddA : LocA := fun ys h K => ∃ x : entT.El, rP [.ptr 0 0, aE x] (fun b => b.addN x) (fun b => .int .i64 (b.addE x)) ys h K
noncomputable def cxq : Cx := ⟨tb, [(35, Try.f35), (36, Try.f36), (37, Try.f37), (40, Try.f40)], [(44, .d spCheck), (31, .d spCheck), (38, .d spOrder)]⟩
theorem specsq : SpecsOk Try.prog cxq.specs := .cons entCheck_ok (.cons refCheck_ok (.cons refOrder_ok .nil))
theorem fnsq : FnsOk Try.prog cxq.fns := .cons fnOk_bIs (.cons fnOk_bFits (.cons fnOk_bCount (.cons fnOk_rNone6 .nil)))
theorem callq : CallOk Try.prog (callN cxq 3) := callN_ok mixed tbOk specsq fnsq 3
theorem st_one {b : BM} (h : b.sl = false) : b.st = 1 := by unfold BM.st; rw [h]; rfl
theorem st_two {b : BM} (h : b.sl = true) : b.st = 2 := by unfold BM.st; rw [h]; rfl
theorem K_h {K : AV → Hp → Prop} {a : AV} {h h' : Hp} (hk : K a h) (e : h = h') : K a h' := e ▸ hk
set_option maxRecDepth 100000 in
set_option maxHeartbeats 4000000 in
theorem bAdd_own : LocOk Try.prog 18 (fun ys h K => ∃ (x : entT.El) (b : BM) (g : Nat) , ys = [.ptr 0 0, aE x] ∧ h = [.cells 65 [.int .i64 b.most, .own 1 g b.l.length, .int .i64 b.st], .arr 25 entT b.l false g] ∧ BW b ∧ ∀ oB' oA', BRel 1 oB' oA' (b.addN x) → K (.int .i64 (b.addE x)) [oB', oA']) := by
 refine loc_bodyX (C := cxq) (E := fun h0 K v h => exP h0 K v h) mixed tbOk specsq callq fnOk_bAdd ex_ok ?_
 rintro ys h0 K ⟨x, b, g, rfl, rfl, hw, hK⟩
 have hmo := hw.lo
 have hmi := hw.hi
 have hle0 := hw.len
 cases hs : b.sl with
 | true =>
  have hst := st_two hs
  have he : b.addE x = 9 := if_pos hs
  have hn : b.addN x = b := if_neg (by rw [he]; decide)
  rw [he, hn] at hK
  conv => whnf
  repeat' first | ((first | refine auTq ?_ | refine auFq ?_ | refine auIk ?_ | refine auIi ?_ | refine auT ?_ | refine auF ?_ | with_reducible first | refine auKt ?_ | refine auKf ?_ | refine auNt ?_ | refine auNf ?_ | refine auEt ?_ | refine auEf ?_); conv => whnf) | ((with_reducible first | refine br_dec ?_ ?_ | refine br_ndec ?_ ?_ | refine br_ne ?_ ?_ | refine br_eq ?_ ?_) <;> intro h <;> first | (exfalso; omega) | conv => whnf) | (refine br_intro ?_ ?_ <;> intro h <;> conv => whnf) | ((first | refine auNd ?_ | refine idx_nat (by omega) (fun x hx => ?_) | refine frz_auto ?_ | refine draw_plain ?_ | refine auIx (fun x hx => ?_)); conv => whnf)
  all_goals
   refine exA [0, 1] ?_
   conv => whnf
   exact hK _ _ (.own g (by simp only [hst]) rfl)
 | false =>
  have hst := st_one hs
  have hs0 : ¬ b.sl = true := by rw [hs]; decide
  by_cases hx : errX x = 0
  ·have hx1 : errE x.1 x.2.1 x.2.2.1 x.2.2.2.1 = 0 := hx
   have hsz := errX_key hx
   rcases aft_cases hw x with ⟨h0, ha⟩ | ⟨h0, y, hy, ha⟩
   ·have hl0 : b.l.length = 0 := by omega
    by_cases hfu : b.most ≤ (b.l.length : Int)
    ·have he : b.addE x = 5 := by unfold BM.addE; rw [if_neg hs0, if_neg (by simpa using hx), ha, if_neg (by decide), if_pos hfu]
     have hn : b.addN x = b := if_neg (by rw [he]; decide)
     rw [he, hn] at hK
     have hfe : (b.l.length : Int) = b.most := by have := hw.len; omega
     conv => whnf
     repeat' first | ((first | refine auTq ?_ | refine auFq ?_ | refine auIk ?_ | refine auIi ?_ | refine auT ?_ | refine auF ?_ | with_reducible first | refine auKt ?_ | refine auKf ?_ | refine auNt ?_ | refine auNf ?_ | refine auEt ?_ | refine auEf ?_); conv => whnf) | ((with_reducible first | refine br_dec ?_ ?_ | refine br_ndec ?_ ?_ | refine br_ne ?_ ?_ | refine br_eq ?_ ?_) <;> intro h <;> first | (exfalso; omega) | conv => whnf) | (refine br_intro ?_ ?_ <;> intro h <;> conv => whnf) | ((first | refine auNd ?_ | refine idx_nat (by omega) (fun x hx => ?_) | refine frz_auto ?_ | refine draw_plain ?_ | refine auIx (fun x hx => ?_)); conv => whnf)
     all_goals
      refine exA [0, 1] ?_
      conv => whnf
      exact hK _ _ (.own g (by simp only [hst]) rfl)
    ·have he : b.addE x = 0 := by unfold BM.addE; rw [if_neg hs0, if_neg (by simpa using hx), ha, if_neg (by decide), if_neg hfu]
     have hn : b.addN x = { b with l := b.l ++ [x] } := if_pos he
     rw [he, hn] at hK
     have hfe : (b.l.length : Int) ≠ b.most := by omega
     conv => whnf
     repeat' first | ((first | refine auTq ?_ | refine auFq ?_ | refine auIk ?_ | refine auIi ?_ | refine auT ?_ | refine auF ?_ | with_reducible first | refine auKt ?_ | refine auKf ?_ | refine auNt ?_ | refine auNf ?_ | refine auEt ?_ | refine auEf ?_); conv => whnf) | ((with_reducible first | refine br_dec ?_ ?_ | refine br_ndec ?_ ?_ | refine br_ne ?_ ?_ | refine br_eq ?_ ?_) <;> intro h <;> first | (exfalso; omega) | conv => whnf) | (refine br_intro ?_ ?_ <;> intro h <;> conv => whnf) | ((first | refine auNd ?_ | refine idx_nat (by omega) (fun x hx => ?_) | refine frz_auto ?_ | refine draw_plain ?_ | refine auIx (fun x hx => ?_)); conv => whnf)
     all_goals
      refine exA [0, 1] ?_
      conv => whnf
      refine K_h (hK _ _ (.own (g + 1) rfl rfl)) ?_
      simp [BM.st, hs, cast_self]
   ·have hle := ord_le (x := x.1) (y := y.1)
    cases hlt : sLt y.1 x.1 with
    | false =>
     have hlt2 : (!sLt y.1 x.1) = true := by rw [hlt]; rfl
     have hor : ordL x.1.data.toList y.1.data.toList ≤ 0 := hle.2 hlt
     have he : b.addE x = 6 := by unfold BM.addE; rw [if_neg hs0, if_neg (by simpa using hx), ha, if_pos hlt]
     have hn : b.addN x = b := if_neg (by rw [he]; decide)
     rw [he, hn] at hK
     conv => whnf
     repeat' first | ((first | refine auTq ?_ | refine auFq ?_ | refine auIk ?_ | refine auIi ?_ | refine auT ?_ | refine auF ?_ | with_reducible first | refine auKt ?_ | refine auKf ?_ | refine auNt ?_ | refine auNf ?_ | refine auEt ?_ | refine auEf ?_); conv => whnf) | ((with_reducible first | refine br_dec ?_ ?_ | refine br_ndec ?_ ?_ | refine br_ne ?_ ?_ | refine br_eq ?_ ?_) <;> intro h <;> first | (exfalso; omega) | conv => whnf) | (refine br_intro ?_ ?_ <;> intro h <;> conv => whnf) | ((first | refine auNd ?_ | refine idx_nat (by omega) (fun x hx => ?_) | refine frz_auto ?_ | refine draw_plain ?_ | refine auIx (fun x hx => ?_)); conv => whnf)
     all_goals
      refine exA [0, 1] ?_
      conv => whnf
      exact hK _ _ (.own g (by simp only [hst]) rfl)
    | true =>
     have hlt2 : (!sLt y.1 x.1) = false := by rw [hlt]; rfl
     have hor : ¬ ordL x.1.data.toList y.1.data.toList ≤ 0 := fun h => by rw [hle.1 h] at hlt; cases hlt
     rw [hlt] at ha
     by_cases hfu : b.most ≤ (b.l.length : Int)
     ·have he : b.addE x = 5 := by unfold BM.addE; rw [if_neg hs0, if_neg (by simpa using hx), ha, if_neg (by decide), if_pos hfu]
      have hn : b.addN x = b := if_neg (by rw [he]; decide)
      rw [he, hn] at hK
      have hfe : (b.l.length : Int) = b.most := by have := hw.len; omega
      conv => whnf
      repeat' first | ((first | refine auTq ?_ | refine auFq ?_ | refine auIk ?_ | refine auIi ?_ | refine auT ?_ | refine auF ?_ | with_reducible first | refine auKt ?_ | refine auKf ?_ | refine auNt ?_ | refine auNf ?_ | refine auEt ?_ | refine auEf ?_); conv => whnf) | ((with_reducible first | refine br_dec ?_ ?_ | refine br_ndec ?_ ?_ | refine br_ne ?_ ?_ | refine br_eq ?_ ?_) <;> intro h <;> first | (exfalso; omega) | conv => whnf) | (refine br_intro ?_ ?_ <;> intro h <;> conv => whnf) | ((first | refine auNd ?_ | refine idx_nat (by omega) (fun x hx => ?_) | refine frz_auto ?_ | refine draw_plain ?_ | refine auIx (fun x hx => ?_)); conv => whnf)
      all_goals
       refine exA [0, 1] ?_
       conv => whnf
       exact hK _ _ (.own g (by simp only [hst]) rfl)
     ·have he : b.addE x = 0 := by unfold BM.addE; rw [if_neg hs0, if_neg (by simpa using hx), ha, if_neg (by decide), if_neg hfu]
      have hn : b.addN x = { b with l := b.l ++ [x] } := if_pos he
      rw [he, hn] at hK
      have hfe : (b.l.length : Int) ≠ b.most := by omega
      conv => whnf
      repeat' first | ((first | refine auTq ?_ | refine auFq ?_ | refine auIk ?_ | refine auIi ?_ | refine auT ?_ | refine auF ?_ | with_reducible first | refine auKt ?_ | refine auKf ?_ | refine auNt ?_ | refine auNf ?_ | refine auEt ?_ | refine auEf ?_); conv => whnf) | ((with_reducible first | refine br_dec ?_ ?_ | refine br_ndec ?_ ?_ | refine br_ne ?_ ?_ | refine br_eq ?_ ?_) <;> intro h <;> first | (exfalso; omega) | conv => whnf) | (refine br_intro ?_ ?_ <;> intro h <;> conv => whnf) | ((first | refine auNd ?_ | refine idx_nat (by omega) (fun x hx => ?_) | refine frz_auto ?_ | refine draw_plain ?_ | refine auIx (fun x hx => ?_)); conv => whnf)
      all_goals
       refine exA [0, 1] ?_
       conv => whnf
       refine K_h (hK _ _ (.own (g + 1) rfl rfl)) ?_
       simp [BM.st, hs, cast_self]
  ·have hx1 : errE x.1 x.2.1 x.2.2.1 x.2.2.2.1 ≠ 0 := hx
   have he : b.addE x = errX x := by unfold BM.addE; rw [if_neg hs0, if_pos hx]
   have hn : b.addN x = b := if_neg (by rw [he]; exact hx)
   rw [he, hn] at hK
   conv => whnf
   repeat' first | ((first | refine auTq ?_ | refine auFq ?_ | refine auIk ?_ | refine auIi ?_ | refine auT ?_ | refine auF ?_ | with_reducible first | refine auKt ?_ | refine auKf ?_ | refine auNt ?_ | refine auNf ?_ | refine auEt ?_ | refine auEf ?_); conv => whnf) | ((with_reducible first | refine br_dec ?_ ?_ | refine br_ndec ?_ ?_ | refine br_ne ?_ ?_ | refine br_eq ?_ ?_) <;> intro h <;> first | (exfalso; omega) | conv => whnf) | (refine br_intro ?_ ?_ <;> intro h <;> conv => whnf) | ((first | refine auNd ?_ | refine idx_nat (by omega) (fun x hx => ?_) | refine frz_auto ?_ | refine draw_plain ?_ | refine auIx (fun x hx => ?_)); conv => whnf)
   all_goals
    refine exA [0, 1] ?_
    conv => whnf
    exact hK _ _ (.own g (by simp only [hst]) rfl)
set_option maxRecDepth 100000 in
set_option maxHeartbeats 4000000 in
theorem bAdd_tig : LocOk Try.prog 18 (fun ys h K => ∃ (x : entT.El) (b : BM) (g : Nat) , ys = [.ptr 0 0, aE x] ∧ h = [.cells 65 [.int .i64 b.most, .tlst entT b.l, .int .i64 b.st], .arr 25 entT [] false g] ∧ BW b ∧ ∀ oB' oA', BRel 1 oB' oA' (b.addN x) → K (.int .i64 (b.addE x)) [oB', oA']) := by
  refine loc_bodyX (C := cxq) (E := fun h0 K v h => exWP h0 K v h) mixed tbOk specsq callq fnOk_bAdd exW_ok ?_
  rintro ys h0 K ⟨x, b, g, rfl, rfl, hw, hK⟩
  have hmo := hw.lo
  have hmi := hw.hi
  have hle0 := hw.len
  cases hs : b.sl with
  | true =>
    have hst := st_two hs
    have he : b.addE x = 9 := if_pos hs
    have hn : b.addN x = b := if_neg (by rw [he]; decide)
    rw [he, hn] at hK
    conv => whnf
    repeat' first | ((first | refine auTq ?_ | refine auFq ?_ | refine auIk ?_ | refine auIi ?_ | refine auT ?_ | refine auF ?_ | with_reducible first | refine auKt ?_ | refine auKf ?_ | refine auNt ?_ | refine auNf ?_ | refine auEt ?_ | refine auEf ?_); conv => whnf) | ((with_reducible first | refine br_dec ?_ ?_ | refine br_ndec ?_ ?_ | refine br_ne ?_ ?_ | refine br_eq ?_ ?_) <;> intro h <;> first | (exfalso; omega) | conv => whnf) | (refine br_intro ?_ ?_ <;> intro h <;> conv => whnf) | ((first | refine auNd ?_ | refine idx_nat (by omega) (fun x hx => ?_) | refine frz_auto ?_ | refine draw_plain ?_ | refine auIx (fun x hx => ?_)); conv => whnf)
    all_goals
      refine .mk [] ?_
      conv => whnf
      refine exA [0, 1] ?_
      conv => whnf
      exact hK _ _ (.tig g (by simp only [hst]) rfl)
  | false =>
    have hst := st_one hs
    have hs0 : ¬ b.sl = true := by rw [hs]; decide
    by_cases hx : errX x = 0
    · have hx1 : errE x.1 x.2.1 x.2.2.1 x.2.2.2.1 = 0 := hx
      have hsz := errX_key hx
      rcases aft_cases hw x with ⟨h0, ha⟩ | ⟨h0, y, hy, ha⟩
      · have hl0 : b.l.length = 0 := by omega
        by_cases hfu : b.most ≤ (b.l.length : Int)
        · have he : b.addE x = 5 := by unfold BM.addE; rw [if_neg hs0, if_neg (by simpa using hx), ha, if_neg (by decide), if_pos hfu]
          have hn : b.addN x = b := if_neg (by rw [he]; decide)
          rw [he, hn] at hK
          have hfe : (b.l.length : Int) = b.most := by have := hw.len; omega
          conv => whnf
          repeat' first | ((first | refine auTq ?_ | refine auFq ?_ | refine auIk ?_ | refine auIi ?_ | refine auT ?_ | refine auF ?_ | with_reducible first | refine auKt ?_ | refine auKf ?_ | refine auNt ?_ | refine auNf ?_ | refine auEt ?_ | refine auEf ?_); conv => whnf) | ((with_reducible first | refine br_dec ?_ ?_ | refine br_ndec ?_ ?_ | refine br_ne ?_ ?_ | refine br_eq ?_ ?_) <;> intro h <;> first | (exfalso; omega) | conv => whnf) | (refine br_intro ?_ ?_ <;> intro h <;> conv => whnf) | ((first | refine auNd ?_ | refine idx_nat (by omega) (fun x hx => ?_) | refine frz_auto ?_ | refine draw_plain ?_ | refine auIx (fun x hx => ?_)); conv => whnf)
          all_goals
            refine .mk [] ?_
            conv => whnf
            refine exA [0, 1] ?_
            conv => whnf
            exact hK _ _ (.tig g (by simp only [hst]) rfl)
        · have he : b.addE x = 0 := by unfold BM.addE; rw [if_neg hs0, if_neg (by simpa using hx), ha, if_neg (by decide), if_neg hfu]
          have hn : b.addN x = { b with l := b.l ++ [x] } := if_pos he
          rw [he, hn] at hK
          have hfe : (b.l.length : Int) ≠ b.most := by omega
          conv => whnf
          repeat' first | ((first | refine auTq ?_ | refine auFq ?_ | refine auIk ?_ | refine auIi ?_ | refine auT ?_ | refine auF ?_ | with_reducible first | refine auKt ?_ | refine auKf ?_ | refine auNt ?_ | refine auNf ?_ | refine auEt ?_ | refine auEf ?_); conv => whnf) | ((with_reducible first | refine br_dec ?_ ?_ | refine br_ndec ?_ ?_ | refine br_ne ?_ ?_ | refine br_eq ?_ ?_) <;> intro h <;> first | (exfalso; omega) | conv => whnf) | (refine br_intro ?_ ?_ <;> intro h <;> conv => whnf) | ((first | refine auNd ?_ | refine idx_nat (by omega) (fun x hx => ?_) | refine frz_auto ?_ | refine draw_plain ?_ | refine auIx (fun x hx => ?_)); conv => whnf)
          all_goals
            first
              | (exfalso; simp at h; done)
              | (refine .mk [.mvc 0 1 1] ?_
                 conv => whnf
                 refine ⟨⟨rfl, rfl⟩, ?_⟩
                 conv => whnf
                 refine need_in ⟨rfl, by simp⟩ ?_
                 conv => whnf
                 refine exA [0, 1] ?_
                 conv => whnf
                 refine K_h (hK _ _ (.own (g + 1) rfl rfl)) ?_
                 simp [BM.st, hs, cast_self])
      · have hle := ord_le (x := x.1) (y := y.1)
        cases hlt : sLt y.1 x.1 with
        | false =>
          have hlt2 : (!sLt y.1 x.1) = true := by rw [hlt]; rfl
          have hor : ordL x.1.data.toList y.1.data.toList ≤ 0 := hle.2 hlt
          have he : b.addE x = 6 := by unfold BM.addE; rw [if_neg hs0, if_neg (by simpa using hx), ha, if_pos hlt]
          have hn : b.addN x = b := if_neg (by rw [he]; decide)
          rw [he, hn] at hK
          conv => whnf
          repeat' first | ((first | refine auTq ?_ | refine auFq ?_ | refine auIk ?_ | refine auIi ?_ | refine auT ?_ | refine auF ?_ | with_reducible first | refine auKt ?_ | refine auKf ?_ | refine auNt ?_ | refine auNf ?_ | refine auEt ?_ | refine auEf ?_); conv => whnf) | ((with_reducible first | refine br_dec ?_ ?_ | refine br_ndec ?_ ?_ | refine br_ne ?_ ?_ | refine br_eq ?_ ?_) <;> intro h <;> first | (exfalso; omega) | conv => whnf) | (refine br_intro ?_ ?_ <;> intro h <;> conv => whnf) | ((first | refine auNd ?_ | refine idx_nat (by omega) (fun x hx => ?_) | refine frz_auto ?_ | refine draw_plain ?_ | refine auIx (fun x hx => ?_)); conv => whnf)
          all_goals
            refine .mk [] ?_
            conv => whnf
            refine exA [0, 1] ?_
            conv => whnf
            exact hK _ _ (.tig g (by simp only [hst]) rfl)
        | true =>
          have hlt2 : (!sLt y.1 x.1) = false := by rw [hlt]; rfl
          have hor : ¬ ordL x.1.data.toList y.1.data.toList ≤ 0 := fun h => by rw [hle.1 h] at hlt; cases hlt
          rw [hlt] at ha
          by_cases hfu : b.most ≤ (b.l.length : Int)
          · have he : b.addE x = 5 := by unfold BM.addE; rw [if_neg hs0, if_neg (by simpa using hx), ha, if_neg (by decide), if_pos hfu]
            have hn : b.addN x = b := if_neg (by rw [he]; decide)
            rw [he, hn] at hK
            have hfe : (b.l.length : Int) = b.most := by have := hw.len; omega
            conv => whnf
            repeat' first | ((first | refine auTq ?_ | refine auFq ?_ | refine auIk ?_ | refine auIi ?_ | refine auT ?_ | refine auF ?_ | with_reducible first | refine auKt ?_ | refine auKf ?_ | refine auNt ?_ | refine auNf ?_ | refine auEt ?_ | refine auEf ?_); conv => whnf) | ((with_reducible first | refine br_dec ?_ ?_ | refine br_ndec ?_ ?_ | refine br_ne ?_ ?_ | refine br_eq ?_ ?_) <;> intro h <;> first | (exfalso; omega) | conv => whnf) | (refine br_intro ?_ ?_ <;> intro h <;> conv => whnf) | ((first | refine auNd ?_ | refine idx_nat (by omega) (fun x hx => ?_) | refine frz_auto ?_ | refine draw_plain ?_ | refine auIx (fun x hx => ?_)); conv => whnf)
            all_goals
              refine .mk [] ?_
              conv => whnf
              refine exA [0, 1] ?_
              conv => whnf
              exact hK _ _ (.tig g (by simp only [hst]) rfl)
          · have he : b.addE x = 0 := by unfold BM.addE; rw [if_neg hs0, if_neg (by simpa using hx), ha, if_neg (by decide), if_neg hfu]
            have hn : b.addN x = { b with l := b.l ++ [x] } := if_pos he
            rw [he, hn] at hK
            have hfe : (b.l.length : Int) ≠ b.most := by omega
            conv => whnf
            repeat' first | ((first | refine auTq ?_ | refine auFq ?_ | refine auIk ?_ | refine auIi ?_ | refine auT ?_ | refine auF ?_ | with_reducible first | refine auKt ?_ | refine auKf ?_ | refine auNt ?_ | refine auNf ?_ | refine auEt ?_ | refine auEf ?_); conv => whnf) | ((with_reducible first | refine br_dec ?_ ?_ | refine br_ndec ?_ ?_ | refine br_ne ?_ ?_ | refine br_eq ?_ ?_) <;> intro h <;> first | (exfalso; omega) | conv => whnf) | (refine br_intro ?_ ?_ <;> intro h <;> conv => whnf) | ((first | refine auNd ?_ | refine idx_nat (by omega) (fun x hx => ?_) | refine frz_auto ?_ | refine draw_plain ?_ | refine auIx (fun x hx => ?_)); conv => whnf)
            all_goals
              first
                | (exfalso; simp at h; done)
                | (refine .mk [.mvc 0 1 1] ?_
                   conv => whnf
                   refine ⟨⟨rfl, rfl⟩, ?_⟩
                   conv => whnf
                   refine need_in ⟨rfl, by simp⟩ ?_
                   conv => whnf
                   refine exA [0, 1] ?_
                   conv => whnf
                   refine K_h (hK _ _ (.own (g + 1) rfl rfl)) ?_
                   simp [BM.st, hs, cast_self])
    · have hx1 : errE x.1 x.2.1 x.2.2.1 x.2.2.2.1 ≠ 0 := hx
      have he : b.addE x = errX x := by unfold BM.addE; rw [if_neg hs0, if_pos hx]
      have hn : b.addN x = b := if_neg (by rw [he]; exact hx)
      rw [he, hn] at hK
      conv => whnf
      repeat' first | ((first | refine auTq ?_ | refine auFq ?_ | refine auIk ?_ | refine auIi ?_ | refine auT ?_ | refine auF ?_ | with_reducible first | refine auKt ?_ | refine auKf ?_ | refine auNt ?_ | refine auNf ?_ | refine auEt ?_ | refine auEf ?_); conv => whnf) | ((with_reducible first | refine br_dec ?_ ?_ | refine br_ndec ?_ ?_ | refine br_ne ?_ ?_ | refine br_eq ?_ ?_) <;> intro h <;> first | (exfalso; omega) | conv => whnf) | (refine br_intro ?_ ?_ <;> intro h <;> conv => whnf) | ((first | refine auNd ?_ | refine idx_nat (by omega) (fun x hx => ?_) | refine frz_auto ?_ | refine draw_plain ?_ | refine auIx (fun x hx => ?_)); conv => whnf)
      all_goals
        refine .mk [] ?_
        conv => whnf
        refine exA [0, 1] ?_
        conv => whnf
        exact hK _ _ (.tig g (by simp only [hst]) rfl)
set_option maxRecDepth 100000 in
set_option maxHeartbeats 4000000 in
theorem bAdd_res : LocOk Try.prog 18 (fun ys h K => ∃ (x : entT.El) (b : BM) , ys = [.ptr 0 0, aE x] ∧ h = [.cells 65 [.int .i64 b.most, .tlst entT b.l, .int .i64 b.st], .resv] ∧ BW b ∧ ∀ oB' oA', BRel 1 oB' oA' (b.addN x) → K (.int .i64 (b.addE x)) [oB', oA']) := by
  refine loc_bodyX (C := cxq) (E := fun h0 K v h => exP h0 K v h) mixed tbOk specsq callq fnOk_bAdd ex_ok ?_
  rintro ys h0 K ⟨x, b, rfl, rfl, hw, hK⟩
  have hmo := hw.lo
  have hmi := hw.hi
  have hle0 := hw.len
  cases hs : b.sl with
  | true =>
    have hst := st_two hs
    have he : b.addE x = 9 := if_pos hs
    have hn : b.addN x = b := if_neg (by rw [he]; decide)
    rw [he, hn] at hK
    conv => whnf
    repeat' first | ((first | refine auTq ?_ | refine auFq ?_ | refine auIk ?_ | refine auIi ?_ | refine auT ?_ | refine auF ?_ | with_reducible first | refine auKt ?_ | refine auKf ?_ | refine auNt ?_ | refine auNf ?_ | refine auEt ?_ | refine auEf ?_); conv => whnf) | ((with_reducible first | refine br_dec ?_ ?_ | refine br_ndec ?_ ?_ | refine br_ne ?_ ?_ | refine br_eq ?_ ?_) <;> intro h <;> first | (exfalso; omega) | conv => whnf) | (refine br_intro ?_ ?_ <;> intro h <;> conv => whnf) | ((first | refine auNd ?_ | refine idx_nat (by omega) (fun x hx => ?_) | refine frz_auto ?_ | refine draw_plain ?_ | refine auIx (fun x hx => ?_)); conv => whnf)
    all_goals
      refine exA [0, 1] ?_
      conv => whnf
      exact hK _ _ (.res (by simp only [hst]) rfl)
  | false =>
    have hst := st_one hs
    have hs0 : ¬ b.sl = true := by rw [hs]; decide
    by_cases hx : errX x = 0
    · have hx1 : errE x.1 x.2.1 x.2.2.1 x.2.2.2.1 = 0 := hx
      have hsz := errX_key hx
      rcases aft_cases hw x with ⟨h0, ha⟩ | ⟨h0, y, hy, ha⟩
      · have hl0 : b.l.length = 0 := by omega
        by_cases hfu : b.most ≤ (b.l.length : Int)
        · have he : b.addE x = 5 := by unfold BM.addE; rw [if_neg hs0, if_neg (by simpa using hx), ha, if_neg (by decide), if_pos hfu]
          have hn : b.addN x = b := if_neg (by rw [he]; decide)
          rw [he, hn] at hK
          have hfe : (b.l.length : Int) = b.most := by have := hw.len; omega
          conv => whnf
          repeat' first | ((first | refine auTq ?_ | refine auFq ?_ | refine auIk ?_ | refine auIi ?_ | refine auT ?_ | refine auF ?_ | with_reducible first | refine auKt ?_ | refine auKf ?_ | refine auNt ?_ | refine auNf ?_ | refine auEt ?_ | refine auEf ?_); conv => whnf) | ((with_reducible first | refine br_dec ?_ ?_ | refine br_ndec ?_ ?_ | refine br_ne ?_ ?_ | refine br_eq ?_ ?_) <;> intro h <;> first | (exfalso; omega) | conv => whnf) | (refine br_intro ?_ ?_ <;> intro h <;> conv => whnf) | ((first | refine auNd ?_ | refine idx_nat (by omega) (fun x hx => ?_) | refine frz_auto ?_ | refine draw_plain ?_ | refine auIx (fun x hx => ?_)); conv => whnf)
          all_goals
            refine exA [0, 1] ?_
            conv => whnf
            exact hK _ _ (.res (by simp only [hst]) rfl)
        · have he : b.addE x = 0 := by unfold BM.addE; rw [if_neg hs0, if_neg (by simpa using hx), ha, if_neg (by decide), if_neg hfu]
          have hn : b.addN x = { b with l := b.l ++ [x] } := if_pos he
          rw [he, hn] at hK
          have hfe : (b.l.length : Int) ≠ b.most := by omega
          conv => whnf
          repeat' first | ((first | refine auTq ?_ | refine auFq ?_ | refine auIk ?_ | refine auIi ?_ | refine auT ?_ | refine auF ?_ | with_reducible first | refine auKt ?_ | refine auKf ?_ | refine auNt ?_ | refine auNf ?_ | refine auEt ?_ | refine auEf ?_); conv => whnf) | ((with_reducible first | refine br_dec ?_ ?_ | refine br_ndec ?_ ?_ | refine br_ne ?_ ?_ | refine br_eq ?_ ?_) <;> intro h <;> first | (exfalso; omega) | conv => whnf) | (refine br_intro ?_ ?_ <;> intro h <;> conv => whnf) | ((first | refine auNd ?_ | refine idx_nat (by omega) (fun x hx => ?_) | refine frz_auto ?_ | refine draw_plain ?_ | refine auIx (fun x hx => ?_)); conv => whnf)
          all_goals
            first
              | (exfalso; simp at h; done)
              | (refine exA [0, 8] ?_
                 conv => whnf
                 refine K_h (hK _ _ (.own 0 rfl rfl)) ?_
                 simp [BM.st, hs, cast_self]
                 done)
              | (refine exA [0, 9] ?_
                 conv => whnf
                 refine K_h (hK _ _ (.own 0 rfl rfl)) ?_
                 simp [BM.st, hs, cast_self]
                 done)
              | (refine exA [0, 10] ?_
                 conv => whnf
                 refine K_h (hK _ _ (.own 0 rfl rfl)) ?_
                 simp [BM.st, hs, cast_self]
                 done)
              | (refine exA [0, 11] ?_
                 conv => whnf
                 refine K_h (hK _ _ (.own 0 rfl rfl)) ?_
                 simp [BM.st, hs, cast_self]
                 done)
              | (refine exA [0, 12] ?_
                 conv => whnf
                 refine K_h (hK _ _ (.own 0 rfl rfl)) ?_
                 simp [BM.st, hs, cast_self]
                 done)
              | (refine exA [0, 13] ?_
                 conv => whnf
                 refine K_h (hK _ _ (.own 0 rfl rfl)) ?_
                 simp [BM.st, hs, cast_self]
                 done)
              | (refine exA [0, 14] ?_
                 conv => whnf
                 refine K_h (hK _ _ (.own 0 rfl rfl)) ?_
                 simp [BM.st, hs, cast_self]
                 done)
      · have hle := ord_le (x := x.1) (y := y.1)
        cases hlt : sLt y.1 x.1 with
        | false =>
          have hlt2 : (!sLt y.1 x.1) = true := by rw [hlt]; rfl
          have hor : ordL x.1.data.toList y.1.data.toList ≤ 0 := hle.2 hlt
          have he : b.addE x = 6 := by unfold BM.addE; rw [if_neg hs0, if_neg (by simpa using hx), ha, if_pos hlt]
          have hn : b.addN x = b := if_neg (by rw [he]; decide)
          rw [he, hn] at hK
          conv => whnf
          repeat' first | ((first | refine auTq ?_ | refine auFq ?_ | refine auIk ?_ | refine auIi ?_ | refine auT ?_ | refine auF ?_ | with_reducible first | refine auKt ?_ | refine auKf ?_ | refine auNt ?_ | refine auNf ?_ | refine auEt ?_ | refine auEf ?_); conv => whnf) | ((with_reducible first | refine br_dec ?_ ?_ | refine br_ndec ?_ ?_ | refine br_ne ?_ ?_ | refine br_eq ?_ ?_) <;> intro h <;> first | (exfalso; omega) | conv => whnf) | (refine br_intro ?_ ?_ <;> intro h <;> conv => whnf) | ((first | refine auNd ?_ | refine idx_nat (by omega) (fun x hx => ?_) | refine frz_auto ?_ | refine draw_plain ?_ | refine auIx (fun x hx => ?_)); conv => whnf)
          all_goals
            refine exA [0, 1] ?_
            conv => whnf
            exact hK _ _ (.res (by simp only [hst]) rfl)
        | true =>
          have hlt2 : (!sLt y.1 x.1) = false := by rw [hlt]; rfl
          have hor : ¬ ordL x.1.data.toList y.1.data.toList ≤ 0 := fun h => by rw [hle.1 h] at hlt; cases hlt
          rw [hlt] at ha
          by_cases hfu : b.most ≤ (b.l.length : Int)
          · have he : b.addE x = 5 := by unfold BM.addE; rw [if_neg hs0, if_neg (by simpa using hx), ha, if_neg (by decide), if_pos hfu]
            have hn : b.addN x = b := if_neg (by rw [he]; decide)
            rw [he, hn] at hK
            have hfe : (b.l.length : Int) = b.most := by have := hw.len; omega
            conv => whnf
            repeat' first | ((first | refine auTq ?_ | refine auFq ?_ | refine auIk ?_ | refine auIi ?_ | refine auT ?_ | refine auF ?_ | with_reducible first | refine auKt ?_ | refine auKf ?_ | refine auNt ?_ | refine auNf ?_ | refine auEt ?_ | refine auEf ?_); conv => whnf) | ((with_reducible first | refine br_dec ?_ ?_ | refine br_ndec ?_ ?_ | refine br_ne ?_ ?_ | refine br_eq ?_ ?_) <;> intro h <;> first | (exfalso; omega) | conv => whnf) | (refine br_intro ?_ ?_ <;> intro h <;> conv => whnf) | ((first | refine auNd ?_ | refine idx_nat (by omega) (fun x hx => ?_) | refine frz_auto ?_ | refine draw_plain ?_ | refine auIx (fun x hx => ?_)); conv => whnf)
            all_goals
              refine exA [0, 1] ?_
              conv => whnf
              exact hK _ _ (.res (by simp only [hst]) rfl)
          · have he : b.addE x = 0 := by unfold BM.addE; rw [if_neg hs0, if_neg (by simpa using hx), ha, if_neg (by decide), if_neg hfu]
            have hn : b.addN x = { b with l := b.l ++ [x] } := if_pos he
            rw [he, hn] at hK
            have hfe : (b.l.length : Int) ≠ b.most := by omega
            conv => whnf
            repeat' first | ((first | refine auTq ?_ | refine auFq ?_ | refine auIk ?_ | refine auIi ?_ | refine auT ?_ | refine auF ?_ | with_reducible first | refine auKt ?_ | refine auKf ?_ | refine auNt ?_ | refine auNf ?_ | refine auEt ?_ | refine auEf ?_); conv => whnf) | ((with_reducible first | refine br_dec ?_ ?_ | refine br_ndec ?_ ?_ | refine br_ne ?_ ?_ | refine br_eq ?_ ?_) <;> intro h <;> first | (exfalso; omega) | conv => whnf) | (refine br_intro ?_ ?_ <;> intro h <;> conv => whnf) | ((first | refine auNd ?_ | refine idx_nat (by omega) (fun x hx => ?_) | refine frz_auto ?_ | refine draw_plain ?_ | refine auIx (fun x hx => ?_)); conv => whnf)
            all_goals
              first
                | (exfalso; simp at h; done)
                | (refine exA [0, 8] ?_
                   conv => whnf
                   refine K_h (hK _ _ (.own 0 rfl rfl)) ?_
                   simp [BM.st, hs, cast_self]
                   done)
                | (refine exA [0, 9] ?_
                   conv => whnf
                   refine K_h (hK _ _ (.own 0 rfl rfl)) ?_
                   simp [BM.st, hs, cast_self]
                   done)
                | (refine exA [0, 10] ?_
                   conv => whnf
                   refine K_h (hK _ _ (.own 0 rfl rfl)) ?_
                   simp [BM.st, hs, cast_self]
                   done)
                | (refine exA [0, 11] ?_
                   conv => whnf
                   refine K_h (hK _ _ (.own 0 rfl rfl)) ?_
                   simp [BM.st, hs, cast_self]
                   done)
                | (refine exA [0, 12] ?_
                   conv => whnf
                   refine K_h (hK _ _ (.own 0 rfl rfl)) ?_
                   simp [BM.st, hs, cast_self]
                   done)
                | (refine exA [0, 13] ?_
                   conv => whnf
                   refine K_h (hK _ _ (.own 0 rfl rfl)) ?_
                   simp [BM.st, hs, cast_self]
                   done)
                | (refine exA [0, 14] ?_
                   conv => whnf
                   refine K_h (hK _ _ (.own 0 rfl rfl)) ?_
                   simp [BM.st, hs, cast_self]
                   done)
    · have hx1 : errE x.1 x.2.1 x.2.2.1 x.2.2.2.1 ≠ 0 := hx
      have he : b.addE x = errX x := by unfold BM.addE; rw [if_neg hs0, if_pos hx]
      have hn : b.addN x = b := if_neg (by rw [he]; exact hx)
      rw [he, hn] at hK
      conv => whnf
      repeat' first | ((first | refine auTq ?_ | refine auFq ?_ | refine auIk ?_ | refine auIi ?_ | refine auT ?_ | refine auF ?_ | with_reducible first | refine auKt ?_ | refine auKf ?_ | refine auNt ?_ | refine auNf ?_ | refine auEt ?_ | refine auEf ?_); conv => whnf) | ((with_reducible first | refine br_dec ?_ ?_ | refine br_ndec ?_ ?_ | refine br_ne ?_ ?_ | refine br_eq ?_ ?_) <;> intro h <;> first | (exfalso; omega) | conv => whnf) | (refine br_intro ?_ ?_ <;> intro h <;> conv => whnf) | ((first | refine auNd ?_ | refine idx_nat (by omega) (fun x hx => ?_) | refine frz_auto ?_ | refine draw_plain ?_ | refine auIx (fun x hx => ?_)); conv => whnf)
      all_goals
        refine exA [0, 1] ?_
        conv => whnf
        exact hK _ _ (.res (by simp only [hst]) rfl)
theorem bAdd_ok : LocOk Try.prog 18 bAddA := by
 rintro ys h0 K ⟨x, b, oB, oA, rfl, rfl, hw, hr, hK⟩
 rcases hr with ⟨g, rfl, rfl⟩ | ⟨g, rfl, rfl⟩ | ⟨rfl, rfl⟩
 ·exact bAdd_own _ _ _ ⟨x, b, g, rfl, rfl, hw, hK⟩
 ·exact bAdd_tig _ _ _ ⟨x, b, g, rfl, rfl, hw, hK⟩
 ·exact bAdd_res _ _ _ ⟨x, b, rfl, rfl, hw, hK⟩
set_option maxRecDepth 100000 in
set_option maxHeartbeats 4000000 in
theorem rAdd_ok : LocOk Try.prog 39 rAddA := by
 refine loc_bodyX (C := cxq) (E := fun h0 K v h => exWP h0 K v h) mixed tbOk specsq callq fnOk_rAddC exW_ok ?_
 rintro ys h0 K ⟨x, b, rfl, rfl, hw, hK⟩
 have hmo := hw.lo
 have hmi := hw.hi
 have hle0 := hw.len
 have hmz : b.most ≠ 0 := by omega
 cases hs : b.sl with
 | true =>
  have hst := st_two hs
  have he : b.addE x = 9 := if_pos hs
  have hn : b.addN x = b := if_neg (by rw [he]; decide)
  rw [he, hn] at hK
  conv => whnf
  repeat' first | ((first | refine auTq ?_ | refine auFq ?_ | refine auIk ?_ | refine auIi ?_ | refine auT ?_ | refine auF ?_ | with_reducible first | refine auKt ?_ | refine auKf ?_ | refine auNt ?_ | refine auNf ?_ | refine auEt ?_ | refine auEf ?_); conv => whnf) | ((with_reducible first | refine br_dec ?_ ?_ | refine br_ndec ?_ ?_ | refine br_ne ?_ ?_ | refine br_eq ?_ ?_) <;> intro h <;> first | (exfalso; omega) | conv => whnf) | (refine br_intro ?_ ?_ <;> intro h <;> conv => whnf) | ((first | refine auNd ?_ | refine idx_nat (by omega) (fun x hx => ?_) | refine frz_auto ?_ | refine draw_plain ?_ | refine auIx (fun x hx => ?_)); conv => whnf)
  all_goals
   refine .mk [] ?_
   conv => whnf
   refine exA [0] ?_
   conv => whnf
   exact hK
 | false =>
  have hst := st_one hs
  have hs0 : ¬ b.sl = true := by rw [hs]; decide
  by_cases hx : errX x = 0
  ·have hx1 : errE x.1 x.2.1 x.2.2.1 x.2.2.2.1 = 0 := hx
   have hsz := errX_key hx
   rcases aft_cases hw x with ⟨h0, ha⟩ | ⟨h0, y, hy, ha⟩
   ·have hl0 : b.l.length = 0 := by omega
    by_cases hfu : b.most ≤ (b.l.length : Int)
    ·have he : b.addE x = 5 := by unfold BM.addE; rw [if_neg hs0, if_neg (by simpa using hx), ha, if_neg (by decide), if_pos hfu]
     have hn : b.addN x = b := if_neg (by rw [he]; decide)
     rw [he, hn] at hK
     have hfe : (b.l.length : Int) = b.most := by have := hw.len; omega
     conv => whnf
     repeat' first | ((first | refine auTq ?_ | refine auFq ?_ | refine auIk ?_ | refine auIi ?_ | refine auT ?_ | refine auF ?_ | with_reducible first | refine auKt ?_ | refine auKf ?_ | refine auNt ?_ | refine auNf ?_ | refine auEt ?_ | refine auEf ?_); conv => whnf) | ((with_reducible first | refine br_dec ?_ ?_ | refine br_ndec ?_ ?_ | refine br_ne ?_ ?_ | refine br_eq ?_ ?_) <;> intro h <;> first | (exfalso; omega) | conv => whnf) | (refine br_intro ?_ ?_ <;> intro h <;> conv => whnf) | ((first | refine auNd ?_ | refine idx_nat (by omega) (fun x hx => ?_) | refine frz_auto ?_ | refine draw_plain ?_ | refine auIx (fun x hx => ?_)); conv => whnf)
     all_goals
      refine .mk [] ?_
      conv => whnf
      refine exA [0] ?_
      conv => whnf
      exact hK
    ·have he : b.addE x = 0 := by unfold BM.addE; rw [if_neg hs0, if_neg (by simpa using hx), ha, if_neg (by decide), if_neg hfu]
     have hn : b.addN x = { b with l := b.l ++ [x] } := if_pos he
     rw [he, hn] at hK
     have hfe : (b.l.length : Int) ≠ b.most := by omega
     conv => whnf
     repeat' first | ((first | refine auTq ?_ | refine auFq ?_ | refine auIk ?_ | refine auIi ?_ | refine auT ?_ | refine auF ?_ | with_reducible first | refine auKt ?_ | refine auKf ?_ | refine auNt ?_ | refine auNf ?_ | refine auEt ?_ | refine auEf ?_); conv => whnf) | ((with_reducible first | refine br_dec ?_ ?_ | refine br_ndec ?_ ?_ | refine br_ne ?_ ?_ | refine br_eq ?_ ?_) <;> intro h <;> first | (exfalso; omega) | conv => whnf) | (refine br_intro ?_ ?_ <;> intro h <;> conv => whnf) | ((first | refine auNd ?_ | refine idx_nat (by omega) (fun x hx => ?_) | refine frz_auto ?_ | refine draw_plain ?_ | refine auIx (fun x hx => ?_)); conv => whnf)
     all_goals
      refine .mk [.frz 3 [] [(0, 1)]] ?_
      conv => whnf
      refine need_in ⟨rfl, by simp⟩ ?_
      conv => whnf
      refine exA [0] ?_
      conv => whnf
      refine K_h hK ?_
      simp [cast_self]
      exact (List.take_of_length_le (by simp)).symm
   ·have hle := ord_le (x := x.1) (y := y.1)
    cases hlt : sLt y.1 x.1 with
    | false =>
     have hlt2 : (!sLt y.1 x.1) = true := by rw [hlt]; rfl
     have hor : ordL x.1.data.toList y.1.data.toList ≤ 0 := hle.2 hlt
     have he : b.addE x = 6 := by unfold BM.addE; rw [if_neg hs0, if_neg (by simpa using hx), ha, if_pos hlt]
     have hn : b.addN x = b := if_neg (by rw [he]; decide)
     rw [he, hn] at hK
     conv => whnf
     repeat' first | ((first | refine auTq ?_ | refine auFq ?_ | refine auIk ?_ | refine auIi ?_ | refine auT ?_ | refine auF ?_ | with_reducible first | refine auKt ?_ | refine auKf ?_ | refine auNt ?_ | refine auNf ?_ | refine auEt ?_ | refine auEf ?_); conv => whnf) | ((with_reducible first | refine br_dec ?_ ?_ | refine br_ndec ?_ ?_ | refine br_ne ?_ ?_ | refine br_eq ?_ ?_) <;> intro h <;> first | (exfalso; omega) | conv => whnf) | (refine br_intro ?_ ?_ <;> intro h <;> conv => whnf) | ((first | refine auNd ?_ | refine idx_nat (by omega) (fun x hx => ?_) | refine frz_auto ?_ | refine draw_plain ?_ | refine auIx (fun x hx => ?_)); conv => whnf)
     all_goals
      refine .mk [] ?_
      conv => whnf
      refine exA [0] ?_
      conv => whnf
      exact hK
    | true =>
     have hlt2 : (!sLt y.1 x.1) = false := by rw [hlt]; rfl
     have hor : ¬ ordL x.1.data.toList y.1.data.toList ≤ 0 := fun h => by rw [hle.1 h] at hlt; cases hlt
     rw [hlt] at ha
     by_cases hfu : b.most ≤ (b.l.length : Int)
     ·have he : b.addE x = 5 := by unfold BM.addE; rw [if_neg hs0, if_neg (by simpa using hx), ha, if_neg (by decide), if_pos hfu]
      have hn : b.addN x = b := if_neg (by rw [he]; decide)
      rw [he, hn] at hK
      have hfe : (b.l.length : Int) = b.most := by have := hw.len; omega
      conv => whnf
      repeat' first | ((first | refine auTq ?_ | refine auFq ?_ | refine auIk ?_ | refine auIi ?_ | refine auT ?_ | refine auF ?_ | with_reducible first | refine auKt ?_ | refine auKf ?_ | refine auNt ?_ | refine auNf ?_ | refine auEt ?_ | refine auEf ?_); conv => whnf) | ((with_reducible first | refine br_dec ?_ ?_ | refine br_ndec ?_ ?_ | refine br_ne ?_ ?_ | refine br_eq ?_ ?_) <;> intro h <;> first | (exfalso; omega) | conv => whnf) | (refine br_intro ?_ ?_ <;> intro h <;> conv => whnf) | ((first | refine auNd ?_ | refine idx_nat (by omega) (fun x hx => ?_) | refine frz_auto ?_ | refine draw_plain ?_ | refine auIx (fun x hx => ?_)); conv => whnf)
      all_goals
       refine .mk [] ?_
       conv => whnf
       refine exA [0] ?_
       conv => whnf
       exact hK
     ·have he : b.addE x = 0 := by unfold BM.addE; rw [if_neg hs0, if_neg (by simpa using hx), ha, if_neg (by decide), if_neg hfu]
      have hn : b.addN x = { b with l := b.l ++ [x] } := if_pos he
      rw [he, hn] at hK
      have hfe : (b.l.length : Int) ≠ b.most := by omega
      conv => whnf
      repeat' first | ((first | refine auTq ?_ | refine auFq ?_ | refine auIk ?_ | refine auIi ?_ | refine auT ?_ | refine auF ?_ | with_reducible first | refine auKt ?_ | refine auKf ?_ | refine auNt ?_ | refine auNf ?_ | refine auEt ?_ | refine auEf ?_); conv => whnf) | ((with_reducible first | refine br_dec ?_ ?_ | refine br_ndec ?_ ?_ | refine br_ne ?_ ?_ | refine br_eq ?_ ?_) <;> intro h <;> first | (exfalso; omega) | conv => whnf) | (refine br_intro ?_ ?_ <;> intro h <;> conv => whnf) | ((first | refine auNd ?_ | refine idx_nat (by omega) (fun x hx => ?_) | refine frz_auto ?_ | refine draw_plain ?_ | refine auIx (fun x hx => ?_)); conv => whnf)
      all_goals
       refine .mk [.frz 3 [] [(0, 1)]] ?_
       conv => whnf
       refine need_in ⟨rfl, by simp⟩ ?_
       conv => whnf
       refine exA [0] ?_
       conv => whnf
       refine K_h hK ?_
       simp [cast_self]
       exact (List.take_of_length_le (by simp)).symm
  ·have hx1 : errE x.1 x.2.1 x.2.2.1 x.2.2.2.1 ≠ 0 := hx
   have he : b.addE x = errX x := by unfold BM.addE; rw [if_neg hs0, if_pos hx]
   have hn : b.addN x = b := if_neg (by rw [he]; exact hx)
   rw [he, hn] at hK
   conv => whnf
   repeat' first | ((first | refine auTq ?_ | refine auFq ?_ | refine auIk ?_ | refine auIi ?_ | refine auT ?_ | refine auF ?_ | with_reducible first | refine auKt ?_ | refine auKf ?_ | refine auNt ?_ | refine auNf ?_ | refine auEt ?_ | refine auEf ?_); conv => whnf) | ((with_reducible first | refine br_dec ?_ ?_ | refine br_ndec ?_ ?_ | refine br_ne ?_ ?_ | refine br_eq ?_ ?_) <;> intro h <;> first | (exfalso; omega) | conv => whnf) | (refine br_intro ?_ ?_ <;> intro h <;> conv => whnf) | ((first | refine auNd ?_ | refine idx_nat (by omega) (fun x hx => ?_) | refine frz_auto ?_ | refine draw_plain ?_ | refine auIx (fun x hx => ?_)); conv => whnf)
   all_goals
    refine .mk [] ?_
    conv => whnf
    refine exA [0] ?_
    conv => whnf
    exact hK
end Go.Proofs.Ytkjoofinfhdcaaa
