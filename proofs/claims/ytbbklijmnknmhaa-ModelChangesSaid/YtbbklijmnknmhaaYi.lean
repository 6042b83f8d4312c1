/-
  Writes to a map, by the code.
  Writes to a map, by the reference.
  What a map has at a key, and near it, by both.
  The value of a key by the reference; the pairs of a range, by both.
  Differences turned round, by the code.
  Walks that begin with boxes of which none is there yet.
  Whether models are awake.
-/
import Derived.Test.YtbbklijmnknmhaaYc
import Derived.Test.YtbbklijmnknmhaaUe
namespace Go.Proofs.Ytbbklijmnknmhaa
open Av Bk

def spWr : DSpec
  | [.lst (.st [.str, .str]) m, .lst (.st [.str, .str, .bool]) l] => some (m.length ≤ 4611686018427387904 ∧ l.length ≤ 4611686018427387904, .tup [.lst pairT (wrR m l).1, .int .i64 (wrR m l).2])
  | _ => none
theorem wr_m {m : List pairT.El} {l : List wrT.El} (h : (mcL m).2 ≠ 0) : wrR m l = ([], (mcL m).2) := if_pos h
theorem wr_l {m : List pairT.El} {l : List wrT.El} (h : (mcL m).2 = 0) (hl : wEL l ≠ 0) : wrR m l = ([], wEL l) := by
  unfold wrR
  rw [if_neg (by simpa using h), if_pos hl]
theorem wr_fin {m : List pairT.El} {l : List wrT.El} (h : (mcL m).2 = 0) (hl : wEL l = 0) : wrR m l = if 4000 < ((l.foldl wr1 m).length : Int) then ([], 5) else (l.foldl wr1 m, 0) := by
  unfold wrR
  rw [if_neg (by simpa using h), if_neg (by simpa using hl)]
theorem wr_tup {m : List pairT.El} {l : List wrT.El} {r : List pairT.El × Int} (h : wrR m l = r) : AV.tup [.lst pairT r.1, .int .i64 r.2] = AV.tup [.lst pairT (wrR m l).1, .int .i64 (wrR m l).2] := by rw [h]
theorem wEL_zero {l : List wrT.El} (h : wEL l = 0) : l.length ≤ 8 ∧ ∀ y ∈ l, wE1 y = 0 := by
  unfold wEL at h
  split at h
  · cases h
  · split at h
    · cases h
    · exact ⟨by omega, wEs_zero h⟩
theorem yd_vs {n n' g : Nat} {z z' : Int} (h : n = n') (hz : z = z') : [AV.own 1 g n, .int .i64 z] = [AV.own 1 g n', .int .i64 z'] := by rw [h, hz]
theorem yd_h {L L' : List pairT.El} {g : Nat} {o : AObj} {T : TypeId} (h : L = L') : [o, .arr T pairT L false g] = [o, AObj.arr T pairT L' false g] := by rw [h]
theorem yd_del {c : List pairT.El} {n : Nat} (hn : n < c.length) : List.take ((n : Int)).toNat c ++ List.drop ((n : Int) + 1).toNat (List.take c.length c) = c.take n ++ c.drop (n + 1) := by
  rw [List.take_length, show ((n : Int) + 1).toNat = n + 1 by omega]
  rfl
theorem yd_ins {c : List pairT.El} {n : Nat} {x : pairT.El} (hn : n < c.length) : List.take ((n : Int)).toNat (List.take ((n : Int)).toNat c ++ List.drop ((n : Int) + 1).toNat (List.take c.length c)) ++ (List.take 1 [x] ++ List.drop ((n : Int)).toNat (List.take (c.length - (((n : Int) + 1).toNat - ((n : Int)).toNat)) (List.take ((n : Int)).toNat c ++ List.drop ((n : Int) + 1).toNat (List.take c.length c)))) = c.take n ++ ([x] ++ c.drop (n + 1)) := by
  rw [yd_del hn, show ((n : Int) + 1).toNat = n + 1 by omega, Int.toNat_natCast, List.take_of_length_le (i := c.length - (n + 1 - n)) (l := c.take n ++ c.drop (n + 1)) (by simp only [List.length_append, List.length_take, List.length_drop]; omega)]
  have h1 : (c.take n).length = n := by rw [List.length_take]; omega
  rw [List.take_left' h1, List.drop_left' h1]
  rfl
set_option maxRecDepth 100000 in
theorem fnOk_mWrite : FnOk Try.prog 16 Try.f16 := ⟨by rfl, by kernel_rfl, by
  show okCode _ _ = true ∧ drawsOk _ = true
  exact ⟨by kernel_rfl, by kernel_rfl⟩⟩
noncomputable def cxyd : Cx := ⟨tb, [], [(14, .d spMC), (50, .d spWC), (52, .d spFd), (51, .f spClP)]⟩
theorem specsyd : SpecsOk Try.prog cxyd.specs := .cons modelCheck_ok (.cons mwCheck_ok (.cons mFind_ok (.consF cloneP_ok .nil)))
def ryd : List (FuncId × RawA) := [(54, insA), (53, delA)]
theorem ryd_ok : RawsOk Try.prog ryd := .cons insPr_ok (.cons delPr_ok .nil)
set_option maxRecDepth 100000 in
set_option maxHeartbeats 4000000 in
theorem mWrite_ok : SpecOk Try.prog 16 spWr := by
  refine spec_body (C := cxyd) mixed tbOk specsyd (callR_ok (C := cxyd) mixed tbOk specsyd FnsOk.nil ryd_ok 3) fnOk_mWrite ?_
  intro ys p r h hp
  unfold spWr at h
  split at h
  · rename_i m l
    cases h
    obtain ⟨hp1, hp2⟩ := hp
    by_cases hm : (mcL m).2 = 0
    · by_cases hl : wEL l = 0
      · have hml := mcL_zero hm
        have hll := wEL_zero hl
        conv => whnf
        repeat' first
          | ((first | refine auIk ?_ | refine auIi ?_ | refine auT ?_ | refine auF ?_ | with_reducible first | refine auKt ?_ | refine auKf ?_ | refine auNt ?_ | refine auNf ?_ | refine auEt ?_ | refine auEf ?_); conv => whnf)
          | ((with_reducible first | refine br_dec (fun h => ?_) (fun h => ?_) | refine br_ndec (fun h => ?_) (fun h => ?_) | refine br_ne (fun h => ?_) (fun h => ?_) | refine br_eq (fun h => ?_) (fun h => ?_)) <;> first | (exfalso; omega) | conv => whnf)
          | (refine br_intro (fun h => ?_) (fun h => ?_) <;> conv => whnf)
          | ((first | refine auNd ?_ | refine idx_nat (by omega) (fun x hx => ?_) | refine frz_auto ?_ | refine draw_plain ?_ | refine auIx (fun x hx => ?_)); conv => whnf)
          | ((first | refine bx_idx ?_ | refine bx_intro (fun b hb => ?_)); conv => whnf)
        refine loop_inv [] [9, 31] (fun vs h => ∃ (i g : Nat) (c : List pairT.El), vs = [.own 1 g c.length, .int .i64 (i : Int)] ∧ h = [.arr 50 pairT [] false 0, .arr 50 pairT c false g] ∧ i ≤ l.length ∧ c = (l.take i).foldl wr1 m ∧ ascP c ∧ c.length ≤ 4000 + i) (fun vs _ => match vs with | [_, .int _ k] => l.length - k.toNat | _ => 0) ?_
        conv => whnf
        refine ⟨⟨0, 0, m, rfl, rfl, Nat.zero_le _, rfl, hml.2.2, hml.1⟩, ?_⟩
        rintro vs h' - ⟨i, g, c, rfl, rfl, hi, hc, hac, hcl⟩
        have hl8 := hll.1
        have hc1 : c.length ≤ 100000 := by omega
        by_cases hil : i < l.length
        · obtain ⟨y, hy⟩ : ∃ y, l[i]? = some y := ⟨_, List.getElem?_eq_getElem hil⟩
          have hnx : (l.take (i + 1)).foldl wr1 m = wr1 c y := by rw [wr_take hy, ← hc]
          have hct : List.take c.length c = c := List.take_length
          have hle := lbP_le y.1 c
          have hac2 : ascP (wr1 c y) := chT_asc hac _ _
          have hcl2 : (wr1 c y).length ≤ 4000 + (i + 1) := by
            have : (wr1 c y).length ≤ c.length + 1 := chT_len _ _
            omega
          have hcut := ch_cut hac y.1 (wOf y)
          cases hk : lkV c y.1 with
          | none =>
            have hks : (lkV c y.1).isSome = false := by rw [hk]; rfl
            cases hd : y.2.2.1 with
            | true =>
              have hnd : (!y.2.2.1) = false := by rw [hd]; rfl
              have hw : wOf y = none := if_pos hd
              rw [hw, hks] at hcut
              conv => whnf
              repeat' first
                | ((first | refine auIk ?_ | refine auIi ?_ | refine auT ?_ | refine auF ?_ | with_reducible first | refine auKt ?_ | refine auKf ?_ | refine auNt ?_ | refine auNf ?_ | refine auEt ?_ | refine auEf ?_); conv => whnf)
                | ((with_reducible first | refine br_dec (fun h => ?_) (fun h => ?_) | refine br_ndec (fun h => ?_) (fun h => ?_) | refine br_ne (fun h => ?_) (fun h => ?_) | refine br_eq (fun h => ?_) (fun h => ?_)) <;> first | (exfalso; omega) | conv => whnf)
                | (refine br_intro (fun h => ?_) (fun h => ?_) <;> conv => whnf)
                | ((first | refine auNd ?_ | refine idx_nat (by omega) (fun x hx => ?_) | refine frz_auto ?_ | refine draw_plain ?_ | refine auIx (fun x hx => ?_)); conv => whnf)
                | ((first | refine bx_idx ?_ | refine bx_intro (fun b hb => ?_)); conv => whnf)
              rw [hct]
              repeat' first
                | ((first | refine auIk ?_ | refine auIi ?_ | refine auT ?_ | refine auF ?_ | with_reducible first | refine auKt ?_ | refine auKf ?_ | refine auNt ?_ | refine auNf ?_ | refine auEt ?_ | refine auEf ?_); conv => whnf)
                | ((with_reducible first | refine br_dec (fun h => ?_) (fun h => ?_) | refine br_ndec (fun h => ?_) (fun h => ?_) | refine br_ne (fun h => ?_) (fun h => ?_) | refine br_eq (fun h => ?_) (fun h => ?_)) <;> first | (exfalso; omega) | conv => whnf)
                | (refine br_intro (fun h => ?_) (fun h => ?_) <;> conv => whnf)
                | ((first | refine auNd ?_ | refine idx_nat (by omega) (fun x hx => ?_) | refine frz_auto ?_ | refine draw_plain ?_ | refine auIx (fun x hx => ?_)); conv => whnf)
                | ((first | refine bx_idx ?_ | refine bx_intro (fun b hb => ?_)); conv => whnf)
              refine back_intro (by conv => whnf) rfl ⟨i + 1, g, wr1 c y, yd_vs ?_ (by omega), yd_h ?_, by omega, hnx.symm, hac2, hcl2⟩ ?_
              all_goals first
                | (have e : wr1 c y = c := by
                     show chT c y.1 (wOf y) = c
                     rw [hw, hcut]
                     exact List.take_append_drop _ _
                   rw [e])
                | skip
              · show l.length - ((i : Int) + 1).toNat < l.length - (i : Int).toNat
                omega
            | false =>
              have hnd : (!y.2.2.1) = true := by rw [hd]; rfl
              have hw : wOf y = some y.2.1 := if_neg (by rw [hd]; decide)
              rw [hw, hks] at hcut
              conv => whnf
              repeat' first
                | ((first | refine auIk ?_ | refine auIi ?_ | refine auT ?_ | refine auF ?_ | with_reducible first | refine auKt ?_ | refine auKf ?_ | refine auNt ?_ | refine auNf ?_ | refine auEt ?_ | refine auEf ?_); conv => whnf)
                | ((with_reducible first | refine br_dec (fun h => ?_) (fun h => ?_) | refine br_ndec (fun h => ?_) (fun h => ?_) | refine br_ne (fun h => ?_) (fun h => ?_) | refine br_eq (fun h => ?_) (fun h => ?_)) <;> first | (exfalso; omega) | conv => whnf)
                | (refine br_intro (fun h => ?_) (fun h => ?_) <;> conv => whnf)
                | ((first | refine auNd ?_ | refine idx_nat (by omega) (fun x hx => ?_) | refine frz_auto ?_ | refine draw_plain ?_ | refine auIx (fun x hx => ?_)); conv => whnf)
                | ((first | refine bx_idx ?_ | refine bx_intro (fun b hb => ?_)); conv => whnf)
              rw [hct]
              repeat' first
                | ((first | refine auIk ?_ | refine auIi ?_ | refine auT ?_ | refine auF ?_ | with_reducible first | refine auKt ?_ | refine auKf ?_ | refine auNt ?_ | refine auNf ?_ | refine auEt ?_ | refine auEf ?_); conv => whnf)
                | ((with_reducible first | refine br_dec (fun h => ?_) (fun h => ?_) | refine br_ndec (fun h => ?_) (fun h => ?_) | refine br_ne (fun h => ?_) (fun h => ?_) | refine br_eq (fun h => ?_) (fun h => ?_)) <;> first | (exfalso; omega) | conv => whnf)
                | (refine br_intro (fun h => ?_) (fun h => ?_) <;> conv => whnf)
                | ((first | refine auNd ?_ | refine idx_nat (by omega) (fun x hx => ?_) | refine frz_auto ?_ | refine draw_plain ?_ | refine auIx (fun x hx => ?_)); conv => whnf)
                | ((first | refine bx_idx ?_ | refine bx_intro (fun b hb => ?_)); conv => whnf)
              refine back_intro (by conv => whnf) rfl ⟨i + 1, g + 1, wr1 c y, yd_vs ?_ (by omega), yd_h ?_, by omega, hnx.symm, hac2, hcl2⟩ ?_
              · have e : wr1 c y = c.take (lbP y.1 c) ++ ([mkP y.1 y.2.1] ++ c.drop (lbP y.1 c)) := by
                  show chT c y.1 (wOf y) = _
                  rw [hw, hcut]
                  rfl
                rw [e]
                simp only [List.length_append, List.length_take, List.length_drop, List.length_cons, List.length_nil]
                omega
              · show _ = chT c y.1 (wOf y)
                rw [hw, hcut, hct]
                rfl
              · show l.length - ((i : Int) + 1).toNat < l.length - (i : Int).toNat
                omega
          | some v =>
            have hks : (lkV c y.1).isSome = true := by rw [hk]; rfl
            have hat := lkV_at hac hk
            have hlt := (List.getElem?_eq_some_iff.1 hat).1
            cases hd : y.2.2.1 with
            | true =>
              have hnd : (!y.2.2.1) = false := by rw [hd]; rfl
              have hw : wOf y = none := if_pos hd
              rw [hw, hks] at hcut
              conv => whnf
              repeat' first
                | ((first | refine auIk ?_ | refine auIi ?_ | refine auT ?_ | refine auF ?_ | with_reducible first | refine auKt ?_ | refine auKf ?_ | refine auNt ?_ | refine auNf ?_ | refine auEt ?_ | refine auEf ?_); conv => whnf)
                | ((with_reducible first | refine br_dec (fun h => ?_) (fun h => ?_) | refine br_ndec (fun h => ?_) (fun h => ?_) | refine br_ne (fun h => ?_) (fun h => ?_) | refine br_eq (fun h => ?_) (fun h => ?_)) <;> first | (exfalso; omega) | conv => whnf)
                | (refine br_intro (fun h => ?_) (fun h => ?_) <;> conv => whnf)
                | ((first | refine auNd ?_ | refine idx_nat (by omega) (fun x hx => ?_) | refine frz_auto ?_ | refine draw_plain ?_ | refine auIx (fun x hx => ?_)); conv => whnf)
                | ((first | refine bx_idx ?_ | refine bx_intro (fun b hb => ?_)); conv => whnf)
              rw [hct]
              repeat' first
                | ((first | refine auIk ?_ | refine auIi ?_ | refine auT ?_ | refine auF ?_ | with_reducible first | refine auKt ?_ | refine auKf ?_ | refine auNt ?_ | refine auNf ?_ | refine auEt ?_ | refine auEf ?_); conv => whnf)
                | ((with_reducible first | refine br_dec (fun h => ?_) (fun h => ?_) | refine br_ndec (fun h => ?_) (fun h => ?_) | refine br_ne (fun h => ?_) (fun h => ?_) | refine br_eq (fun h => ?_) (fun h => ?_)) <;> first | (exfalso; omega) | conv => whnf)
                | (refine br_intro (fun h => ?_) (fun h => ?_) <;> conv => whnf)
                | ((first | refine auNd ?_ | refine idx_nat (by omega) (fun x hx => ?_) | refine frz_auto ?_ | refine draw_plain ?_ | refine auIx (fun x hx => ?_)); conv => whnf)
                | ((first | refine bx_idx ?_ | refine bx_intro (fun b hb => ?_)); conv => whnf)
              refine back_intro (by conv => whnf) rfl ⟨i + 1, g + 1, wr1 c y, yd_vs ?_ (by omega), yd_h ?_, by omega, hnx.symm, hac2, hcl2⟩ ?_
              · have e : wr1 c y = c.take (lbP y.1 c) ++ c.drop (lbP y.1 c + 1) := by
                  show chT c y.1 (wOf y) = _
                  rw [hw, hcut]
                  rfl
                rw [e]
                simp only [List.length_append, List.length_take, List.length_drop]
                omega
              · show _ = chT c y.1 (wOf y)
                rw [hw, hcut]
                exact yd_del hlt
              · show l.length - ((i : Int) + 1).toNat < l.length - (i : Int).toNat
                omega
            | false =>
              have hnd : (!y.2.2.1) = true := by rw [hd]; rfl
              have hw : wOf y = some y.2.1 := if_neg (by rw [hd]; decide)
              rw [hw, hks] at hcut
              conv => whnf
              repeat' first
                | ((first | refine auIk ?_ | refine auIi ?_ | refine auT ?_ | refine auF ?_ | with_reducible first | refine auKt ?_ | refine auKf ?_ | refine auNt ?_ | refine auNf ?_ | refine auEt ?_ | refine auEf ?_); conv => whnf)
                | ((with_reducible first | refine br_dec (fun h => ?_) (fun h => ?_) | refine br_ndec (fun h => ?_) (fun h => ?_) | refine br_ne (fun h => ?_) (fun h => ?_) | refine br_eq (fun h => ?_) (fun h => ?_)) <;> first | (exfalso; omega) | conv => whnf)
                | (refine br_intro (fun h => ?_) (fun h => ?_) <;> conv => whnf)
                | ((first | refine auNd ?_ | refine idx_nat (by omega) (fun x hx => ?_) | refine frz_auto ?_ | refine draw_plain ?_ | refine auIx (fun x hx => ?_)); conv => whnf)
                | ((first | refine bx_idx ?_ | refine bx_intro (fun b hb => ?_)); conv => whnf)
              rw [hct]
              repeat' first
                | ((first | refine auIk ?_ | refine auIi ?_ | refine auT ?_ | refine auF ?_ | with_reducible first | refine auKt ?_ | refine auKf ?_ | refine auNt ?_ | refine auNf ?_ | refine auEt ?_ | refine auEf ?_); conv => whnf)
                | ((with_reducible first | refine br_dec (fun h => ?_) (fun h => ?_) | refine br_ndec (fun h => ?_) (fun h => ?_) | refine br_ne (fun h => ?_) (fun h => ?_) | refine br_eq (fun h => ?_) (fun h => ?_)) <;> first | (exfalso; omega) | conv => whnf)
                | (refine br_intro (fun h => ?_) (fun h => ?_) <;> conv => whnf)
                | ((first | refine auNd ?_ | refine idx_nat (by omega) (fun x hx => ?_) | refine frz_auto ?_ | refine draw_plain ?_ | refine auIx (fun x hx => ?_)); conv => whnf)
                | ((first | refine bx_idx ?_ | refine bx_intro (fun b hb => ?_)); conv => whnf)
              refine back_intro (by conv => whnf) rfl ⟨i + 1, g + 1 + 1, wr1 c y, yd_vs ?_ (by omega), yd_h ?_, by omega, hnx.symm, hac2, hcl2⟩ ?_
              · have e : wr1 c y = c.take (lbP y.1 c) ++ ([mkP y.1 y.2.1] ++ c.drop (lbP y.1 c + 1)) := by
                  show chT c y.1 (wOf y) = _
                  rw [hw, hcut]
                  rfl
                rw [e]
                simp only [List.length_append, List.length_take, List.length_drop, List.length_cons, List.length_nil]
                omega
              · show _ = chT c y.1 (wOf y)
                rw [hw, hcut]
                exact yd_ins hlt
              · show l.length - ((i : Int) + 1).toNat < l.length - (i : Int).toNat
                omega
        · conv => whnf
          repeat' first
            | ((first | refine auIk ?_ | refine auIi ?_ | refine auT ?_ | refine auF ?_ | with_reducible first | refine auKt ?_ | refine auKf ?_ | refine auNt ?_ | refine auNf ?_ | refine auEt ?_ | refine auEf ?_); conv => whnf)
            | ((with_reducible first | refine br_dec (fun h => ?_) (fun h => ?_) | refine br_ndec (fun h => ?_) (fun h => ?_) | refine br_ne (fun h => ?_) (fun h => ?_) | refine br_eq (fun h => ?_) (fun h => ?_)) <;> first | (exfalso; omega) | conv => whnf)
            | (refine br_intro (fun h => ?_) (fun h => ?_) <;> conv => whnf)
            | ((first | refine auNd ?_ | refine idx_nat (by omega) (fun x hx => ?_) | refine frz_auto ?_ | refine draw_plain ?_ | refine auIx (fun x hx => ?_)); conv => whnf)
            | ((first | refine bx_idx ?_ | refine bx_intro (fun b hb => ?_)); conv => whnf)
          · rw [List.take_of_length_le (by omega)] at hc
            refine wr_tup (r := ([], 5)) ?_
            rw [wr_fin hm hl, ← hc, if_pos h]
          · rw [List.take_of_length_le (by omega)] at hc
            rw [List.take_length]
            refine wr_tup (r := (c, 0)) ?_
            rw [wr_fin hm hl, ← hc, if_neg h]
      · conv => whnf
        repeat' first
          | ((first | refine auIk ?_ | refine auIi ?_ | refine auT ?_ | refine auF ?_ | with_reducible first | refine auKt ?_ | refine auKf ?_ | refine auNt ?_ | refine auNf ?_ | refine auEt ?_ | refine auEf ?_); conv => whnf)
          | ((with_reducible first | refine br_dec (fun h => ?_) (fun h => ?_) | refine br_ndec (fun h => ?_) (fun h => ?_) | refine br_ne (fun h => ?_) (fun h => ?_) | refine br_eq (fun h => ?_) (fun h => ?_)) <;> first | (exfalso; omega) | conv => whnf)
          | (refine br_intro (fun h => ?_) (fun h => ?_) <;> conv => whnf)
          | ((first | refine auNd ?_ | refine idx_nat (by omega) (fun x hx => ?_) | refine frz_auto ?_ | refine draw_plain ?_ | refine auIx (fun x hx => ?_)); conv => whnf)
          | ((first | refine bx_idx ?_ | refine bx_intro (fun b hb => ?_)); conv => whnf)
        all_goals exact wr_tup (wr_l hm hl)
    · conv => whnf
      repeat' first
        | ((first | refine auIk ?_ | refine auIi ?_ | refine auT ?_ | refine auF ?_ | with_reducible first | refine auKt ?_ | refine auKf ?_ | refine auNt ?_ | refine auNf ?_ | refine auEt ?_ | refine auEf ?_); conv => whnf)
        | ((with_reducible first | refine br_dec (fun h => ?_) (fun h => ?_) | refine br_ndec (fun h => ?_) (fun h => ?_) | refine br_ne (fun h => ?_) (fun h => ?_) | refine br_eq (fun h => ?_) (fun h => ?_)) <;> first | (exfalso; omega) | conv => whnf)
        | (refine br_intro (fun h => ?_) (fun h => ?_) <;> conv => whnf)
        | ((first | refine auNd ?_ | refine idx_nat (by omega) (fun x hx => ?_) | refine frz_auto ?_ | refine draw_plain ?_ | refine auIx (fun x hx => ?_)); conv => whnf)
        | ((first | refine bx_idx ?_ | refine bx_intro (fun b hb => ?_)); conv => whnf)
      all_goals exact wr_tup (wr_m hm)
  · cases h
end Go.Proofs.Ytbbklijmnknmhaa
namespace Go.Proofs.Ytbbklijmnknmhaa
open Av Bk

end Go.Proofs.Ytbbklijmnknmhaa
namespace Go.Proofs.Ytbbklijmnknmhaa
open Av Bk

/-- What is asked of a map and a key: an error, or what there is. -/
def gate5 {α : Type} (m : List pairT.El) (k : ByteArray) (z : α) (r : α × Int) : α × Int := if (mcL m).2 ≠ 0 then (z, (mcL m).2) else if 32 < (k.size : Int) then (z, 3) else r
theorem gate_m {α : Type} {m : List pairT.El} {k : ByteArray} {z : α} {r : α × Int} (h : (mcL m).2 ≠ 0) : gate5 m k z r = (z, (mcL m).2) := if_pos h
theorem gate_k {α : Type} {m : List pairT.El} {k : ByteArray} {z : α} {r : α × Int} (h : (mcL m).2 = 0) (hk : 32 < (k.size : Int)) : gate5 m k z r = (z, 3) := by
  unfold gate5
  rw [if_neg (by simpa using h), if_pos hk]
theorem gate_r {α : Type} {m : List pairT.El} {k : ByteArray} {z : α} {r : α × Int} (h : (mcL m).2 = 0) (hk : ¬ 32 < (k.size : Int)) : gate5 m k z r = r := by
  unfold gate5
  rw [if_neg (by simpa using h), if_neg hk]
abbrev zP5 : pairT.El := mkP ⟨#[]⟩ ⟨#[]⟩
def flR (m : List pairT.El) (k : ByteArray) : pairT.El × Int := gate5 m k zP5 (if (lkV m k).isSome = true then ((m[lbP k m]?).getD zP5, 0) else if lbP k m = 0 then (zP5, 4) else ((m[lbP k m - 1]?).getD zP5, 0))
def ceR (m : List pairT.El) (k : ByteArray) : pairT.El × Int := gate5 m k zP5 (if lbP k m < m.length then ((m[lbP k m]?).getD zP5, 0) else (zP5, 4))
def spFl5 : DSpec
  | [.lst (.st [.str, .str]) m, .str k] => some (m.length ≤ 4611686018427387904, .tup [.agg [.str (flR m k).1.1, .str (flR m k).1.2.1], .int .i64 (flR m k).2])
  | _ => none
def spCe5 : DSpec
  | [.lst (.st [.str, .str]) m, .str k] => some (m.length ≤ 4611686018427387904, .tup [.agg [.str (ceR m k).1.1, .str (ceR m k).1.2.1], .int .i64 (ceR m k).2])
  | _ => none
theorem pr_eq {a b : pairT.El × Int} (h : b = a) : AV.tup [.agg [.str a.1.1, .str a.1.2.1], .int .i64 a.2] = AV.tup [.agg [.str b.1.1, .str b.1.2.1], .int .i64 b.2] := by rw [h]
set_option maxRecDepth 100000 in
theorem fnOk_mLook : FnOk Try.prog 59 Try.f59 := ⟨by rfl, by kernel_rfl, by
  show okCode _ _ = true ∧ drawsOk _ = true
  exact ⟨by kernel_rfl, by kernel_rfl⟩⟩
noncomputable def cxyf : Cx := ⟨tb, [(59, Try.f59)], [(14, spMC), (91, spKey), (52, spFd)]⟩
theorem specsyf : SpecsOk Try.prog cxyf.specs := .cons modelCheck_ok (.cons keysCheck_ok (.cons mFind_ok .nil))
theorem fnsyf : FnsOk Try.prog cxyf.fns := .cons fnOk_mLook .nil
set_option maxRecDepth 100000 in
theorem fnOk_mFloor : FnOk Try.prog 26 Try.f26 := ⟨by rfl, by kernel_rfl, by
  show okCode _ _ = true ∧ drawsOk _ = true
  exact ⟨by kernel_rfl, by kernel_rfl⟩⟩
set_option maxRecDepth 100000 in
set_option maxHeartbeats 4000000 in
theorem mFloor_ok : SpecOk Try.prog 26 spFl5 := by
  refine spec_body (C := cxyf) mixed tbOk specsyf (callN_ok (C := cxyf) mixed tbOk specsyf fnsyf 1) fnOk_mFloor ?_
  intro ys p r h hp
  unfold spFl5 at h
  split at h
  · rename_i m k
    cases h
    by_cases hm : (mcL m).2 = 0
    · by_cases hk : 32 < (k.size : Int)
      · have e : flR m k = _ := gate_k hm hk
        have hk2 : (bif decide (32 < (k.size : Int)) then (3 : Int) else 0) = 3 := by simp [hk]
        conv => whnf
        repeat' first
          | ((first | refine auIk ?_ | refine auIi ?_ | refine auT ?_ | refine auF ?_ | with_reducible first | refine auKt ?_ | refine auKf ?_ | refine auNt ?_ | refine auNf ?_ | refine auEt ?_ | refine auEf ?_); conv => whnf)
          | ((with_reducible first | refine br_dec (fun h => ?_) (fun h => ?_) | refine br_ndec (fun h => ?_) (fun h => ?_) | refine br_ne (fun h => ?_) (fun h => ?_) | refine br_eq (fun h => ?_) (fun h => ?_)) <;> first | (exfalso; omega) | conv => whnf)
          | (refine br_intro (fun h => ?_) (fun h => ?_) <;> conv => whnf)
          | ((first | refine auNd ?_ | refine idx_nat (by omega) (fun x hx => ?_) | refine frz_auto ?_ | refine draw_plain ?_ | refine auIx (fun x hx => ?_)); conv => whnf)
          | ((first | refine bx_idx ?_ | refine bx_intro (fun b hb => ?_)); conv => whnf)
        all_goals ((try rw [hk2]); (try rw [hg]); exact pr_eq e)
      · have e : flR m k = _ := gate_r hm hk
        have hk2 : (bif decide (32 < (k.size : Int)) then (3 : Int) else 0) = 0 := by simp [hk]
        have hml := mcL_zero hm
        have hlb := lkV_lb hml.2.2 k
        have hle := lbP_le k m
        have hm5 : m.length ≤ 100000 := by have := hml.1; omega
        have hneed : ascP m ∧ m.length ≤ 100000 := ⟨hml.2.2, hm5⟩
        skip
        by_cases hlt : lbP k m < m.length
        · obtain ⟨y, hy⟩ : ∃ y, m[lbP k m]? = some y := ⟨_, List.getElem?_eq_getElem hlt⟩
          rw [hy] at hlb
          cases hs : sEq y.1 k with
          | true =>
            have hks : lkV m k = some y.2.1 := by rw [hlb]; exact if_pos hs
            have hki : (lkV m k).isSome = true := by rw [hks]; rfl
            have hkb : (!(lkV m k).isSome) = false := by rw [hki]; rfl
            rw [hks] at e
            conv => whnf
            repeat' first
              | ((first | refine auIk ?_ | refine auIi ?_ | refine auT ?_ | refine auF ?_ | with_reducible first | refine auKt ?_ | refine auKf ?_ | refine auNt ?_ | refine auNf ?_ | refine auEt ?_ | refine auEf ?_); conv => whnf)
              | ((with_reducible first | refine br_dec (fun h => ?_) (fun h => ?_) | refine br_ndec (fun h => ?_) (fun h => ?_) | refine br_ne (fun h => ?_) (fun h => ?_) | refine br_eq (fun h => ?_) (fun h => ?_)) <;> first | (exfalso; omega) | conv => whnf)
              | (refine br_intro (fun h => ?_) (fun h => ?_) <;> conv => whnf)
              | ((first | refine auNd ?_ | refine idx_nat (by omega) (fun x hx => ?_) | refine frz_auto ?_ | refine draw_plain ?_ | refine auIx (fun x hx => ?_)); conv => whnf)
              | ((first | refine bx_idx ?_ | refine bx_intro (fun b hb => ?_)); conv => whnf)
            all_goals first
              | (refine pr_eq (a := (y, 0)) (e.trans ?_)
                 first
                   | (rw [if_pos hlt, hy]; rfl)
                   | (rw [hy]; rfl)
                 done)
              | (refine pr_eq (a := (zP5, 4)) (e.trans ?_); simp [*]; done)
              | (refine pr_eq (a := (zP5, 4)) (e.trans ?_); have hz : lbP k m = 0 := by omega
                 simp [hz]; done)
              | (rw [show ((lbP k m : Int) - 1).toNat = lbP k m - 1 by omega] at hx
                 refine pr_eq (a := (x, 0)) (e.trans ?_)
                 have hz : ¬ lbP k m = 0 := by omega
                 rw [if_neg (by simp), if_neg hz, hx]; rfl)
          | false =>
            have hks : lkV m k = none := by rw [hlb]; exact if_neg (by rw [hs]; decide)
            have hki : (lkV m k).isSome = false := by rw [hks]; rfl
            have hkb : (!(lkV m k).isSome) = true := by rw [hki]; rfl
            rw [hks] at e
            conv => whnf
            repeat' first
              | ((first | refine auIk ?_ | refine auIi ?_ | refine auT ?_ | refine auF ?_ | with_reducible first | refine auKt ?_ | refine auKf ?_ | refine auNt ?_ | refine auNf ?_ | refine auEt ?_ | refine auEf ?_); conv => whnf)
              | ((with_reducible first | refine br_dec (fun h => ?_) (fun h => ?_) | refine br_ndec (fun h => ?_) (fun h => ?_) | refine br_ne (fun h => ?_) (fun h => ?_) | refine br_eq (fun h => ?_) (fun h => ?_)) <;> first | (exfalso; omega) | conv => whnf)
              | (refine br_intro (fun h => ?_) (fun h => ?_) <;> conv => whnf)
              | ((first | refine auNd ?_ | refine idx_nat (by omega) (fun x hx => ?_) | refine frz_auto ?_ | refine draw_plain ?_ | refine auIx (fun x hx => ?_)); conv => whnf)
              | ((first | refine bx_idx ?_ | refine bx_intro (fun b hb => ?_)); conv => whnf)
            all_goals first
              | (refine pr_eq (a := (y, 0)) (e.trans ?_)
                 first
                   | (rw [if_pos hlt, hy]; rfl)
                   | (rw [hy]; rfl)
                 done)
              | (refine pr_eq (a := (zP5, 4)) (e.trans ?_); simp [*]; done)
              | (refine pr_eq (a := (zP5, 4)) (e.trans ?_); have hz : lbP k m = 0 := by omega
                 simp [hz]; done)
              | (rw [show ((lbP k m : Int) - 1).toNat = lbP k m - 1 by omega] at hx
                 refine pr_eq (a := (x, 0)) (e.trans ?_)
                 have hz : ¬ lbP k m = 0 := by omega
                 rw [if_neg (by simp), if_neg hz, hx]; rfl)
        · have hnone : m[lbP k m]? = none := List.getElem?_eq_none (by omega)
          rw [hnone] at hlb
          have hki : (lkV m k).isSome = false := by rw [hlb]; rfl
          have hkb : (!(lkV m k).isSome) = true := by rw [hki]; rfl
          rw [hlb] at e
          conv => whnf
          repeat' first
            | ((first | refine auIk ?_ | refine auIi ?_ | refine auT ?_ | refine auF ?_ | with_reducible first | refine auKt ?_ | refine auKf ?_ | refine auNt ?_ | refine auNf ?_ | refine auEt ?_ | refine auEf ?_); conv => whnf)
            | ((with_reducible first | refine br_dec (fun h => ?_) (fun h => ?_) | refine br_ndec (fun h => ?_) (fun h => ?_) | refine br_ne (fun h => ?_) (fun h => ?_) | refine br_eq (fun h => ?_) (fun h => ?_)) <;> first | (exfalso; omega) | conv => whnf)
            | (refine br_intro (fun h => ?_) (fun h => ?_) <;> conv => whnf)
            | ((first | refine auNd ?_ | refine idx_nat (by omega) (fun x hx => ?_) | refine frz_auto ?_ | refine draw_plain ?_ | refine auIx (fun x hx => ?_)); conv => whnf)
            | ((first | refine bx_idx ?_ | refine bx_intro (fun b hb => ?_)); conv => whnf)
          all_goals first
            | (refine pr_eq (a := (zP5, 4)) (e.trans ?_); simp [*]; done)
            | (refine pr_eq (a := (zP5, 4)) (e.trans ?_); have hz : lbP k m = 0 := by omega
               simp [hz]; done)
            | (rw [show ((lbP k m : Int) - 1).toNat = lbP k m - 1 by omega] at hx
               refine pr_eq (a := (x, 0)) (e.trans ?_)
               have hz : ¬ lbP k m = 0 := by omega
               rw [if_neg (by simp), if_neg hz, hx]; rfl)
    · have e : flR m k = _ := gate_m hm
      skip
      conv => whnf
      repeat' first
        | ((first | refine auIk ?_ | refine auIi ?_ | refine auT ?_ | refine auF ?_ | with_reducible first | refine auKt ?_ | refine auKf ?_ | refine auNt ?_ | refine auNf ?_ | refine auEt ?_ | refine auEf ?_); conv => whnf)
        | ((with_reducible first | refine br_dec (fun h => ?_) (fun h => ?_) | refine br_ndec (fun h => ?_) (fun h => ?_) | refine br_ne (fun h => ?_) (fun h => ?_) | refine br_eq (fun h => ?_) (fun h => ?_)) <;> first | (exfalso; omega) | conv => whnf)
        | (refine br_intro (fun h => ?_) (fun h => ?_) <;> conv => whnf)
        | ((first | refine auNd ?_ | refine idx_nat (by omega) (fun x hx => ?_) | refine frz_auto ?_ | refine draw_plain ?_ | refine auIx (fun x hx => ?_)); conv => whnf)
        | ((first | refine bx_idx ?_ | refine bx_intro (fun b hb => ?_)); conv => whnf)
      all_goals ((try rw [hg]); exact pr_eq e)
  · cases h
set_option maxRecDepth 100000 in
theorem fnOk_mCeil : FnOk Try.prog 28 Try.f28 := ⟨by rfl, by kernel_rfl, by
  show okCode _ _ = true ∧ drawsOk _ = true
  exact ⟨by kernel_rfl, by kernel_rfl⟩⟩
set_option maxRecDepth 100000 in
set_option maxHeartbeats 4000000 in
theorem mCeil_ok : SpecOk Try.prog 28 spCe5 := by
  refine spec_body (C := cxyf) mixed tbOk specsyf (callN_ok (C := cxyf) mixed tbOk specsyf fnsyf 1) fnOk_mCeil ?_
  intro ys p r h hp
  unfold spCe5 at h
  split at h
  · rename_i m k
    cases h
    by_cases hm : (mcL m).2 = 0
    · by_cases hk : 32 < (k.size : Int)
      · have e : ceR m k = _ := gate_k hm hk
        have hk2 : (bif decide (32 < (k.size : Int)) then (3 : Int) else 0) = 3 := by simp [hk]
        conv => whnf
        repeat' first
          | ((first | refine auIk ?_ | refine auIi ?_ | refine auT ?_ | refine auF ?_ | with_reducible first | refine auKt ?_ | refine auKf ?_ | refine auNt ?_ | refine auNf ?_ | refine auEt ?_ | refine auEf ?_); conv => whnf)
          | ((with_reducible first | refine br_dec (fun h => ?_) (fun h => ?_) | refine br_ndec (fun h => ?_) (fun h => ?_) | refine br_ne (fun h => ?_) (fun h => ?_) | refine br_eq (fun h => ?_) (fun h => ?_)) <;> first | (exfalso; omega) | conv => whnf)
          | (refine br_intro (fun h => ?_) (fun h => ?_) <;> conv => whnf)
          | ((first | refine auNd ?_ | refine idx_nat (by omega) (fun x hx => ?_) | refine frz_auto ?_ | refine draw_plain ?_ | refine auIx (fun x hx => ?_)); conv => whnf)
          | ((first | refine bx_idx ?_ | refine bx_intro (fun b hb => ?_)); conv => whnf)
        all_goals ((try rw [hk2]); (try rw [hg]); exact pr_eq e)
      · have e : ceR m k = _ := gate_r hm hk
        have hk2 : (bif decide (32 < (k.size : Int)) then (3 : Int) else 0) = 0 := by simp [hk]
        have hml := mcL_zero hm
        have hlb := lkV_lb hml.2.2 k
        have hle := lbP_le k m
        have hm5 : m.length ≤ 100000 := by have := hml.1; omega
        have hneed : ascP m ∧ m.length ≤ 100000 := ⟨hml.2.2, hm5⟩
        skip
        by_cases hlt : lbP k m < m.length
        · obtain ⟨y, hy⟩ : ∃ y, m[lbP k m]? = some y := ⟨_, List.getElem?_eq_getElem hlt⟩
          rw [hy] at hlb
          cases hs : sEq y.1 k with
          | true =>
            have hks : lkV m k = some y.2.1 := by rw [hlb]; exact if_pos hs
            have hki : (lkV m k).isSome = true := by rw [hks]; rfl
            have hkb : (!(lkV m k).isSome) = false := by rw [hki]; rfl
            skip
            conv => whnf
            repeat' first
              | ((first | refine auIk ?_ | refine auIi ?_ | refine auT ?_ | refine auF ?_ | with_reducible first | refine auKt ?_ | refine auKf ?_ | refine auNt ?_ | refine auNf ?_ | refine auEt ?_ | refine auEf ?_); conv => whnf)
              | ((with_reducible first | refine br_dec (fun h => ?_) (fun h => ?_) | refine br_ndec (fun h => ?_) (fun h => ?_) | refine br_ne (fun h => ?_) (fun h => ?_) | refine br_eq (fun h => ?_) (fun h => ?_)) <;> first | (exfalso; omega) | conv => whnf)
              | (refine br_intro (fun h => ?_) (fun h => ?_) <;> conv => whnf)
              | ((first | refine auNd ?_ | refine idx_nat (by omega) (fun x hx => ?_) | refine frz_auto ?_ | refine draw_plain ?_ | refine auIx (fun x hx => ?_)); conv => whnf)
              | ((first | refine bx_idx ?_ | refine bx_intro (fun b hb => ?_)); conv => whnf)
            all_goals first
              | (refine pr_eq (a := (y, 0)) (e.trans ?_)
                 first
                   | (rw [if_pos hlt, hy]; rfl)
                   | (rw [hy]; rfl)
                 done)
              | (refine pr_eq (a := (zP5, 4)) (e.trans ?_); simp [*]; done)
              | (refine pr_eq (a := (zP5, 4)) (e.trans ?_); have hz : lbP k m = 0 := by omega
                 simp [hz]; done)
              | (rw [show ((lbP k m : Int) - 1).toNat = lbP k m - 1 by omega] at hx
                 refine pr_eq (a := (x, 0)) (e.trans ?_)
                 have hz : ¬ lbP k m = 0 := by omega
                 rw [if_neg (by simp), if_neg hz, hx]; rfl)
          | false =>
            have hks : lkV m k = none := by rw [hlb]; exact if_neg (by rw [hs]; decide)
            have hki : (lkV m k).isSome = false := by rw [hks]; rfl
            have hkb : (!(lkV m k).isSome) = true := by rw [hki]; rfl
            skip
            conv => whnf
            repeat' first
              | ((first | refine auIk ?_ | refine auIi ?_ | refine auT ?_ | refine auF ?_ | with_reducible first | refine auKt ?_ | refine auKf ?_ | refine auNt ?_ | refine auNf ?_ | refine auEt ?_ | refine auEf ?_); conv => whnf)
              | ((with_reducible first | refine br_dec (fun h => ?_) (fun h => ?_) | refine br_ndec (fun h => ?_) (fun h => ?_) | refine br_ne (fun h => ?_) (fun h => ?_) | refine br_eq (fun h => ?_) (fun h => ?_)) <;> first | (exfalso; omega) | conv => whnf)
              | (refine br_intro (fun h => ?_) (fun h => ?_) <;> conv => whnf)
              | ((first | refine auNd ?_ | refine idx_nat (by omega) (fun x hx => ?_) | refine frz_auto ?_ | refine draw_plain ?_ | refine auIx (fun x hx => ?_)); conv => whnf)
              | ((first | refine bx_idx ?_ | refine bx_intro (fun b hb => ?_)); conv => whnf)
            all_goals first
              | (refine pr_eq (a := (y, 0)) (e.trans ?_)
                 first
                   | (rw [if_pos hlt, hy]; rfl)
                   | (rw [hy]; rfl)
                 done)
              | (refine pr_eq (a := (zP5, 4)) (e.trans ?_); simp [*]; done)
              | (refine pr_eq (a := (zP5, 4)) (e.trans ?_); have hz : lbP k m = 0 := by omega
                 simp [hz]; done)
              | (rw [show ((lbP k m : Int) - 1).toNat = lbP k m - 1 by omega] at hx
                 refine pr_eq (a := (x, 0)) (e.trans ?_)
                 have hz : ¬ lbP k m = 0 := by omega
                 rw [if_neg (by simp), if_neg hz, hx]; rfl)
        · have hnone : m[lbP k m]? = none := List.getElem?_eq_none (by omega)
          rw [hnone] at hlb
          have hki : (lkV m k).isSome = false := by rw [hlb]; rfl
          have hkb : (!(lkV m k).isSome) = true := by rw [hki]; rfl
          skip
          conv => whnf
          repeat' first
            | ((first | refine auIk ?_ | refine auIi ?_ | refine auT ?_ | refine auF ?_ | with_reducible first | refine auKt ?_ | refine auKf ?_ | refine auNt ?_ | refine auNf ?_ | refine auEt ?_ | refine auEf ?_); conv => whnf)
            | ((with_reducible first | refine br_dec (fun h => ?_) (fun h => ?_) | refine br_ndec (fun h => ?_) (fun h => ?_) | refine br_ne (fun h => ?_) (fun h => ?_) | refine br_eq (fun h => ?_) (fun h => ?_)) <;> first | (exfalso; omega) | conv => whnf)
            | (refine br_intro (fun h => ?_) (fun h => ?_) <;> conv => whnf)
            | ((first | refine auNd ?_ | refine idx_nat (by omega) (fun x hx => ?_) | refine frz_auto ?_ | refine draw_plain ?_ | refine auIx (fun x hx => ?_)); conv => whnf)
            | ((first | refine bx_idx ?_ | refine bx_intro (fun b hb => ?_)); conv => whnf)
          all_goals first
            | (refine pr_eq (a := (zP5, 4)) (e.trans ?_); simp [*]; done)
            | (refine pr_eq (a := (zP5, 4)) (e.trans ?_); have hz : lbP k m = 0 := by omega
               simp [hz]; done)
            | (rw [show ((lbP k m : Int) - 1).toNat = lbP k m - 1 by omega] at hx
               refine pr_eq (a := (x, 0)) (e.trans ?_)
               have hz : ¬ lbP k m = 0 := by omega
               rw [if_neg (by simp), if_neg hz, hx]; rfl)
    · have e : ceR m k = _ := gate_m hm
      skip
      conv => whnf
      repeat' first
        | ((first | refine auIk ?_ | refine auIi ?_ | refine auT ?_ | refine auF ?_ | with_reducible first | refine auKt ?_ | refine auKf ?_ | refine auNt ?_ | refine auNf ?_ | refine auEt ?_ | refine auEf ?_); conv => whnf)
        | ((with_reducible first | refine br_dec (fun h => ?_) (fun h => ?_) | refine br_ndec (fun h => ?_) (fun h => ?_) | refine br_ne (fun h => ?_) (fun h => ?_) | refine br_eq (fun h => ?_) (fun h => ?_)) <;> first | (exfalso; omega) | conv => whnf)
        | (refine br_intro (fun h => ?_) (fun h => ?_) <;> conv => whnf)
        | ((first | refine auNd ?_ | refine idx_nat (by omega) (fun x hx => ?_) | refine frz_auto ?_ | refine draw_plain ?_ | refine auIx (fun x hx => ?_)); conv => whnf)
        | ((first | refine bx_idx ?_ | refine bx_intro (fun b hb => ?_)); conv => whnf)
      all_goals ((try rw [hg]); exact pr_eq e)
  · cases h
end Go.Proofs.Ytbbklijmnknmhaa
namespace Go.Proofs.Ytbbklijmnknmhaa
open Av Bk

end Go.Proofs.Ytbbklijmnknmhaa
namespace Go.Proofs.Ytbbklijmnknmhaa
open Av Bk Go.Proofs Go.Lib

end Go.Proofs.Ytbbklijmnknmhaa
namespace Av
open Go Go.ChangeShapes Go.WideShapes Go.ChangeAt Go.RowKit Go.Joins Go.Deep

/-- Objects of boxes that have none. -/
def NoBx (B : Hp) : Prop := ∀ o ∈ B, ∃ T t, o = .oth (.bxs T t [])
def St.bx (s : St) (B : Hp) : St := ⟨fun _ => .bool false, B, s.w, s.F⟩
theorem bx_noI {s : St} {B : Hp} (hB : NoBx B) {b : Nat} : ¬ OwnI (s.bx B) b := by
  rintro ⟨i, o, h1, _, h3⟩
  obtain ⟨T, t, rfl⟩ := hB o (List.mem_of_getElem? h1)
  rcases h3 with h3 | h3
  · cases h3
  · have h3 : b ∈ ([] : List Nat) := h3
    simp at h3
theorem bx_ok {s : St} (hok : Ok s) {B : Hp} (hB : NoBx B) : Ok (s.bx B) where
  obj := fun id o h => by
    obtain ⟨T, t, rfl⟩ := hB o (List.mem_of_getElem? h)
    exact ⟨rfl, by simp, fun b x hx => by simp at hx⟩
  inj := fun i j o p b hi _ ho _ hb _ => absurd ⟨i, o, hi, ho, hb⟩ (bx_noI hB)
  fb := hok.fb
  dis := fun b h => absurd h (bx_noI hB)
theorem bx_RL {s : St} (hh : s.h = []) {B : Hp} (hB : NoBx B) {xs : List AV} {cs : List Value} (hr : RL s xs cs) : RL (s.bx B) xs cs :=
  RL_pure (s2 := s.bx B) hh rfl (fun b hn h => h.elim (fun h => hn (.inl h)) (bx_noI hB)) xs cs hr
theorem bx_step {s s' : St} (hh : s.h = []) {B : Hp} (hB : NoBx B) (hst : Step (s.bx B) s') : Step s (s'.cut 0) where
  os := hst.os
  tape := hst.tape
  output := hst.output
  drawn := hst.drawn
  size := hst.size
  kn := fun i hi => by unfold Av.kn at hi; rw [hh] at hi; simp at hi
  keep := fun b hb _ => ⟨fun ⟨id, o, h, _⟩ => by simp [St.cut] at h, (hst.keep b hb (bx_noI hB)).2⟩
  frn := hst.frn
  cells := fun i T cs' hi _ => by unfold Av.kn at hi; rw [hh] at hi; simp at hi
  oth := fun i o' hi _ => by unfold Av.kn at hi; rw [hh] at hi; simp at hi
  arr := fun i T t l' f' g hi _ => by unfold Av.kn at hi; rw [hh] at hi; simp at hi
section
variable {P : Program}
theorem spec_bodyB {C : Cx} (hm : P.follows .mixedOrders = true) (hT : TbOk P C.tb) (hD : SpecsOk P C.specs) {call : CallA} (hcall : CallOk P call) {g : FuncId} {fn : Func} (hf : FnOk P g fn) {sp : DSpec} {B : Hp} (hB : NoBx B)
    (h : ∀ ys p r, sp ys = some (p, r) → p → bodyA C call fn ys B (fun v h => (viewR h v fun y => .ok y none).sat fun y _ => y = r)) : SpecOk P g sp := by
  refine ⟨hf.enters, fun ys p r hsp hp s hok hh cs hr => ?_⟩
  have hb := h ys p r hsp hp
  refine Calls.mono (bodyA_ok hm hT hD hcall hf (s := s.bx B) hb (bx_ok hok hB) (bx_RL hh hB hr)) ?_
  rintro e w' ⟨s', v, cr, rfl, rfl, hst, hok', hv, hK⟩
  obtain ⟨y, ob, his, rfl⟩ := Res.sat_is hK
  have hFo : ∀ b, s'.F b → Own s' b := fun b hb => .inl hb
  obtain ⟨z, hz, hR⟩ := viewR_ok hok' (SubH.refl _) (F := s'.F) hFo v cr _ y ob hv (fun _ b hb => hok'.dis b hb) his
  obtain ⟨rfl, _⟩ := hz
  have hcut : s'.cut 0 = s'.callee s'.F := by
    unfold St.cut St.callee
    rw [List.take_zero]
  refine ⟨s'.cut 0, cr, rfl, rfl, bx_step hh hB hst, cut_ok hok' (fun id T cs hlt => by omega), by rw [hcut]; rfl, by rw [hcut]; exact hR⟩
variable {H : Type} {enc : TypeId × Value → H} {w : World} {base : Nat} {spare : Nat → Bool} {held : Bool}
end
end Av
namespace Go.Proofs.Ytbbklijmnknmhaa
open Av Bk

abbrev cuT : Ty := .st [.sl pairT, .int .i64]
abbrev B5 : Hp := [.oth (.bxs 22 (.sl pairT) []), .oth (.bxs 109 cuT [])]
theorem B5_no : NoBx B5 := by
  intro o ho
  rcases List.mem_cons.1 ho with rfl | ho
  · exact ⟨_, _, rfl⟩
  · rcases List.mem_cons.1 ho with rfl | ho
    · exact ⟨_, _, rfl⟩
    · cases ho
set_option maxRecDepth 100000 in
theorem fnOk_ex5 : FnOk Try.prog 49 Try.f49 := ⟨by rfl, by kernel_rfl, by
  show okCode _ _ = true ∧ drawsOk _ = true
  exact ⟨by kernel_rfl, by kernel_rfl⟩⟩
set_option maxRecDepth 100000 in
theorem fnOk_mNew : FnOk Try.prog 33 Try.f33 := ⟨by rfl, by kernel_rfl, by
  show okCode _ _ = true ∧ drawsOk _ = true
  exact ⟨by kernel_rfl, by kernel_rfl⟩⟩
set_option maxRecDepth 100000 in
theorem fnOk_xNone : FnOk Try.prog 71 Try.f71 := ⟨by rfl, by kernel_rfl, by
  show okCode _ _ = true ∧ drawsOk _ = true
  exact ⟨by kernel_rfl, by kernel_rfl⟩⟩
set_option maxRecDepth 100000 in
theorem fnOk_xPin : FnOk Try.prog 47 Try.f47 := ⟨by rfl, by kernel_rfl, by
  show okCode _ _ = true ∧ drawsOk _ = true
  exact ⟨by kernel_rfl, by kernel_rfl⟩⟩
set_option maxRecDepth 100000 in
theorem fnOk_xUnpin : FnOk Try.prog 48 Try.f48 := ⟨by rfl, by kernel_rfl, by
  show okCode _ _ = true ∧ drawsOk _ = true
  exact ⟨by kernel_rfl, by kernel_rfl⟩⟩
set_option maxRecDepth 100000 in
theorem fnOk_xMap : FnOk Try.prog 40 Try.f40 := ⟨by rfl, by kernel_rfl, by
  show okCode _ _ = true ∧ drawsOk _ = true
  exact ⟨by kernel_rfl, by kernel_rfl⟩⟩
set_option maxRecDepth 100000 in
theorem fnOk_xVer : FnOk Try.prog 75 Try.f75 := ⟨by rfl, by kernel_rfl, by
  show okCode _ _ = true ∧ drawsOk _ = true
  exact ⟨by kernel_rfl, by kernel_rfl⟩⟩
set_option maxRecDepth 100000 in
theorem fnOk_tpGive : FnOk Try.prog 84 Try.f84 := ⟨by rfl, by kernel_rfl, by
  show okCode _ _ = true ∧ drawsOk _ = true
  exact ⟨by kernel_rfl, by kernel_rfl⟩⟩
set_option maxRecDepth 100000 in
theorem fnOk_tpGive1 : FnOk Try.prog 101 Try.f101 := ⟨by rfl, by kernel_rfl, by
  show okCode _ _ = true ∧ drawsOk _ = true
  exact ⟨by kernel_rfl, by kernel_rfl⟩⟩
set_option maxRecDepth 100000 in
theorem fnOk_tpDrop : FnOk Try.prog 85 Try.f85 := ⟨by rfl, by kernel_rfl, by
  show okCode _ _ = true ∧ drawsOk _ = true
  exact ⟨by kernel_rfl, by kernel_rfl⟩⟩
set_option maxRecDepth 100000 in
theorem fnOk_tpLook : FnOk Try.prog 95 Try.f95 := ⟨by rfl, by kernel_rfl, by
  show okCode _ _ = true ∧ drawsOk _ = true
  exact ⟨by kernel_rfl, by kernel_rfl⟩⟩
set_option maxRecDepth 100000 in
theorem fnOk_tpIdx : FnOk Try.prog 100 Try.f100 := ⟨by rfl, by kernel_rfl, by
  show okCode _ _ = true ∧ drawsOk _ = true
  exact ⟨by kernel_rfl, by kernel_rfl⟩⟩
noncomputable def cxyi : Cx := ⟨tb, [(49, Try.f49), (33, Try.f33), (71, Try.f71), (47, Try.f47), (48, Try.f48), (40, Try.f40), (75, Try.f75), (84, Try.f84), (101, Try.f101), (85, Try.f85), (95, Try.f95), (100, Try.f100)], [(26, .d spFl5), (28, .d spCe5), (16, .d spWr), (19, .d spDiff), (18, .d spSameP), (21, .d spSameI), (51, .f spClP)]⟩
theorem specsyi : SpecsOk Try.prog cxyi.specs := .cons mFloor_ok (.cons mCeil_ok (.cons mWrite_ok (.cons mDiff_ok (.cons same05_ok (.cons sameIt_ok (.consF cloneP_ok .nil))))))
theorem fnsyi : FnsOk Try.prog cxyi.fns := .cons fnOk_ex5 (.cons fnOk_mNew (.cons fnOk_xNone (.cons fnOk_xPin (.cons fnOk_xUnpin (.cons fnOk_xMap (.cons fnOk_xVer (.cons fnOk_tpGive (.cons fnOk_tpGive1 (.cons fnOk_tpDrop (.cons fnOk_tpLook (.cons fnOk_tpIdx .nil)))))))))))
def spAw5 : DSpec
  | [] => some (True, .bool true)
  | _ => none
set_option maxRecDepth 100000 in
theorem fnOk_awake5 : FnOk Try.prog 13 Try.f13 := ⟨by rfl, by kernel_rfl, by
  show okCode _ _ = true ∧ drawsOk _ = true
  exact ⟨by kernel_rfl, by kernel_rfl⟩⟩
set_option maxRecDepth 100000 in
set_option maxHeartbeats 8000000 in
theorem awake5_ok : SpecOk Try.prog 13 spAw5 := by
  refine spec_bodyB (C := cxyi) mixed tbOk specsyi (callN_ok (C := cxyi) mixed tbOk specsyi fnsyi 6) fnOk_awake5 B5_no ?_
  intro ys p r h hp
  unfold spAw5 at h
  split at h
  · cases h
    conv => whnf
    repeat' first
      | (refine br_true (by first | with_reducible exact rfl | decide | rfl) ?_; conv => whnf)
      | (refine br_false (by first | with_reducible exact rfl | decide | rfl) ?_; conv => whnf)
      | (refine need_in (by first | exact trivial | exact ⟨rfl, Nat.le_refl _⟩ | exact ⟨rfl, Nat.le_of_ble_eq_true rfl⟩ | exact ⟨rfl, Nat.le_of_ble_eq_true rfl, Nat.le_of_ble_eq_true rfl, Nat.le_of_ble_eq_true rfl⟩ | decide | (simp only [inR]; omega) | omega) ?_; conv => whnf)
      | (refine frz_auto ?_; conv => whnf)
      | (refine draw_plain ?_; conv => whnf)
      | (refine idx_cl ?_; (conv => whnf); refine ⟨by first | decide | (refine ⟨?_, ?_⟩ <;> simp) | (refine ⟨?_, ?_⟩ <;> (simp; omega)), ?_⟩; conv => whnf)
      | (refine bx_intro (fun b hb => ?_); conv => whnf)
      | (refine loop_turns 3 ?_; conv => whnf)
      | fail
    rfl
  · cases h
end Go.Proofs.Ytbbklijmnknmhaa
