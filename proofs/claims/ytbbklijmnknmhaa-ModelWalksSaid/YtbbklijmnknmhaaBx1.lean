/-
  Writes to a map, by the reference.
  What a map has at a key, and near it, by both.
  The value of a key by the reference; the pairs of a range, by both.
  Differences turned round, by the code.
  Walks that begin with boxes of which none is there yet.
-/
import Derived.Test.YtbbklijmnknmhaaYd
import Derived.Test.YtbbklijmnknmhaaUe
namespace Go.Proofs.Ytbbklijmnknmhaa
open Av Bk

def spOn5 : DSpec
 | [.lst (.st [.str, .str]) m, .agg [.str k, .str v, .bool d]] => some (ascP m ∧ m.length ≤ 100000, .lst pairT (wr1 m (k, v, d, ())))
 | _ => none
theorem lst_eq {l k : List pairT.El} (h : l = k) : AV.lst pairT l = AV.lst pairT k := by rw [h]
theorem one_fin {A B : List pairT.El} : List.take (0 + A.length + B.length) (List.take (0 + A.length) (List.take 0 [] ++ A) ++ B) = A ++ B := by
 have h1 : List.take (0 + A.length) (List.take 0 [] ++ A) = A := by
  rw [List.take_zero, List.nil_append, Nat.zero_add, List.take_length]
 rw [h1, List.take_of_length_le (by rw [List.length_append]; omega)]
theorem one_fin2 {A B : List pairT.El} {x : pairT.El} : List.take (0 + A.length + (List.take 1 [x]).length + B.length) (List.take (0 + A.length + (List.take 1 [x]).length) (List.take (0 + A.length) (List.take 0 [] ++ A) ++ List.take 1 [x]) ++ B) = A ++ ([x] ++ B) := by
 have h1 : List.take (0 + A.length) (List.take 0 [] ++ A) = A := by
  rw [List.take_zero, List.nil_append, Nat.zero_add, List.take_length]
 have h2 : List.take 1 [x] = [x] := rfl
 rw [h1, h2, List.take_of_length_le (i := 0 + A.length + [x].length) (by rw [List.length_append]; omega), List.take_of_length_le (by simp only [List.length_append]; omega), List.append_assoc]
set_option maxRecDepth 100000 in
theorem fnOk_rOne5 : FnOk Try.prog 56 Try.f56 := ⟨by rfl, by kernel_rfl, by
 show okCode _ _ = true ∧ drawsOk _ = true
 exact ⟨by kernel_rfl, by kernel_rfl⟩⟩
noncomputable def cxye : Cx := ⟨tb, [], [(61, spPl)]⟩
theorem specsye : SpecsOk Try.prog cxye.specs := .cons rPlace_ok .nil
set_option maxRecDepth 100000 in
set_option maxHeartbeats 4000000 in
theorem rOne5_ok : SpecOk Try.prog 56 spOn5 := by
  refine spec_body (C := cxye) mixed tbOk specsye (callN_ok (C := cxye) mixed tbOk specsye FnsOk.nil 0) fnOk_rOne5 ?_
  intro ys p r h hp
  unfold spOn5 at h
  split at h
  · rename_i m k v d
    cases h
    obtain ⟨hac, hml⟩ := hp
    have hle := lbP_le k m
    have hcut := ch_cut hac k (wOf (k, v, d, ()))
    have hlb := lkV_lb hac k
    have hD : List.take ((m.length : Int).toNat - ((lbP k m : Nat) : Int).toNat) (List.drop ((lbP k m : Nat) : Int).toNat m) = m.drop (lbP k m) := by
      rw [List.take_of_length_le (by simp only [List.length_drop, Int.toNat_natCast]; omega), Int.toNat_natCast]
    have hA : List.take (((lbP k m : Nat) : Int).toNat - Int.toNat 0) (List.drop (Int.toNat 0) m) = m.take (lbP k m) := rfl
    have hE : List.take (((m.drop (lbP k m)).length : Int).toNat - Int.toNat 1) (List.drop (Int.toNat 1) (m.drop (lbP k m))) = m.drop (lbP k m + 1) := by
      rw [show Int.toNat 1 = 1 from rfl, List.drop_drop, List.take_of_length_le (by simp only [List.length_drop, Int.toNat_natCast]; omega)]
    cases hk : lkV m k with
    | none =>
      rw [hk] at hcut
      simp only [Option.isSome_none, Bool.false_eq_true, if_false, Nat.add_zero] at hcut
      have hn : ∀ y, m[lbP k m]? = some y → sEq y.1 k = false := fun y hy => by
        rw [hk, hy] at hlb
        cases e : sEq y.1 k with
        | false => rfl
        | true => simp [e] at hlb
      cases d with
      | true =>
        conv => whnf
        repeat' first | ((first | refine auIk ?_ | refine auIi ?_ | refine auT ?_ | refine auF ?_ | with_reducible first | refine auKt ?_ | refine auKf ?_ | refine auNt ?_ | refine auNf ?_ | refine auEt ?_ | refine auEf ?_); conv => whnf) | ((with_reducible first | refine br_dec ?_ ?_ | refine br_ndec ?_ ?_ | refine br_ne ?_ ?_ | refine br_eq ?_ ?_) <;> intro h <;> first | (exfalso; omega) | conv => whnf) | (refine br_intro ?_ ?_ <;> intro h <;> conv => whnf) | ((first | refine auNd ?_ | refine idx_nat (by omega) (fun x hx => ?_) | refine frz_auto ?_ | refine draw_plain ?_ | refine auIx (fun x hx => ?_)); conv => whnf)
        all_goals first
          | (exfalso
             rw [hD] at hx
             have hx : (m.drop (lbP k m))[0]? = some x := hx
             rw [List.getElem?_drop] at hx
             have := hn x (by simpa using hx)
             exact absurd (this.symm.trans h) (by decide))
          | (refine lst_eq ?_
             simp only [cast_self, hD, hA]
             show _ = chT m k _
             rw [hcut]
             first | exact one_fin | exact one_fin2)
      | false =>
        conv => whnf
        repeat' first | ((first | refine auIk ?_ | refine auIi ?_ | refine auT ?_ | refine auF ?_ | with_reducible first | refine auKt ?_ | refine auKf ?_ | refine auNt ?_ | refine auNf ?_ | refine auEt ?_ | refine auEf ?_); conv => whnf) | ((with_reducible first | refine br_dec ?_ ?_ | refine br_ndec ?_ ?_ | refine br_ne ?_ ?_ | refine br_eq ?_ ?_) <;> intro h <;> first | (exfalso; omega) | conv => whnf) | (refine br_intro ?_ ?_ <;> intro h <;> conv => whnf) | ((first | refine auNd ?_ | refine idx_nat (by omega) (fun x hx => ?_) | refine frz_auto ?_ | refine draw_plain ?_ | refine auIx (fun x hx => ?_)); conv => whnf)
        all_goals first
          | (exfalso
             rw [hD] at hx
             have hx : (m.drop (lbP k m))[0]? = some x := hx
             rw [List.getElem?_drop] at hx
             have := hn x (by simpa using hx)
             exact absurd (this.symm.trans h) (by decide))
          | (refine lst_eq ?_
             simp only [cast_self, hD, hA]
             show _ = chT m k _
             rw [hcut]
             first | exact one_fin | exact one_fin2)
    | some w =>
      rw [hk] at hcut
      simp only [Option.isSome_some, if_true] at hcut
      have hat := lkV_at hac hk
      have hlt := (List.getElem?_eq_some_iff.1 hat).1
      cases d with
      | true =>
        conv => whnf
        repeat' first | ((first | refine auIk ?_ | refine auIi ?_ | refine auT ?_ | refine auF ?_ | with_reducible first | refine auKt ?_ | refine auKf ?_ | refine auNt ?_ | refine auNf ?_ | refine auEt ?_ | refine auEf ?_); conv => whnf) | ((with_reducible first | refine br_dec ?_ ?_ | refine br_ndec ?_ ?_ | refine br_ne ?_ ?_ | refine br_eq ?_ ?_) <;> intro h <;> first | (exfalso; omega) | conv => whnf) | (refine br_intro ?_ ?_ <;> intro h <;> conv => whnf) | ((first | refine auNd ?_ | refine idx_nat (by omega) (fun x hx => ?_) | refine frz_auto ?_ | refine draw_plain ?_ | refine auIx (fun x hx => ?_)); conv => whnf)
        all_goals first
          | (exfalso
             rw [hD] at hx
             have hx : (m.drop (lbP k m))[0]? = some x := hx
             rw [List.getElem?_drop] at hx
             have hx : m[lbP k m]? = some x := by simpa using hx
             rw [hat] at hx
             cases hx
             rw [sEq_refl] at h
             cases h
             done)
          | (exfalso
             rw [hD, List.length_drop] at h
             omega)
          | (refine lst_eq ?_
             simp only [cast_self, hD, hA, hE]
             show _ = chT m k _
             rw [hcut]
             first | exact one_fin | exact one_fin2)
      | false =>
        conv => whnf
        repeat' first | ((first | refine auIk ?_ | refine auIi ?_ | refine auT ?_ | refine auF ?_ | with_reducible first | refine auKt ?_ | refine auKf ?_ | refine auNt ?_ | refine auNf ?_ | refine auEt ?_ | refine auEf ?_); conv => whnf) | ((with_reducible first | refine br_dec ?_ ?_ | refine br_ndec ?_ ?_ | refine br_ne ?_ ?_ | refine br_eq ?_ ?_) <;> intro h <;> first | (exfalso; omega) | conv => whnf) | (refine br_intro ?_ ?_ <;> intro h <;> conv => whnf) | ((first | refine auNd ?_ | refine idx_nat (by omega) (fun x hx => ?_) | refine frz_auto ?_ | refine draw_plain ?_ | refine auIx (fun x hx => ?_)); conv => whnf)
        all_goals first
          | (exfalso
             rw [hD] at hx
             have hx : (m.drop (lbP k m))[0]? = some x := hx
             rw [List.getElem?_drop] at hx
             have hx : m[lbP k m]? = some x := by simpa using hx
             rw [hat] at hx
             cases hx
             rw [sEq_refl] at h
             cases h
             done)
          | (exfalso
             rw [hD, List.length_drop] at h
             omega)
          | (refine lst_eq ?_
             simp only [cast_self, hD, hA, hE]
             show _ = chT m k _
             rw [hcut]
             first | exact one_fin | exact one_fin2)
  · cases h
set_option maxRecDepth 100000 in
theorem fnOk_rWr5 : FnOk Try.prog 17 Try.f17 := ⟨by rfl, by kernel_rfl, by
 show okCode _ _ = true ∧ drawsOk _ = true
 exact ⟨by kernel_rfl, by kernel_rfl⟩⟩
noncomputable def cxye2 : Cx := ⟨tb, [], [(15, spMC), (55, spWC), (56, spOn5)]⟩
theorem specsye2 : SpecsOk Try.prog cxye2.specs := .cons r05Check_ok (.cons rWrites_ok (.cons rOne5_ok .nil))
set_option maxRecDepth 100000 in
set_option maxHeartbeats 4000000 in
theorem rWr5_ok : SpecOk Try.prog 17 spWr := by
 refine spec_body (C := cxye2) mixed tbOk specsye2 (callN_ok (C := cxye2) mixed tbOk specsye2 FnsOk.nil 0) fnOk_rWr5 ?_
 intro ys p r h hp
 unfold spWr at h
 split at h
 ·rename_i m l
  cases h
  obtain ⟨hp1, hp2⟩ := hp
  by_cases hm : (mcL m).2 = 0
  ·by_cases hl : wEL l = 0
   ·have hml := mcL_zero hm
    have hll := wEL_zero hl
    conv => whnf
    repeat' first | ((first | refine auIk ?_ | refine auIi ?_ | refine auT ?_ | refine auF ?_ | with_reducible first | refine auKt ?_ | refine auKf ?_ | refine auNt ?_ | refine auNf ?_ | refine auEt ?_ | refine auEf ?_); conv => whnf) | ((with_reducible first | refine br_dec ?_ ?_ | refine br_ndec ?_ ?_ | refine br_ne ?_ ?_ | refine br_eq ?_ ?_) <;> intro h <;> first | (exfalso; omega) | conv => whnf) | (refine br_intro ?_ ?_ <;> intro h <;> conv => whnf) | ((first | refine auNd ?_ | refine idx_nat (by omega) (fun x hx => ?_) | refine frz_auto ?_ | refine draw_plain ?_ | refine auIx (fun x hx => ?_)); conv => whnf)
    refine loop_inv [] [0, 8] (fun vs h => ∃ i : Nat, vs = [.lst pairT ((l.take i).foldl wr1 m), .int .i64 (i : Int)] ∧ h = [.arr 50 pairT [] false 0] ∧ i ≤ l.length) (fun vs _ => match vs with | [_, .int _ k] => l.length - k.toNat | _ => 0) ?_
    conv => whnf
    refine ⟨⟨0, rfl, rfl, Nat.zero_le _⟩, ?_⟩
    rintro vs h' - ⟨i, rfl, rfl, hi⟩
    have hac := wr_asc (l := l.take i) hml.2.2
    have hln := wr_len (l := l.take i) (m := m)
    have htk : (l.take i).length = i := by rw [List.length_take]; omega
    have hl8 := hll.1
    have hm4 := hml.1
    have hln2 : ((l.take i).foldl wr1 m).length ≤ 100000 := by omega
    by_cases hil : i < l.length
    ·obtain ⟨y, hy⟩ : ∃ y, l[i]? = some y := ⟨_, List.getElem?_eq_getElem hil⟩
     have hnx : (l.take (i + 1)).foldl wr1 m = wr1 ((l.take i).foldl wr1 m) y := wr_take hy
     conv => whnf
     repeat' first | ((first | refine auIk ?_ | refine auIi ?_ | refine auT ?_ | refine auF ?_ | with_reducible first | refine auKt ?_ | refine auKf ?_ | refine auNt ?_ | refine auNf ?_ | refine auEt ?_ | refine auEf ?_); conv => whnf) | ((with_reducible first | refine br_dec ?_ ?_ | refine br_ndec ?_ ?_ | refine br_ne ?_ ?_ | refine br_eq ?_ ?_) <;> intro h <;> first | (exfalso; omega) | conv => whnf) | (refine br_intro ?_ ?_ <;> intro h <;> conv => whnf) | ((first | refine auNd ?_ | refine idx_nat (by omega) (fun x hx => ?_) | refine frz_auto ?_ | refine draw_plain ?_ | refine auIx (fun x hx => ?_)); conv => whnf)
     refine back_intro (by conv => whnf) rfl ⟨i + 1, by rw [hnx]; rfl, rfl, by omega⟩ ?_
     show l.length - ((i : Int) + 1).toNat < l.length - (i : Int).toNat
     omega
    ·have hc : l.take i = l := List.take_of_length_le (by omega)
     have hf := wr_fin hm hl
     rw [← hc] at hf
     conv => whnf
     repeat' first | ((first | refine auIk ?_ | refine auIi ?_ | refine auT ?_ | refine auF ?_ | with_reducible first | refine auKt ?_ | refine auKf ?_ | refine auNt ?_ | refine auNf ?_ | refine auEt ?_ | refine auEf ?_); conv => whnf) | ((with_reducible first | refine br_dec ?_ ?_ | refine br_ndec ?_ ?_ | refine br_ne ?_ ?_ | refine br_eq ?_ ?_) <;> intro h <;> first | (exfalso; omega) | conv => whnf) | (refine br_intro ?_ ?_ <;> intro h <;> conv => whnf) | ((first | refine auNd ?_ | refine idx_nat (by omega) (fun x hx => ?_) | refine frz_auto ?_ | refine draw_plain ?_ | refine auIx (fun x hx => ?_)); conv => whnf)
     ·rw [if_pos h, hc] at hf
      exact wr_tup hf
     ·rw [if_neg h, hc] at hf
      rw [hc]
      exact wr_tup hf
   ·conv => whnf
    repeat' first | ((first | refine auIk ?_ | refine auIi ?_ | refine auT ?_ | refine auF ?_ | with_reducible first | refine auKt ?_ | refine auKf ?_ | refine auNt ?_ | refine auNf ?_ | refine auEt ?_ | refine auEf ?_); conv => whnf) | ((with_reducible first | refine br_dec ?_ ?_ | refine br_ndec ?_ ?_ | refine br_ne ?_ ?_ | refine br_eq ?_ ?_) <;> intro h <;> first | (exfalso; omega) | conv => whnf) | (refine br_intro ?_ ?_ <;> intro h <;> conv => whnf) | ((first | refine auNd ?_ | refine idx_nat (by omega) (fun x hx => ?_) | refine frz_auto ?_ | refine draw_plain ?_ | refine auIx (fun x hx => ?_)); conv => whnf)
    all_goals exact wr_tup (wr_l hm hl)
  ·conv => whnf
   repeat' first | ((first | refine auIk ?_ | refine auIi ?_ | refine auT ?_ | refine auF ?_ | with_reducible first | refine auKt ?_ | refine auKf ?_ | refine auNt ?_ | refine auNf ?_ | refine auEt ?_ | refine auEf ?_); conv => whnf) | ((with_reducible first | refine br_dec ?_ ?_ | refine br_ndec ?_ ?_ | refine br_ne ?_ ?_ | refine br_eq ?_ ?_) <;> intro h <;> first | (exfalso; omega) | conv => whnf) | (refine br_intro ?_ ?_ <;> intro h <;> conv => whnf) | ((first | refine auNd ?_ | refine idx_nat (by omega) (fun x hx => ?_) | refine frz_auto ?_ | refine draw_plain ?_ | refine auIx (fun x hx => ?_)); conv => whnf)
   all_goals exact wr_tup (wr_m hm)
 ·cases h
end Go.Proofs.Ytbbklijmnknmhaa
namespace Go.Proofs.Ytbbklijmnknmhaa
open Av Bk

def gate5 {α : Type} (m : List pairT.El) (k : ByteArray) (z : α) (r : α × Int) : α × Int := if (mcL m).2 ≠ 0 then (z, (mcL m).2) else if 32 < (k.size : Int) then (z, 3) else r
theorem gate_m {α : Type} {m : List pairT.El} {k : ByteArray} {z : α} {r : α × Int} (h : (mcL m).2 ≠ 0) : gate5 m k z r = (z, (mcL m).2) := if_pos h
theorem gate_k {α : Type} {m : List pairT.El} {k : ByteArray} {z : α} {r : α × Int} (h : (mcL m).2 = 0) (hk : 32 < (k.size : Int)) : gate5 m k z r = (z, 3) := by
 unfold gate5
 rw [if_neg (by simpa using h), if_pos hk]
theorem gate_r {α : Type} {m : List pairT.El} {k : ByteArray} {z : α} {r : α × Int} (h : (mcL m).2 = 0) (hk : ¬ 32 < (k.size : Int)) : gate5 m k z r = r := by
 unfold gate5
 rw [if_neg (by simpa using h), if_neg hk]
abbrev zP5 : pairT.El := mkP ⟨#[]⟩ ⟨#[]⟩
def flR (m : List pairT.El) (k : ByteArray) : pairT.El × Int := gate5 m k zP5 (if (lkV m k).isSome = true then ((m[lbP k m]?).getD zP5, 0) else if lbP k m = 0 then (zP5, 4) else ((m[lbP k m - 1]?).getD zP5, 0))
def ceR (m : List pairT.El) (k : ByteArray) : pairT.El × Int := gate5 m k zP5 (if lbP k m < m.length then ((m[lbP k m]?).getD zP5, 0) else (zP5, 4))
def spFl5 : DSpec
 | [.lst (.st [.str, .str]) m, .str k] => some (m.length ≤ 4611686018427387904, .tup [.agg [.str (flR m k).1.1, .str (flR m k).1.2.1], .int .i64 (flR m k).2])
 | _ => none
def spCe5 : DSpec
 | [.lst (.st [.str, .str]) m, .str k] => some (m.length ≤ 4611686018427387904, .tup [.agg [.str (ceR m k).1.1, .str (ceR m k).1.2.1], .int .i64 (ceR m k).2])
 | _ => none
theorem pr_eq {a b : pairT.El × Int} (h : b = a) : AV.tup [.agg [.str a.1.1, .str a.1.2.1], .int .i64 a.2] = AV.tup [.agg [.str b.1.1, .str b.1.2.1], .int .i64 b.2] := by rw [h]
set_option maxRecDepth 100000 in
theorem fnOk_mLook : FnOk Try.prog 59 Try.f59 := ⟨by rfl, by kernel_rfl, by
 show okCode _ _ = true ∧ drawsOk _ = true
 exact ⟨by kernel_rfl, by kernel_rfl⟩⟩
noncomputable def cxyf : Cx := ⟨tb, [(59, Try.f59)], [(14, spMC), (91, spKey), (52, spFd)]⟩
theorem specsyf : SpecsOk Try.prog cxyf.specs := .cons modelCheck_ok (.cons keysCheck_ok (.cons mFind_ok .nil))
theorem fnsyf : FnsOk Try.prog cxyf.fns := .cons fnOk_mLook .nil
set_option maxRecDepth 100000 in
theorem fnOk_mFloor : FnOk Try.prog 26 Try.f26 := ⟨by rfl, by kernel_rfl, by
 show okCode _ _ = true ∧ drawsOk _ = true
 exact ⟨by kernel_rfl, by kernel_rfl⟩⟩
set_option maxRecDepth 100000 in
set_option maxHeartbeats 4000000 in
theorem mFloor_ok : SpecOk Try.prog 26 spFl5 := by
  refine spec_body (C := cxyf) mixed tbOk specsyf (callN_ok (C := cxyf) mixed tbOk specsyf fnsyf 1) fnOk_mFloor ?_
  intro ys p r h hp
  unfold spFl5 at h
  split at h
  · rename_i m k
    cases h
    by_cases hm : (mcL m).2 = 0
    · by_cases hk : 32 < (k.size : Int)
      · have e : flR m k = _ := gate_k hm hk
        have hk2 : (bif decide (32 < (k.size : Int)) then (3 : Int) else 0) = 3 := by simp [hk]
        conv => whnf
        repeat' first | ((first | refine auIk ?_ | refine auIi ?_ | refine auT ?_ | refine auF ?_ | with_reducible first | refine auKt ?_ | refine auKf ?_ | refine auNt ?_ | refine auNf ?_ | refine auEt ?_ | refine auEf ?_); conv => whnf) | ((with_reducible first | refine br_dec ?_ ?_ | refine br_ndec ?_ ?_ | refine br_ne ?_ ?_ | refine br_eq ?_ ?_) <;> intro h <;> first | (exfalso; omega) | conv => whnf) | (refine br_intro ?_ ?_ <;> intro h <;> conv => whnf) | ((first | refine auNd ?_ | refine idx_nat (by omega) (fun x hx => ?_) | refine frz_auto ?_ | refine draw_plain ?_ | refine auIx (fun x hx => ?_)); conv => whnf)
        all_goals ((try rw [hk2]); (try rw [hg]); exact pr_eq e)
      · have e : flR m k = _ := gate_r hm hk
        have hk2 : (bif decide (32 < (k.size : Int)) then (3 : Int) else 0) = 0 := by simp [hk]
        have hml := mcL_zero hm
        have hlb := lkV_lb hml.2.2 k
        have hle := lbP_le k m
        have hm5 : m.length ≤ 100000 := by have := hml.1; omega
        have hneed : ascP m ∧ m.length ≤ 100000 := ⟨hml.2.2, hm5⟩
        skip
        by_cases hlt : lbP k m < m.length
        · obtain ⟨y, hy⟩ : ∃ y, m[lbP k m]? = some y := ⟨_, List.getElem?_eq_getElem hlt⟩
          rw [hy] at hlb
          cases hs : sEq y.1 k with
          | true =>
            have hks : lkV m k = some y.2.1 := by rw [hlb]; exact if_pos hs
            have hki : (lkV m k).isSome = true := by rw [hks]; rfl
            have hkb : (!(lkV m k).isSome) = false := by rw [hki]; rfl
            rw [hks] at e
            conv => whnf
            repeat' first | ((first | refine auIk ?_ | refine auIi ?_ | refine auT ?_ | refine auF ?_ | with_reducible first | refine auKt ?_ | refine auKf ?_ | refine auNt ?_ | refine auNf ?_ | refine auEt ?_ | refine auEf ?_); conv => whnf) | ((with_reducible first | refine br_dec ?_ ?_ | refine br_ndec ?_ ?_ | refine br_ne ?_ ?_ | refine br_eq ?_ ?_) <;> intro h <;> first | (exfalso; omega) | conv => whnf) | (refine br_intro ?_ ?_ <;> intro h <;> conv => whnf) | ((first | refine auNd ?_ | refine idx_nat (by omega) (fun x hx => ?_) | refine frz_auto ?_ | refine draw_plain ?_ | refine auIx (fun x hx => ?_)); conv => whnf)
            all_goals first
              | (refine pr_eq (a := (y, 0)) (e.trans ?_)
                 first
                   | (rw [if_pos hlt, hy]; rfl)
                   | (rw [hy]; rfl)
                 done)
              | (refine pr_eq (a := (zP5, 4)) (e.trans ?_); simp [*]; done)
              | (refine pr_eq (a := (zP5, 4)) (e.trans ?_); have hz : lbP k m = 0 := by omega
                 simp [hz]; done)
              | (rw [show ((lbP k m : Int) - 1).toNat = lbP k m - 1 by omega] at hx
                 refine pr_eq (a := (x, 0)) (e.trans ?_)
                 have hz : ¬ lbP k m = 0 := by omega
                 rw [if_neg (by simp), if_neg hz, hx]; rfl)
          | false =>
            have hks : lkV m k = none := by rw [hlb]; exact if_neg (by rw [hs]; decide)
            have hki : (lkV m k).isSome = false := by rw [hks]; rfl
            have hkb : (!(lkV m k).isSome) = true := by rw [hki]; rfl
            rw [hks] at e
            conv => whnf
            repeat' first | ((first | refine auIk ?_ | refine auIi ?_ | refine auT ?_ | refine auF ?_ | with_reducible first | refine auKt ?_ | refine auKf ?_ | refine auNt ?_ | refine auNf ?_ | refine auEt ?_ | refine auEf ?_); conv => whnf) | ((with_reducible first | refine br_dec ?_ ?_ | refine br_ndec ?_ ?_ | refine br_ne ?_ ?_ | refine br_eq ?_ ?_) <;> intro h <;> first | (exfalso; omega) | conv => whnf) | (refine br_intro ?_ ?_ <;> intro h <;> conv => whnf) | ((first | refine auNd ?_ | refine idx_nat (by omega) (fun x hx => ?_) | refine frz_auto ?_ | refine draw_plain ?_ | refine auIx (fun x hx => ?_)); conv => whnf)
            all_goals first
              | (refine pr_eq (a := (y, 0)) (e.trans ?_)
                 first
                   | (rw [if_pos hlt, hy]; rfl)
                   | (rw [hy]; rfl)
                 done)
              | (refine pr_eq (a := (zP5, 4)) (e.trans ?_); simp [*]; done)
              | (refine pr_eq (a := (zP5, 4)) (e.trans ?_); have hz : lbP k m = 0 := by omega
                 simp [hz]; done)
              | (rw [show ((lbP k m : Int) - 1).toNat = lbP k m - 1 by omega] at hx
                 refine pr_eq (a := (x, 0)) (e.trans ?_)
                 have hz : ¬ lbP k m = 0 := by omega
                 rw [if_neg (by simp), if_neg hz, hx]; rfl)
        · have hnone : m[lbP k m]? = none := List.getElem?_eq_none (by omega)
          rw [hnone] at hlb
          have hki : (lkV m k).isSome = false := by rw [hlb]; rfl
          have hkb : (!(lkV m k).isSome) = true := by rw [hki]; rfl
          rw [hlb] at e
          conv => whnf
          repeat' first | ((first | refine auIk ?_ | refine auIi ?_ | refine auT ?_ | refine auF ?_ | with_reducible first | refine auKt ?_ | refine auKf ?_ | refine auNt ?_ | refine auNf ?_ | refine auEt ?_ | refine auEf ?_); conv => whnf) | ((with_reducible first | refine br_dec ?_ ?_ | refine br_ndec ?_ ?_ | refine br_ne ?_ ?_ | refine br_eq ?_ ?_) <;> intro h <;> first | (exfalso; omega) | conv => whnf) | (refine br_intro ?_ ?_ <;> intro h <;> conv => whnf) | ((first | refine auNd ?_ | refine idx_nat (by omega) (fun x hx => ?_) | refine frz_auto ?_ | refine draw_plain ?_ | refine auIx (fun x hx => ?_)); conv => whnf)
          all_goals first
            | (refine pr_eq (a := (zP5, 4)) (e.trans ?_); simp [*]; done)
            | (refine pr_eq (a := (zP5, 4)) (e.trans ?_); have hz : lbP k m = 0 := by omega
               simp [hz]; done)
            | (rw [show ((lbP k m : Int) - 1).toNat = lbP k m - 1 by omega] at hx
               refine pr_eq (a := (x, 0)) (e.trans ?_)
               have hz : ¬ lbP k m = 0 := by omega
               rw [if_neg (by simp), if_neg hz, hx]; rfl)
    · have e : flR m k = _ := gate_m hm
      skip
      conv => whnf
      repeat' first | ((first | refine auIk ?_ | refine auIi ?_ | refine auT ?_ | refine auF ?_ | with_reducible first | refine auKt ?_ | refine auKf ?_ | refine auNt ?_ | refine auNf ?_ | refine auEt ?_ | refine auEf ?_); conv => whnf) | ((with_reducible first | refine br_dec ?_ ?_ | refine br_ndec ?_ ?_ | refine br_ne ?_ ?_ | refine br_eq ?_ ?_) <;> intro h <;> first | (exfalso; omega) | conv => whnf) | (refine br_intro ?_ ?_ <;> intro h <;> conv => whnf) | ((first | refine auNd ?_ | refine idx_nat (by omega) (fun x hx => ?_) | refine frz_auto ?_ | refine draw_plain ?_ | refine auIx (fun x hx => ?_)); conv => whnf)
      all_goals ((try rw [hg]); exact pr_eq e)
  · cases h
set_option maxRecDepth 100000 in
theorem fnOk_mCeil : FnOk Try.prog 28 Try.f28 := ⟨by rfl, by kernel_rfl, by
 show okCode _ _ = true ∧ drawsOk _ = true
 exact ⟨by kernel_rfl, by kernel_rfl⟩⟩
set_option maxRecDepth 100000 in
set_option maxHeartbeats 4000000 in
theorem mCeil_ok : SpecOk Try.prog 28 spCe5 := by
  refine spec_body (C := cxyf) mixed tbOk specsyf (callN_ok (C := cxyf) mixed tbOk specsyf fnsyf 1) fnOk_mCeil ?_
  intro ys p r h hp
  unfold spCe5 at h
  split at h
  · rename_i m k
    cases h
    by_cases hm : (mcL m).2 = 0
    · by_cases hk : 32 < (k.size : Int)
      · have e : ceR m k = _ := gate_k hm hk
        have hk2 : (bif decide (32 < (k.size : Int)) then (3 : Int) else 0) = 3 := by simp [hk]
        conv => whnf
        repeat' first | ((first | refine auIk ?_ | refine auIi ?_ | refine auT ?_ | refine auF ?_ | with_reducible first | refine auKt ?_ | refine auKf ?_ | refine auNt ?_ | refine auNf ?_ | refine auEt ?_ | refine auEf ?_); conv => whnf) | ((with_reducible first | refine br_dec ?_ ?_ | refine br_ndec ?_ ?_ | refine br_ne ?_ ?_ | refine br_eq ?_ ?_) <;> intro h <;> first | (exfalso; omega) | conv => whnf) | (refine br_intro ?_ ?_ <;> intro h <;> conv => whnf) | ((first | refine auNd ?_ | refine idx_nat (by omega) (fun x hx => ?_) | refine frz_auto ?_ | refine draw_plain ?_ | refine auIx (fun x hx => ?_)); conv => whnf)
        all_goals ((try rw [hk2]); (try rw [hg]); exact pr_eq e)
      · have e : ceR m k = _ := gate_r hm hk
        have hk2 : (bif decide (32 < (k.size : Int)) then (3 : Int) else 0) = 0 := by simp [hk]
        have hml := mcL_zero hm
        have hlb := lkV_lb hml.2.2 k
        have hle := lbP_le k m
        have hm5 : m.length ≤ 100000 := by have := hml.1; omega
        have hneed : ascP m ∧ m.length ≤ 100000 := ⟨hml.2.2, hm5⟩
        skip
        by_cases hlt : lbP k m < m.length
        · obtain ⟨y, hy⟩ : ∃ y, m[lbP k m]? = some y := ⟨_, List.getElem?_eq_getElem hlt⟩
          rw [hy] at hlb
          cases hs : sEq y.1 k with
          | true =>
            have hks : lkV m k = some y.2.1 := by rw [hlb]; exact if_pos hs
            have hki : (lkV m k).isSome = true := by rw [hks]; rfl
            have hkb : (!(lkV m k).isSome) = false := by rw [hki]; rfl
            skip
            conv => whnf
            repeat' first | ((first | refine auIk ?_ | refine auIi ?_ | refine auT ?_ | refine auF ?_ | with_reducible first | refine auKt ?_ | refine auKf ?_ | refine auNt ?_ | refine auNf ?_ | refine auEt ?_ | refine auEf ?_); conv => whnf) | ((with_reducible first | refine br_dec ?_ ?_ | refine br_ndec ?_ ?_ | refine br_ne ?_ ?_ | refine br_eq ?_ ?_) <;> intro h <;> first | (exfalso; omega) | conv => whnf) | (refine br_intro ?_ ?_ <;> intro h <;> conv => whnf) | ((first | refine auNd ?_ | refine idx_nat (by omega) (fun x hx => ?_) | refine frz_auto ?_ | refine draw_plain ?_ | refine auIx (fun x hx => ?_)); conv => whnf)
            all_goals first
              | (refine pr_eq (a := (y, 0)) (e.trans ?_)
                 first
                   | (rw [if_pos hlt, hy]; rfl)
                   | (rw [hy]; rfl)
                 done)
              | (refine pr_eq (a := (zP5, 4)) (e.trans ?_); simp [*]; done)
              | (refine pr_eq (a := (zP5, 4)) (e.trans ?_); have hz : lbP k m = 0 := by omega
                 simp [hz]; done)
              | (rw [show ((lbP k m : Int) - 1).toNat = lbP k m - 1 by omega] at hx
                 refine pr_eq (a := (x, 0)) (e.trans ?_)
                 have hz : ¬ lbP k m = 0 := by omega
                 rw [if_neg (by simp), if_neg hz, hx]; rfl)
          | false =>
            have hks : lkV m k = none := by rw [hlb]; exact if_neg (by rw [hs]; decide)
            have hki : (lkV m k).isSome = false := by rw [hks]; rfl
            have hkb : (!(lkV m k).isSome) = true := by rw [hki]; rfl
            skip
            conv => whnf
            repeat' first | ((first | refine auIk ?_ | refine auIi ?_ | refine auT ?_ | refine auF ?_ | with_reducible first | refine auKt ?_ | refine auKf ?_ | refine auNt ?_ | refine auNf ?_ | refine auEt ?_ | refine auEf ?_); conv => whnf) | ((with_reducible first | refine br_dec ?_ ?_ | refine br_ndec ?_ ?_ | refine br_ne ?_ ?_ | refine br_eq ?_ ?_) <;> intro h <;> first | (exfalso; omega) | conv => whnf) | (refine br_intro ?_ ?_ <;> intro h <;> conv => whnf) | ((first | refine auNd ?_ | refine idx_nat (by omega) (fun x hx => ?_) | refine frz_auto ?_ | refine draw_plain ?_ | refine auIx (fun x hx => ?_)); conv => whnf)
            all_goals first
              | (refine pr_eq (a := (y, 0)) (e.trans ?_)
                 first
                   | (rw [if_pos hlt, hy]; rfl)
                   | (rw [hy]; rfl)
                 done)
              | (refine pr_eq (a := (zP5, 4)) (e.trans ?_); simp [*]; done)
              | (refine pr_eq (a := (zP5, 4)) (e.trans ?_); have hz : lbP k m = 0 := by omega
                 simp [hz]; done)
              | (rw [show ((lbP k m : Int) - 1).toNat = lbP k m - 1 by omega] at hx
                 refine pr_eq (a := (x, 0)) (e.trans ?_)
                 have hz : ¬ lbP k m = 0 := by omega
                 rw [if_neg (by simp), if_neg hz, hx]; rfl)
        · have hnone : m[lbP k m]? = none := List.getElem?_eq_none (by omega)
          rw [hnone] at hlb
          have hki : (lkV m k).isSome = false := by rw [hlb]; rfl
          have hkb : (!(lkV m k).isSome) = true := by rw [hki]; rfl
          skip
          conv => whnf
          repeat' first | ((first | refine auIk ?_ | refine auIi ?_ | refine auT ?_ | refine auF ?_ | with_reducible first | refine auKt ?_ | refine auKf ?_ | refine auNt ?_ | refine auNf ?_ | refine auEt ?_ | refine auEf ?_); conv => whnf) | ((with_reducible first | refine br_dec ?_ ?_ | refine br_ndec ?_ ?_ | refine br_ne ?_ ?_ | refine br_eq ?_ ?_) <;> intro h <;> first | (exfalso; omega) | conv => whnf) | (refine br_intro ?_ ?_ <;> intro h <;> conv => whnf) | ((first | refine auNd ?_ | refine idx_nat (by omega) (fun x hx => ?_) | refine frz_auto ?_ | refine draw_plain ?_ | refine auIx (fun x hx => ?_)); conv => whnf)
          all_goals first
            | (refine pr_eq (a := (zP5, 4)) (e.trans ?_); simp [*]; done)
            | (refine pr_eq (a := (zP5, 4)) (e.trans ?_); have hz : lbP k m = 0 := by omega
               simp [hz]; done)
            | (rw [show ((lbP k m : Int) - 1).toNat = lbP k m - 1 by omega] at hx
               refine pr_eq (a := (x, 0)) (e.trans ?_)
               have hz : ¬ lbP k m = 0 := by omega
               rw [if_neg (by simp), if_neg hz, hx]; rfl)
    · have e : ceR m k = _ := gate_m hm
      skip
      conv => whnf
      repeat' first | ((first | refine auIk ?_ | refine auIi ?_ | refine auT ?_ | refine auF ?_ | with_reducible first | refine auKt ?_ | refine auKf ?_ | refine auNt ?_ | refine auNf ?_ | refine auEt ?_ | refine auEf ?_); conv => whnf) | ((with_reducible first | refine br_dec ?_ ?_ | refine br_ndec ?_ ?_ | refine br_ne ?_ ?_ | refine br_eq ?_ ?_) <;> intro h <;> first | (exfalso; omega) | conv => whnf) | (refine br_intro ?_ ?_ <;> intro h <;> conv => whnf) | ((first | refine auNd ?_ | refine idx_nat (by omega) (fun x hx => ?_) | refine frz_auto ?_ | refine draw_plain ?_ | refine auIx (fun x hx => ?_)); conv => whnf)
      all_goals ((try rw [hg]); exact pr_eq e)
  · cases h
end Go.Proofs.Ytbbklijmnknmhaa
namespace Go.Proofs.Ytbbklijmnknmhaa
open Av Bk

theorem filt_seg {α : Type} {P : α → Bool} : ∀ {l : List α} {a b : Nat}, (∀ i x, l[i]? = some x → P x = (decide (a ≤ i) && decide (i < b))) → l.filter P = (l.take b).drop a
 | [], _, _, _ => by simp
 | x :: l, a, b, h => by
  have h0 := h 0 x rfl
  cases b with
  | zero =>
   rw [List.filter_cons_of_neg (by rw [h0]; simp), filt_seg (a := 0) (b := 0) (fun i y hy => by
    have := h (i + 1) y hy
    rw [this]
    simp)]
   simp
  | succ b =>
   cases a with
   | zero =>
    rw [List.filter_cons_of_pos (by rw [h0]; simp), filt_seg (a := 0) (b := b) (fun i y hy => by
     have := h (i + 1) y hy
     rw [this]
     simp)]
    simp
   | succ a =>
    rw [List.filter_cons_of_neg (by rw [h0]; simp), filt_seg (a := a) (b := b) (fun i y hy => by
     have := h (i + 1) y hy
     rw [this]
     simp)]
    simp
def ptR (m : List pairT.El) (lo hi : ByteArray) (bd : Bool) : List pairT.El × Int := if (mcL m).2 ≠ 0 then ([], (mcL m).2) else if rgE lo hi bd ≠ 0 then ([], rgE lo hi bd) else (m.filter (fun p => hasB lo hi bd p.1), 0)
theorem pt_m {m : List pairT.El} {lo hi : ByteArray} {bd : Bool} (h : (mcL m).2 ≠ 0) : ptR m lo hi bd = ([], (mcL m).2) := if_pos h
theorem pt_r {m : List pairT.El} {lo hi : ByteArray} {bd : Bool} (h : (mcL m).2 = 0) (hr : rgE lo hi bd ≠ 0) : ptR m lo hi bd = ([], rgE lo hi bd) := by
 unfold ptR
 rw [if_neg (by simpa using h), if_pos hr]
theorem pt_ok {m : List pairT.El} {lo hi : ByteArray} {bd : Bool} (h : (mcL m).2 = 0) (hr : rgE lo hi bd = 0) : ptR m lo hi bd = (m.filter (fun p => hasB lo hi bd p.1), 0) := by
 unfold ptR
 rw [if_neg (by simpa using h), if_neg (by simpa using hr)]
def ptTo (m : List pairT.El) (hi : ByteArray) (bd : Bool) : Nat := if bd = true then lbP hi m else m.length
theorem pt_seg {m : List pairT.El} {lo hi : ByteArray} {bd : Bool} (ha : ascP m) : m.filter (fun p => hasB lo hi bd p.1) = (m.take (max (lbP lo m) (ptTo m hi bd))).drop (lbP lo m) := by
 have side : ∀ (k : ByteArray) (i : Nat) (x : pairT.El), m[i]? = some x → sLt x.1 k = decide (i < lbP k m) := fun k i x hx => by
  by_cases h : i < lbP k m
  ·rw [lbP_lt ha h hx]; simp [h]
  ·rw [lbP_ge ha (by omega) hx]; simp [h]
 refine filt_seg (fun i x hx => ?_)
 have hil := (List.getElem?_eq_some_iff.1 hx).1
 unfold hasB ptTo
 rw [side lo i x hx]
 cases bd with
 | false =>
  by_cases h : i < lbP lo m
  ·have : ¬ lbP lo m ≤ i := by omega
   simp [h, this]
  ·have h1 : lbP lo m ≤ i := by omega
   have h2 : i < max (lbP lo m) m.length := by omega
   simp [h, h1, hil]
   exact h2
 | true =>
  rw [side hi i x hx]
  by_cases h : i < lbP lo m
  ·have : ¬ lbP lo m ≤ i := by omega
   simp [h, this]
  ·have h1 : lbP lo m ≤ i := by omega
   by_cases h2 : i < lbP hi m
   ·have h3 : i < max (lbP lo m) (lbP hi m) := by omega
    simp [h, h1, h2]
    exact h3
   ·have h3 : ¬ i < max (lbP lo m) (lbP hi m) := by omega
    simp only [h, h1, h2, decide_true, decide_false, Bool.not_false, Bool.true_and, Bool.not_true, Bool.false_or, if_true]
    exact (decide_eq_false h3).symm
def spPt5 : DSpec
 | [.lst (.st [.str, .str]) m, .agg [.str lo, .str hi, .bool bd]] => some (m.length ≤ 4611686018427387904, .tup [.lst pairT (ptR m lo hi bd).1, .int .i64 (ptR m lo hi bd).2])
 | _ => none
theorem pt_eq {a b : List pairT.El × Int} (h : b = a) : AV.tup [.lst pairT a.1, .int .i64 a.2] = AV.tup [.lst pairT b.1, .int .i64 b.2] := by rw [h]
theorem pt_cut {m : List pairT.El} {a b : Nat} : List.take ((if (a : Int) < (b : Int) then (b : Int) else (a : Int)).toNat - ((a : Nat) : Int).toNat) (List.drop ((a : Nat) : Int).toNat m) = (m.take (max a b)).drop a := by
 rw [show (if (a : Int) < (b : Int) then (b : Int) else (a : Int)).toNat = max a b by split <;> omega, List.drop_take]
 rfl
theorem pt_fin {X Y : List pairT.El} {r : List pairT.El × Int} (e : r = (Y, 0)) (h : X = Y) : AV.tup [.lst pairT (List.take X.length X), .int .i64 0] = AV.tup [.lst pairT r.1, .int .i64 r.2] := by
 rw [e, List.take_length, h]
set_option maxRecDepth 100000 in
theorem fnOk_mPart : FnOk Try.prog 30 Try.f30 := ⟨by rfl, by kernel_rfl, by
 show okCode _ _ = true ∧ drawsOk _ = true
 exact ⟨by kernel_rfl, by kernel_rfl⟩⟩
noncomputable def cxyg2 : Cx := ⟨tb, [], [(14, .d spMC), (62, .d spRg), (52, .d spFd), (51, .f spClP)]⟩
theorem specsyg2 : SpecsOk Try.prog cxyg2.specs := .cons modelCheck_ok (.cons keysRg_ok (.cons mFind_ok (.consF cloneP_ok .nil)))
set_option maxRecDepth 100000 in
set_option maxHeartbeats 4000000 in
theorem mPart_ok : SpecOk Try.prog 30 spPt5 := by
 refine spec_body (C := cxyg2) mixed tbOk specsyg2 (callN_ok (C := cxyg2) mixed tbOk specsyg2 FnsOk.nil 0) fnOk_mPart ?_
 intro ys p r h hp
 unfold spPt5 at h
 split at h
 ·rename_i m lo hi bd
  cases h
  by_cases hm : (mcL m).2 = 0
  ·by_cases hr : rgE lo hi bd = 0
   ·have e := pt_ok hm hr
    have hml := mcL_zero hm
    have hneed : ascP m ∧ m.length ≤ 100000 := ⟨hml.2.2, by have := hml.1; omega⟩
    have hs := pt_seg (lo := lo) (hi := hi) (bd := bd) hml.2.2
    have hl1 := lbP_le lo m
    have hl2 := lbP_le hi m
    rw [hs] at e
    cases bd with
    | true =>
     conv => whnf
     repeat' first | ((first | refine auIk ?_ | refine auIi ?_ | refine auT ?_ | refine auF ?_ | with_reducible first | refine auKt ?_ | refine auKf ?_ | refine auNt ?_ | refine auNf ?_ | refine auEt ?_ | refine auEf ?_); conv => whnf) | ((with_reducible first | refine br_dec ?_ ?_ | refine br_ndec ?_ ?_ | refine br_ne ?_ ?_ | refine br_eq ?_ ?_) <;> intro h <;> first | (exfalso; omega) | conv => whnf) | (refine br_intro ?_ ?_ <;> intro h <;> conv => whnf) | ((first | refine auNd ?_ | refine idx_nat (by omega) (fun x hx => ?_) | refine frz_auto ?_ | refine draw_plain ?_ | refine auIx (fun x hx => ?_)); conv => whnf)
     exact pt_fin e pt_cut
    | false =>
     conv => whnf
     repeat' first | ((first | refine auIk ?_ | refine auIi ?_ | refine auT ?_ | refine auF ?_ | with_reducible first | refine auKt ?_ | refine auKf ?_ | refine auNt ?_ | refine auNf ?_ | refine auEt ?_ | refine auEf ?_); conv => whnf) | ((with_reducible first | refine br_dec ?_ ?_ | refine br_ndec ?_ ?_ | refine br_ne ?_ ?_ | refine br_eq ?_ ?_) <;> intro h <;> first | (exfalso; omega) | conv => whnf) | (refine br_intro ?_ ?_ <;> intro h <;> conv => whnf) | ((first | refine auNd ?_ | refine idx_nat (by omega) (fun x hx => ?_) | refine frz_auto ?_ | refine draw_plain ?_ | refine auIx (fun x hx => ?_)); conv => whnf)
     exact pt_fin e pt_cut
   ·have e := pt_r hm hr
    conv => whnf
    repeat' first | ((first | refine auIk ?_ | refine auIi ?_ | refine auT ?_ | refine auF ?_ | with_reducible first | refine auKt ?_ | refine auKf ?_ | refine auNt ?_ | refine auNf ?_ | refine auEt ?_ | refine auEf ?_); conv => whnf) | ((with_reducible first | refine br_dec ?_ ?_ | refine br_ndec ?_ ?_ | refine br_ne ?_ ?_ | refine br_eq ?_ ?_) <;> intro h <;> first | (exfalso; omega) | conv => whnf) | (refine br_intro ?_ ?_ <;> intro h <;> conv => whnf) | ((first | refine auNd ?_ | refine idx_nat (by omega) (fun x hx => ?_) | refine frz_auto ?_ | refine draw_plain ?_ | refine auIx (fun x hx => ?_)); conv => whnf)
    all_goals exact pt_eq e
  ·have e : ptR m lo hi bd = _ := pt_m hm
   conv => whnf
   repeat' first | ((first | refine auIk ?_ | refine auIi ?_ | refine auT ?_ | refine auF ?_ | with_reducible first | refine auKt ?_ | refine auKf ?_ | refine auNt ?_ | refine auNf ?_ | refine auEt ?_ | refine auEf ?_); conv => whnf) | ((with_reducible first | refine br_dec ?_ ?_ | refine br_ndec ?_ ?_ | refine br_ne ?_ ?_ | refine br_eq ?_ ?_) <;> intro h <;> first | (exfalso; omega) | conv => whnf) | (refine br_intro ?_ ?_ <;> intro h <;> conv => whnf) | ((first | refine auNd ?_ | refine idx_nat (by omega) (fun x hx => ?_) | refine frz_auto ?_ | refine draw_plain ?_ | refine auIx (fun x hx => ?_)); conv => whnf)
   all_goals exact pt_eq e
 ·cases h
set_option maxRecDepth 100000 in
theorem fnOk_rPart7 : FnOk Try.prog 31 Try.f31 := ⟨by rfl, by kernel_rfl, by
 show okCode _ _ = true ∧ drawsOk _ = true
 exact ⟨by kernel_rfl, by kernel_rfl⟩⟩
noncomputable def cxyg3 : Cx := ⟨tb, [], [(15, spMC), (42, spRg)]⟩
theorem specsyg3 : SpecsOk Try.prog cxyg3.specs := .cons r05Check_ok (.cons ref02Rg_ok .nil)
def ptF (m : List pairT.El) (lo hi : ByteArray) (bd : Bool) (i : Nat) : List pairT.El := (m.take i).filter (fun p => hasB lo hi bd p.1)
theorem ptF_le {m : List pairT.El} {lo hi : ByteArray} {bd : Bool} {i : Nat} : (ptF m lo hi bd i).length ≤ i :=
 Nat.le_trans (List.length_filter_le _ _) (by rw [List.length_take]; omega)
theorem ptF_snoc {m : List pairT.El} {lo hi : ByteArray} {bd : Bool} {i : Nat} {x : pairT.El} (hx : m[i]? = some x) : ptF m lo hi bd (i + 1) = ptF m lo hi bd i ++ (if hasB lo hi bd x.1 = true then [x] else []) := by
 unfold ptF
 rw [List.take_add_one, hx, List.filter_append]
 congr 1
 show List.filter _ [x] = _
 rw [List.filter_cons]
 rfl
theorem ptF_end {m : List pairT.El} {lo hi : ByteArray} {bd : Bool} {i : Nat} (h : m.length ≤ i) : ptF m lo hi bd i = m.filter (fun p => hasB lo hi bd p.1) := by
 unfold ptF
 rw [List.take_of_length_le h]
theorem pt_vs {n n' g : Nat} {z z' : Int} (h : n = n') (hz : z = z') : [AV.own 2 g n, .int .i64 z] = [AV.own 2 g n', .int .i64 z'] := by rw [h, hz]
theorem pt_h {a b : AObj} {L L' : List pairT.El} {g : Nat} {T : TypeId} (h : L = L') : [a, b, .arr T pairT L false g] = [a, b, AObj.arr T pairT L' false g] := by rw [h]
set_option maxRecDepth 100000 in
set_option maxHeartbeats 4000000 in
theorem rPart7_ok : SpecOk Try.prog 31 spPt5 := by
  refine spec_body (C := cxyg3) mixed tbOk specsyg3 (callN_ok (C := cxyg3) mixed tbOk specsyg3 FnsOk.nil 0) fnOk_rPart7 ?_
  intro ys p r h hp
  unfold spPt5 at h
  split at h
  · rename_i m lo hi bd
    cases h
    by_cases hm : (mcL m).2 = 0
    · by_cases hr : rgE lo hi bd = 0
      · have e := pt_ok hm hr
        have hml := mcL_zero hm
        have hm4 := hml.1
        conv => whnf
        repeat' first | ((first | refine auIk ?_ | refine auIi ?_ | refine auT ?_ | refine auF ?_ | with_reducible first | refine auKt ?_ | refine auKf ?_ | refine auNt ?_ | refine auNf ?_ | refine auEt ?_ | refine auEf ?_); conv => whnf) | ((with_reducible first | refine br_dec ?_ ?_ | refine br_ndec ?_ ?_ | refine br_ne ?_ ?_ | refine br_eq ?_ ?_) <;> intro h <;> first | (exfalso; omega) | conv => whnf) | (refine br_intro ?_ ?_ <;> intro h <;> conv => whnf) | ((first | refine auNd ?_ | refine idx_nat (by omega) (fun x hx => ?_) | refine frz_auto ?_ | refine draw_plain ?_ | refine auIx (fun x hx => ?_)); conv => whnf)
        refine loop_inv [] [8, 9] (fun vs h => ∃ i g : Nat, vs = [.own 2 g (ptF m lo hi bd i).length, .int .i64 (i : Int)] ∧ h = [.cells 46 [.str lo, .str hi, .bool bd], .arr 50 pairT [] false 0, .arr 50 pairT (ptF m lo hi bd i) false g] ∧ i ≤ m.length) (fun vs _ => match vs with | [_, .int _ k] => m.length - k.toNat | _ => 0) ?_
        conv => whnf
        refine ⟨⟨0, 0, rfl, rfl, Nat.zero_le _⟩, ?_⟩
        rintro vs h' - ⟨i, g, rfl, rfl, hii⟩
        have hfl := ptF_le (m := m) (lo := lo) (hi := hi) (bd := bd) (i := i)
        by_cases hil : i < m.length
        · obtain ⟨x, hx⟩ : ∃ x, m[i]? = some x := ⟨_, List.getElem?_eq_getElem hil⟩
          have hsn := ptF_snoc (lo := lo) (hi := hi) (bd := bd) hx
          cases hb : hasB lo hi bd x.1 with
          | true =>
            rw [if_pos hb] at hsn
            conv => whnf
            repeat' first | ((first | refine auIk ?_ | refine auIi ?_ | refine auT ?_ | refine auF ?_ | with_reducible first | refine auKt ?_ | refine auKf ?_ | refine auNt ?_ | refine auNf ?_ | refine auEt ?_ | refine auEf ?_); conv => whnf) | ((with_reducible first | refine br_dec ?_ ?_ | refine br_ndec ?_ ?_ | refine br_ne ?_ ?_ | refine br_eq ?_ ?_) <;> intro h <;> first | (exfalso; omega) | conv => whnf) | (refine br_intro ?_ ?_ <;> intro h <;> conv => whnf) | ((first | refine auNd ?_ | refine idx_nat (by omega) (fun x hx => ?_) | refine frz_auto ?_ | refine draw_plain ?_ | refine auIx (fun x hx => ?_)); conv => whnf)
            all_goals first
              | (exfalso; simp [hasB, *] at hb; done)
              | (refine back_intro (by conv => whnf) rfl ⟨i + 1, g + 1, pt_vs ?_ (by omega), pt_h ?_, by omega⟩ ?_
                 · rw [hsn]; simp
                 · rw [hsn, List.take_length]; rfl
                 · show m.length - ((i : Int) + 1).toNat < m.length - (i : Int).toNat
                   omega)
          | false =>
            rw [if_neg (by rw [hb]; decide), List.append_nil] at hsn
            conv => whnf
            repeat' first | ((first | refine auIk ?_ | refine auIi ?_ | refine auT ?_ | refine auF ?_ | with_reducible first | refine auKt ?_ | refine auKf ?_ | refine auNt ?_ | refine auNf ?_ | refine auEt ?_ | refine auEf ?_); conv => whnf) | ((with_reducible first | refine br_dec ?_ ?_ | refine br_ndec ?_ ?_ | refine br_ne ?_ ?_ | refine br_eq ?_ ?_) <;> intro h <;> first | (exfalso; omega) | conv => whnf) | (refine br_intro ?_ ?_ <;> intro h <;> conv => whnf) | ((first | refine auNd ?_ | refine idx_nat (by omega) (fun x hx => ?_) | refine frz_auto ?_ | refine draw_plain ?_ | refine auIx (fun x hx => ?_)); conv => whnf)
            all_goals first
              | (exfalso; simp [hasB, *] at hb; done)
              | (refine back_intro (by conv => whnf) rfl ⟨i + 1, g, pt_vs (by rw [hsn]) (by omega), pt_h hsn.symm, by omega⟩ ?_
                 show m.length - ((i : Int) + 1).toNat < m.length - (i : Int).toNat
                 omega)
        · have hend := ptF_end (lo := lo) (hi := hi) (bd := bd) (m := m) (i := i) (by omega)
          conv => whnf
          repeat' first | ((first | refine auIk ?_ | refine auIi ?_ | refine auT ?_ | refine auF ?_ | with_reducible first | refine auKt ?_ | refine auKf ?_ | refine auNt ?_ | refine auNf ?_ | refine auEt ?_ | refine auEf ?_); conv => whnf) | ((with_reducible first | refine br_dec ?_ ?_ | refine br_ndec ?_ ?_ | refine br_ne ?_ ?_ | refine br_eq ?_ ?_) <;> intro h <;> first | (exfalso; omega) | conv => whnf) | (refine br_intro ?_ ?_ <;> intro h <;> conv => whnf) | ((first | refine auNd ?_ | refine idx_nat (by omega) (fun x hx => ?_) | refine frz_auto ?_ | refine draw_plain ?_ | refine auIx (fun x hx => ?_)); conv => whnf)
          exact pt_fin e hend
      · have e := pt_r hm hr
        conv => whnf
        repeat' first | ((first | refine auIk ?_ | refine auIi ?_ | refine auT ?_ | refine auF ?_ | with_reducible first | refine auKt ?_ | refine auKf ?_ | refine auNt ?_ | refine auNf ?_ | refine auEt ?_ | refine auEf ?_); conv => whnf) | ((with_reducible first | refine br_dec ?_ ?_ | refine br_ndec ?_ ?_ | refine br_ne ?_ ?_ | refine br_eq ?_ ?_) <;> intro h <;> first | (exfalso; omega) | conv => whnf) | (refine br_intro ?_ ?_ <;> intro h <;> conv => whnf) | ((first | refine auNd ?_ | refine idx_nat (by omega) (fun x hx => ?_) | refine frz_auto ?_ | refine draw_plain ?_ | refine auIx (fun x hx => ?_)); conv => whnf)
        all_goals exact pt_eq e
    · have e : ptR m lo hi bd = _ := pt_m hm
      conv => whnf
      repeat' first | ((first | refine auIk ?_ | refine auIi ?_ | refine auT ?_ | refine auF ?_ | with_reducible first | refine auKt ?_ | refine auKf ?_ | refine auNt ?_ | refine auNf ?_ | refine auEt ?_ | refine auEf ?_); conv => whnf) | ((with_reducible first | refine br_dec ?_ ?_ | refine br_ndec ?_ ?_ | refine br_ne ?_ ?_ | refine br_eq ?_ ?_) <;> intro h <;> first | (exfalso; omega) | conv => whnf) | (refine br_intro ?_ ?_ <;> intro h <;> conv => whnf) | ((first | refine auNd ?_ | refine idx_nat (by omega) (fun x hx => ?_) | refine frz_auto ?_ | refine draw_plain ?_ | refine auIx (fun x hx => ?_)); conv => whnf)
      all_goals exact pt_eq e
  · cases h
end Go.Proofs.Ytbbklijmnknmhaa
namespace Go.Proofs.Ytbbklijmnknmhaa
open Av Bk Go.Proofs Go.Lib

end Go.Proofs.Ytbbklijmnknmhaa
namespace Av
open Go Go.ChangeShapes Go.WideShapes Go.ChangeAt Go.RowKit Go.Joins Go.Deep

def NoBx (B : Hp) : Prop := ∀ o ∈ B, ∃ T t, o = .oth (.bxs T t []) ∨ o = .arr T t [] false 0
def St.bx (s : St) (B : Hp) : St := ⟨fun _ => .slice none 0 0, B, s.w, s.F⟩
theorem bx_noI {s : St} {B : Hp} (hB : NoBx B) {b : Nat} : ¬ OwnI (s.bx B) b := by
 rintro ⟨i, o, h1, _, h3⟩
 obtain ⟨T, t, ho⟩ := hB o (List.mem_of_getElem? h1)
 rcases h3 with h3 | h3
 ·cases h3
 ·rcases ho with rfl | rfl
  ·have h3 : b ∈ ([] : List Nat) := h3
   simp at h3
  ·have h3 : b ∈ ([] : List Nat) := h3
   simp at h3
theorem bx_ok {s : St} (hok : Ok s) {B : Hp} (hB : NoBx B) : Ok (s.bx B) where
 obj := fun id o h => by
  obtain ⟨T, t, ho⟩ := hB o (List.mem_of_getElem? h)
  rcases ho with rfl | rfl
  ·exact ⟨rfl, by simp, fun b x hx => by simp at hx⟩
  ·exact ⟨[], ⟨by simp, .inl ⟨rfl, rfl⟩⟩, by simp, by simp, by simp⟩
 inj := fun i j o p b hi _ ho _ hb _ => absurd ⟨i, o, hi, ho, hb⟩ (bx_noI hB)
 fb := hok.fb
 dis := fun b h => absurd h (bx_noI hB)
theorem bx_RL {s : St} (hh : s.h = []) {B : Hp} (hB : NoBx B) {xs : List AV} {cs : List Value} (hr : RL s xs cs) : RL (s.bx B) xs cs :=
 RL_pure (s2 := s.bx B) hh rfl (fun b hn h => h.elim (fun h => hn (.inl h)) (bx_noI hB)) xs cs hr
theorem bx_step {s s' : St} (hh : s.h = []) {B : Hp} (hB : NoBx B) (hst : Step (s.bx B) s') : Step s (s'.cut 0) where
 os := hst.os
 tape := hst.tape
 output := hst.output
 drawn := hst.drawn
 size := hst.size
 kn := fun i hi => by unfold Av.kn at hi; rw [hh] at hi; simp at hi
 keep := fun b hb _ => ⟨fun ⟨id, o, h, _⟩ => by simp [St.cut] at h, (hst.keep b hb (bx_noI hB)).2⟩
 frn := hst.frn
 cells := fun i T cs' hi _ => by unfold Av.kn at hi; rw [hh] at hi; simp at hi
 oth := fun i o' hi _ => by unfold Av.kn at hi; rw [hh] at hi; simp at hi
 arr := fun i T t l' f' g hi _ => by unfold Av.kn at hi; rw [hh] at hi; simp at hi
section
variable {P : Program}
theorem spec_bodyB {C : Cx} (hm : P.follows .mixedOrders = true) (hT : TbOk P C.tb) (hD : SpecsOk P C.specs) {call : CallA} (hcall : CallOk P call) {g : FuncId} {fn : Func} (hf : FnOk P g fn) {sp : DSpec} {B : Hp} (hB : NoBx B)
  (h : ∀ ys p r, sp ys = some (p, r) → p → bodyA C call fn ys B (fun v h => (viewR h v fun y => .ok y none).sat fun y _ => y = r)) : SpecOk P g sp := by
 refine ⟨hf.enters, fun ys p r hsp hp s hok hh cs hr => ?_⟩
 have hb := h ys p r hsp hp
 refine Calls.mono (bodyA_ok hm hT hD hcall hf (s := s.bx B) hb (bx_ok hok hB) (bx_RL hh hB hr)) ?_
 rintro e w' ⟨s', v, cr, rfl, rfl, hst, hok', hv, hK⟩
 obtain ⟨y, ob, his, rfl⟩ := Res.sat_is hK
 have hFo : ∀ b, s'.F b → Own s' b := fun b hb => .inl hb
 obtain ⟨z, hz, hR⟩ := viewR_ok hok' (SubH.refl _) (F := s'.F) hFo v cr _ y ob hv (fun _ b hb => hok'.dis b hb) his
 obtain ⟨rfl, _⟩ := hz
 have hcut : s'.cut 0 = s'.callee s'.F := by
  unfold St.cut St.callee
  rw [List.take_zero]
 refine ⟨s'.cut 0, cr, rfl, rfl, bx_step hh hB hst, cut_ok hok' (fun id T cs hlt => by omega), by rw [hcut]; rfl, by rw [hcut]; exact hR⟩
variable {H : Type} {enc : TypeId × Value → H} {w : World} {base : Nat} {spare : Nat → Bool} {held : Bool}
theorem law_callsB {C : Cx} (hm : P.follows .mixedOrders = true) (hT : TbOk P C.tb) (hD : SpecsOk P C.specs) {call : CallA} (hcall : CallOk P call) {g : FuncId} {fn : Func} (hf : FnOk P g fn) {ts : List Ty} {B : Hp} (hB : NoBx B)
  (walk : ∀ es : Ty.Els ts, tyOks ts es → bodyA C call fn (avTs ts es) B (fun v _ => v = .bool true))
  {Ts : List TypeId} (hc : chkAll P Ts ts = true) {r : Reach} {b0 : Nat} {args : Array Value} {ds : List (DataW H)} {ps : List MemPlace}
  (hv : ∀ (j : Nat) T v, Ts[j]? = some T → args.toList[j]? = some v → Value.okWide P w r b0 T v) (h : DataW.TrodAll enc P w base spare held Ts args.toList ds ps) :
  Calls P g args w fun e w' => e = .returned (.bool true) ∧ Below w.heap.size w w' := by
 let s : St := ⟨fun _ => .bool false, [], w, fun _ => False⟩
 have hI : ∀ b, ¬ OwnI s b := by
  rintro b ⟨id, o, h1, _⟩
  have h1 : ([] : List AObj)[id]? = some o := h1
  simp at h1
 have hF : ∀ b, ¬ Own s b := by
  rintro b (h1 | h1)
  ·exact h1
  ·exact hI b h1
 have hok : Ok s := ⟨fun id o h => by have h : ([] : List AObj)[id]? = some o := h; simp at h, fun i j o p b h => by have h : ([] : List AObj)[i]? = some o := h; simp at h, fun b h => h.elim, fun b h => absurd h (hI b)⟩
 obtain ⟨es, hes, hoks, hbs⟩ := open_all (s := s) rfl hF Ts ts args.toList ds ps hc hv h
 refine Calls.mono (bodyA_ok hm hT hD hcall hf (s := s.bx B) (walk es hoks) (bx_ok hok hB) (bx_RL rfl hB hes)) ?_
 rintro e w' ⟨s', v, cr, rfl, rfl, hst, _, hR, rfl⟩
 simp only [R] at hR
 subst hR
 exact ⟨rfl, hst.os, hst.tape, hst.output, hst.size, fun b hb => (hst.keep b hb (bx_noI hB)).2⟩
end
end Av
