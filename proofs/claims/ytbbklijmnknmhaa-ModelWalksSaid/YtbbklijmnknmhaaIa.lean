/-
  Differences of two maps, by the code.
  Tables: look-up and change by key. Plain Lean.
  slices.Insert at pairs: the roads of its text, by the walk.
-/
import Derived.Test.YtbbklijmnknmhaaUe
import Derived.Shelf.Spec.SlicesInsertGrow
namespace Go.Proofs.Ytbbklijmnknmhaa
open Av Bk

theorem ordS_is (a b : ByteArray) : ordS a b = if sLt a b = true then -1 else if sLt b a = true then 1 else 0 := rfl
theorem heap_u3 {b c : AObj} {T : TypeId} {t : Ty} {g : Nat} {l m : List t.El} (hl : l = m) : [b, c, .arr T t l false g] = [b, c, AObj.arr T t m false g] := by rw [hl]
set_option maxRecDepth 100000 in
set_option maxHeartbeats 4000000 in
theorem mDiff_ok : SpecOk Try.prog 19 spDiff := by
 refine spec_body (C := cxue2) mixed tbOk specsue2 (callN_ok (C := cxue2) mixed tbOk specsue2 FnsOk.nil 0) fnOk_mDiff ?_
 intro ys p r h hp
 unfold spDiff at h
 split at h
 ·rename_i a b
  cases h
  obtain ⟨hp1, hp2⟩ := hp
  by_cases ha : (mcL a).2 = 0
  ·by_cases hb : (mcL b).2 = 0
   ·have hal := mcL_len ha
    have hbl := mcL_len hb
    rw [show dfR a b = (diffL a b, 0) by rw [dfR, if_neg (by simp [ha]), if_neg (by simp [hb])]]
    have q0 : ([a, b] : List (Ty.sl pairT).El)[Int.toNat 0]? = some a := rfl
    have q1 : ([a, b] : List (Ty.sl pairT).El)[Int.toNat (0 + 1)]? = some b := rfl
    conv => whnf
    repeat' first | ((first | refine auIk ?_ | refine auIi ?_ | refine auT ?_ | refine auF ?_ | with_reducible first | refine auKt ?_ | refine auKf ?_ | refine auNt ?_ | refine auNf ?_ | refine auEt ?_ | refine auEf ?_); conv => whnf) | ((with_reducible first | refine br_dec ?_ ?_ | refine br_ndec ?_ ?_ | refine br_ne ?_ ?_ | refine br_eq ?_ ?_) <;> intro h <;> first | (exfalso; omega) | conv => whnf) | (refine br_intro ?_ ?_ <;> intro h <;> conv => whnf) | ((first | refine auNd ?_ | refine idx_nat (by omega) (fun x hx => ?_) | refine frz_auto ?_ | refine draw_plain ?_ | refine auIx (fun x hx => ?_)); conv => whnf)
    refine loop_turns 3 ?_
    conv => whnf
    repeat' first | ((first | refine auIk ?_ | refine auIi ?_ | refine auT ?_ | refine auF ?_ | with_reducible first | refine auKt ?_ | refine auKf ?_ | refine auNt ?_ | refine auNf ?_ | refine auEt ?_ | refine auEf ?_); conv => whnf) | ((with_reducible first | refine br_dec ?_ ?_ | refine br_ndec ?_ ?_ | refine br_ne ?_ ?_ | refine br_eq ?_ ?_) <;> intro h <;> first | (exfalso; omega) | conv => whnf) | (refine br_intro ?_ ?_ <;> intro h <;> conv => whnf) | ((first | refine auNd ?_ | refine idx_nat (by omega) (fun x hx => ?_) | refine frz_auto ?_ | refine draw_plain ?_ | refine auIx (fun x hx => ?_)); conv => whnf)
    refine loop_inv [] [0, 1, 10] (fun vs h => ∃ (a' b' : List pairT.El) (g : Nat) (out : List itemT.El), vs = [.lst pairT a', .lst pairT b', .own 2 g out.length] ∧ h = [.arr 38 itemT [] false 0, .arr 22 (.sl pairT) [a, b] false 0, .arr 38 itemT out false g] ∧ out ++ diffL a' b' = diffL a b ∧ out.length ≤ 8000 ∧ a'.length ≤ 4000 ∧ b'.length ≤ 4000) (fun vs _ => match vs with | [.lst _ a', .lst _ b', _] => a'.length + b'.length | _ => 0) ?_
    conv => whnf
    refine ⟨⟨a, b, 0, [], rfl, rfl, rfl, by simp, hal, hbl⟩, ?_⟩
    rintro vs h' - ⟨a', b', g, out, rfl, rfl, ho, hol, hla, hlb⟩
    have hn0 : ([] : List pairT.El).length = 0 := rfl
    have hle := diffL_len a b
    have hlo : out.length + (diffL a' b').length ≤ a.length + b.length := by rw [← ho, List.length_append] at hle; exact hle
    rcases a' with _ | ⟨x, a'⟩
    ·rcases b' with _ | ⟨y, b'⟩
     ·conv => whnf
      repeat' first | ((first | refine auIk ?_ | refine auIi ?_ | refine auT ?_ | refine auF ?_ | with_reducible first | refine auKt ?_ | refine auKf ?_ | refine auNt ?_ | refine auNf ?_ | refine auEt ?_ | refine auEf ?_); conv => whnf) | ((with_reducible first | refine br_dec ?_ ?_ | refine br_ndec ?_ ?_ | refine br_ne ?_ ?_ | refine br_eq ?_ ?_) <;> intro h <;> first | (exfalso; omega) | conv => whnf) | (refine br_intro ?_ ?_ <;> intro h <;> conv => whnf) | ((first | refine auNd ?_ | refine idx_nat (by omega) (fun x hx => ?_) | refine frz_auto ?_ | refine draw_plain ?_ | refine auIx (fun x hx => ?_)); conv => whnf)
      refine df_eq ?_
      rw [← ho]
      simp [cast_self, diffL]
     ·have hy0 : (y :: b')[Int.toNat 0]? = some y := rfl
      have hly : (y :: b').length = b'.length + 1 := rfl
      rw [diffL_nil_cons, List.length_cons] at hlo
      conv => whnf
      repeat' first | ((first | refine auIk ?_ | refine auIi ?_ | refine auT ?_ | refine auF ?_ | with_reducible first | refine auKt ?_ | refine auKf ?_ | refine auNt ?_ | refine auNf ?_ | refine auEt ?_ | refine auEf ?_); conv => whnf) | ((with_reducible first | refine br_dec ?_ ?_ | refine br_ndec ?_ ?_ | refine br_ne ?_ ?_ | refine br_eq ?_ ?_) <;> intro h <;> first | (exfalso; omega) | conv => whnf) | (refine br_intro ?_ ?_ <;> intro h <;> conv => whnf) | ((first | refine auNd ?_ | refine idx_nat (by omega) (fun x hx => ?_) | refine frz_auto ?_ | refine draw_plain ?_ | refine auIx (fun x hx => ?_)); conv => whnf)
      refine back_intro (by conv => whnf) rfl ⟨[], b', g + 1, out ++ [newI y], own_u3 ?_ (by first | rfl | exact tail_take) (by first | rfl | exact tail_take), heap_u3 ?_, ?_, ?_, by omega, by omega⟩ ?_
      ·rw [List.length_append]; rfl
      ·simp only [cast_self, List.take_length]; rfl
      ·rw [List.append_assoc]; rw [diffL_nil_cons] at ho; exact ho
      ·rw [List.length_append]; simp only [List.length_cons, List.length_nil]; omega
      ·show ([] : List pairT.El).length + (List.take (((y :: b').length : Int).toNat - Int.toNat 1) (List.drop (Int.toNat 1) (y :: b'))).length < ([] : List pairT.El).length + (y :: b').length
       rw [tail_take]
       simp only [List.length_cons]; omega
    ·have hx0 : (x :: a')[Int.toNat 0]? = some x := rfl
     have hlx : (x :: a').length = a'.length + 1 := rfl
     rcases b' with _ | ⟨y, b'⟩
     ·rw [diffL_cons_nil, List.length_cons] at hlo
      conv => whnf
      repeat' first | ((first | refine auIk ?_ | refine auIi ?_ | refine auT ?_ | refine auF ?_ | with_reducible first | refine auKt ?_ | refine auKf ?_ | refine auNt ?_ | refine auNf ?_ | refine auEt ?_ | refine auEf ?_); conv => whnf) | ((with_reducible first | refine br_dec ?_ ?_ | refine br_ndec ?_ ?_ | refine br_ne ?_ ?_ | refine br_eq ?_ ?_) <;> intro h <;> first | (exfalso; omega) | conv => whnf) | (refine br_intro ?_ ?_ <;> intro h <;> conv => whnf) | ((first | refine auNd ?_ | refine idx_nat (by omega) (fun x hx => ?_) | refine frz_auto ?_ | refine draw_plain ?_ | refine auIx (fun x hx => ?_)); conv => whnf)
      refine back_intro (by conv => whnf) rfl ⟨a', [], g + 1, out ++ [goneI x], own_u3 ?_ (by first | rfl | exact tail_take) (by first | rfl | exact tail_take), heap_u3 ?_, ?_, ?_, by omega, by omega⟩ ?_
      ·rw [List.length_append]; rfl
      ·simp only [cast_self, List.take_length]; rfl
      ·rw [List.append_assoc]; rw [diffL_cons_nil] at ho; exact ho
      ·rw [List.length_append]; simp only [List.length_cons, List.length_nil]; omega
      ·show (List.take (((x :: a').length : Int).toNat - Int.toNat 1) (List.drop (Int.toNat 1) (x :: a'))).length + ([] : List pairT.El).length < (x :: a').length + ([] : List pairT.El).length
       rw [tail_take]
       simp only [List.length_cons]; omega
     ·have hy0 : (y :: b')[Int.toNat 0]? = some y := rfl
      have hly : (y :: b').length = b'.length + 1 := rfl
      by_cases h1 : sLt x.1 y.1 = true
      ·have ho1 := ordS_is x.1 y.1
       rw [if_pos h1] at ho1
       rw [diffL_lt a' b' h1, List.length_cons] at hlo
       conv => whnf
       repeat' first | ((first | refine auIk ?_ | refine auIi ?_ | refine auT ?_ | refine auF ?_ | with_reducible first | refine auKt ?_ | refine auKf ?_ | refine auNt ?_ | refine auNf ?_ | refine auEt ?_ | refine auEf ?_); conv => whnf) | ((with_reducible first | refine br_dec ?_ ?_ | refine br_ndec ?_ ?_ | refine br_ne ?_ ?_ | refine br_eq ?_ ?_) <;> intro h <;> first | (exfalso; omega) | conv => whnf) | (refine br_intro ?_ ?_ <;> intro h <;> conv => whnf) | ((first | refine auNd ?_ | refine idx_nat (by omega) (fun x hx => ?_) | refine frz_auto ?_ | refine draw_plain ?_ | refine auIx (fun x hx => ?_)); conv => whnf)
       refine back_intro (by conv => whnf) rfl ⟨a', y :: b', g + 1, out ++ [goneI x], own_u3 ?_ (by first | rfl | exact tail_take) (by first | rfl | exact tail_take), heap_u3 ?_, ?_, ?_, by omega, by omega⟩ ?_
       ·rw [List.length_append]; rfl
       ·simp only [cast_self, List.take_length]; rfl
       ·rw [List.append_assoc]; rw [diffL_lt a' b' h1] at ho; exact ho
       ·rw [List.length_append]; simp only [List.length_cons, List.length_nil]; omega
       ·show (List.take (((x :: a').length : Int).toNat - Int.toNat 1) (List.drop (Int.toNat 1) (x :: a'))).length + (y :: b').length < (x :: a').length + (y :: b').length
        rw [tail_take]
        simp only [List.length_cons]; omega
      ·have h1 : sLt x.1 y.1 = false := by simpa using h1
       by_cases h2 : sLt y.1 x.1 = true
       ·have ho1 := ordS_is x.1 y.1
        rw [if_neg (by rw [h1]; decide), if_pos h2] at ho1
        rw [diffL_gt a' b' h2, List.length_cons] at hlo
        conv => whnf
        repeat' first | ((first | refine auIk ?_ | refine auIi ?_ | refine auT ?_ | refine auF ?_ | with_reducible first | refine auKt ?_ | refine auKf ?_ | refine auNt ?_ | refine auNf ?_ | refine auEt ?_ | refine auEf ?_); conv => whnf) | ((with_reducible first | refine br_dec ?_ ?_ | refine br_ndec ?_ ?_ | refine br_ne ?_ ?_ | refine br_eq ?_ ?_) <;> intro h <;> first | (exfalso; omega) | conv => whnf) | (refine br_intro ?_ ?_ <;> intro h <;> conv => whnf) | ((first | refine auNd ?_ | refine idx_nat (by omega) (fun x hx => ?_) | refine frz_auto ?_ | refine draw_plain ?_ | refine auIx (fun x hx => ?_)); conv => whnf)
        refine back_intro (by conv => whnf) rfl ⟨x :: a', b', g + 1, out ++ [newI y], own_u3 ?_ (by first | rfl | exact tail_take) (by first | rfl | exact tail_take), heap_u3 ?_, ?_, ?_, by omega, by omega⟩ ?_
        ·rw [List.length_append]; rfl
        ·simp only [cast_self, List.take_length]; rfl
        ·rw [List.append_assoc]; rw [diffL_gt a' b' h2] at ho; exact ho
        ·rw [List.length_append]; simp only [List.length_cons, List.length_nil]; omega
        ·show (x :: a').length + (List.take (((y :: b').length : Int).toNat - Int.toNat 1) (List.drop (Int.toNat 1) (y :: b'))).length < (x :: a').length + (y :: b').length
         rw [tail_take]
         simp only [List.length_cons]; omega
       ·have h2 : sLt y.1 x.1 = false := by simpa using h2
        have ho1 := ordS_is x.1 y.1
        rw [if_neg (by rw [h1]; decide), if_neg (by rw [h2]; decide)] at ho1
        by_cases h3 : sEq x.2.1 y.2.1 = true
        ·have h4 : (!sEq x.2.1 y.2.1) = false := by rw [h3]; rfl
         conv => whnf
         repeat' first | ((first | refine auIk ?_ | refine auIi ?_ | refine auT ?_ | refine auF ?_ | with_reducible first | refine auKt ?_ | refine auKf ?_ | refine auNt ?_ | refine auNf ?_ | refine auEt ?_ | refine auEf ?_); conv => whnf) | ((with_reducible first | refine br_dec ?_ ?_ | refine br_ndec ?_ ?_ | refine br_ne ?_ ?_ | refine br_eq ?_ ?_) <;> intro h <;> first | (exfalso; omega) | conv => whnf) | (refine br_intro ?_ ?_ <;> intro h <;> conv => whnf) | ((first | refine auNd ?_ | refine idx_nat (by omega) (fun x hx => ?_) | refine frz_auto ?_ | refine draw_plain ?_ | refine auIx (fun x hx => ?_)); conv => whnf)
         refine back_intro (by conv => whnf) rfl ⟨a', b', g, out, own_u3 rfl tail_take tail_take, rfl, by rw [diffL_eq a' b' h1 h2 h3] at ho; exact ho, hol, by omega, by omega⟩ ?_
         show (List.take (((x :: a').length : Int).toNat - Int.toNat 1) (List.drop (Int.toNat 1) (x :: a'))).length + (List.take (((y :: b').length : Int).toNat - Int.toNat 1) (List.drop (Int.toNat 1) (y :: b'))).length < (x :: a').length + (y :: b').length
         rw [tail_take, tail_take]
         simp only [List.length_cons]; omega
        ·have h3 : sEq x.2.1 y.2.1 = false := by simpa using h3
         have h4 : (!sEq x.2.1 y.2.1) = true := by rw [h3]; rfl
         rw [diffL_ne a' b' h1 h2 h3, List.length_cons] at hlo
         conv => whnf
         repeat' first | ((first | refine auIk ?_ | refine auIi ?_ | refine auT ?_ | refine auF ?_ | with_reducible first | refine auKt ?_ | refine auKf ?_ | refine auNt ?_ | refine auNf ?_ | refine auEt ?_ | refine auEf ?_); conv => whnf) | ((with_reducible first | refine br_dec ?_ ?_ | refine br_ndec ?_ ?_ | refine br_ne ?_ ?_ | refine br_eq ?_ ?_) <;> intro h <;> first | (exfalso; omega) | conv => whnf) | (refine br_intro ?_ ?_ <;> intro h <;> conv => whnf) | ((first | refine auNd ?_ | refine idx_nat (by omega) (fun x hx => ?_) | refine frz_auto ?_ | refine draw_plain ?_ | refine auIx (fun x hx => ?_)); conv => whnf)
         refine back_intro (by conv => whnf) rfl ⟨a', b', g + 1, out ++ [otherI x y], own_u3 ?_ (by first | rfl | exact tail_take) (by first | rfl | exact tail_take), heap_u3 ?_, ?_, ?_, by omega, by omega⟩ ?_
         ·rw [List.length_append]; rfl
         ·simp only [cast_self, List.take_length]; show _ = out ++ [mkI 3 x.1 x.2.1 y.2.1]; rw [sLt_ext h1 h2]; rfl
         ·rw [List.append_assoc]; rw [diffL_ne a' b' h1 h2 h3] at ho; exact ho
         ·rw [List.length_append]; simp only [List.length_cons, List.length_nil]; omega
         ·show (List.take (((x :: a').length : Int).toNat - Int.toNat 1) (List.drop (Int.toNat 1) (x :: a'))).length + (List.take (((y :: b').length : Int).toNat - Int.toNat 1) (List.drop (Int.toNat 1) (y :: b'))).length < (x :: a').length + (y :: b').length
          rw [tail_take, tail_take]
          simp only [List.length_cons]; omega
   ·rw [show dfR a b = ([], (mcL b).2) by rw [dfR, if_neg (by simp [ha]), if_pos hb]]
    have q0 : ([a, b] : List (Ty.sl pairT).El)[Int.toNat 0]? = some a := rfl
    have q1 : ([a, b] : List (Ty.sl pairT).El)[Int.toNat (0 + 1)]? = some b := rfl
    conv => whnf
    repeat' first | ((first | refine auIk ?_ | refine auIi ?_ | refine auT ?_ | refine auF ?_ | with_reducible first | refine auKt ?_ | refine auKf ?_ | refine auNt ?_ | refine auNf ?_ | refine auEt ?_ | refine auEf ?_); conv => whnf) | ((with_reducible first | refine br_dec ?_ ?_ | refine br_ndec ?_ ?_ | refine br_ne ?_ ?_ | refine br_eq ?_ ?_) <;> intro h <;> first | (exfalso; omega) | conv => whnf) | (refine br_intro ?_ ?_ <;> intro h <;> conv => whnf) | ((first | refine auNd ?_ | refine idx_nat (by omega) (fun x hx => ?_) | refine frz_auto ?_ | refine draw_plain ?_ | refine auIx (fun x hx => ?_)); conv => whnf)
    refine loop_turns 3 ?_
    conv => whnf
    repeat' first | ((first | refine auIk ?_ | refine auIi ?_ | refine auT ?_ | refine auF ?_ | with_reducible first | refine auKt ?_ | refine auKf ?_ | refine auNt ?_ | refine auNf ?_ | refine auEt ?_ | refine auEf ?_); conv => whnf) | ((with_reducible first | refine br_dec ?_ ?_ | refine br_ndec ?_ ?_ | refine br_ne ?_ ?_ | refine br_eq ?_ ?_) <;> intro h <;> first | (exfalso; omega) | conv => whnf) | (refine br_intro ?_ ?_ <;> intro h <;> conv => whnf) | ((first | refine auNd ?_ | refine idx_nat (by omega) (fun x hx => ?_) | refine frz_auto ?_ | refine draw_plain ?_ | refine auIx (fun x hx => ?_)); conv => whnf)
    rfl
  ·rw [show dfR a b = ([], (mcL a).2) by rw [dfR, if_pos ha]]
   have q0 : ([a, b] : List (Ty.sl pairT).El)[Int.toNat 0]? = some a := rfl
   conv => whnf
   repeat' first | ((first | refine auIk ?_ | refine auIi ?_ | refine auT ?_ | refine auF ?_ | with_reducible first | refine auKt ?_ | refine auKf ?_ | refine auNt ?_ | refine auNf ?_ | refine auEt ?_ | refine auEf ?_); conv => whnf) | ((with_reducible first | refine br_dec ?_ ?_ | refine br_ndec ?_ ?_ | refine br_ne ?_ ?_ | refine br_eq ?_ ?_) <;> intro h <;> first | (exfalso; omega) | conv => whnf) | (refine br_intro ?_ ?_ <;> intro h <;> conv => whnf) | ((first | refine auNd ?_ | refine idx_nat (by omega) (fun x hx => ?_) | refine frz_auto ?_ | refine draw_plain ?_ | refine auIx (fun x hx => ?_)); conv => whnf)
   refine loop_turns 3 ?_
   conv => whnf
   repeat' first | ((first | refine auIk ?_ | refine auIi ?_ | refine auT ?_ | refine auF ?_ | with_reducible first | refine auKt ?_ | refine auKf ?_ | refine auNt ?_ | refine auNf ?_ | refine auEt ?_ | refine auEf ?_); conv => whnf) | ((with_reducible first | refine br_dec ?_ ?_ | refine br_ndec ?_ ?_ | refine br_ne ?_ ?_ | refine br_eq ?_ ?_) <;> intro h <;> first | (exfalso; omega) | conv => whnf) | (refine br_intro ?_ ?_ <;> intro h <;> conv => whnf) | ((first | refine auNd ?_ | refine idx_nat (by omega) (fun x hx => ?_) | refine frz_auto ?_ | refine draw_plain ?_ | refine auIx (fun x hx => ?_)); conv => whnf)
   rfl
 ·cases h
end Go.Proofs.Ytbbklijmnknmhaa
namespace Go.Proofs.Ytbbklijmnknmhaa
open Av Bk

def lkV (m : List pairT.El) (k : ByteArray) : Option ByteArray := (m.find? (fun p => sEq p.1 k)).map (fun p => p.2.1)
theorem lkV_cons (p : pairT.El) (m : List pairT.El) (k : ByteArray) : lkV (p :: m) k = if p.1 = k then some p.2.1 else lkV m k := by
 unfold lkV
 by_cases h : p.1 = k
 ·rw [List.find?_cons_of_pos (by rw [sEq_iff]; exact h), if_pos h]; rfl
 ·rw [List.find?_cons_of_neg (by rw [sEq_iff]; exact h), if_neg h]
theorem lkV_none {m : List pairT.El} {k : ByteArray} : lkV m k = none ↔ ∀ p ∈ m, p.1 ≠ k := by
 unfold lkV
 rw [Option.map_eq_none_iff, List.find?_eq_none]
 simp only [sEq_iff, ne_eq]
theorem lkV_append (a b : List pairT.El) (k : ByteArray) : lkV (a ++ b) k = (lkV a k).or (lkV b k) := by
 unfold lkV
 rw [List.find?_append]
 cases a.find? (fun p => sEq p.1 k) <;> rfl
theorem lkV_in {m : List pairT.El} {k v : ByteArray} (h : lkV m k = some v) : mkP k v ∈ m := by
 induction m with
 | nil => cases h
 | cons p m ih =>
  rw [lkV_cons] at h
  split at h
  ·rename_i e
   cases h
   obtain ⟨a, b, u⟩ := p
   cases e
   exact List.mem_cons_self
  ·exact List.mem_cons_of_mem _ (ih h)
theorem lbP_le (k : ByteArray) : ∀ l, lbP k l ≤ l.length
 | [] => Nat.le_refl _
 | y :: l => by
  unfold lbP
  split
  ·have := lbP_le k l; simp; omega
  ·exact Nat.zero_le _
theorem tab_cut {m : List pairT.El} (ha : ascP m) (k : ByteArray) : ∃ a b, m = a ++ b ∧ a.length = lbP k m ∧ (∀ p ∈ a, sLt p.1 k = true) ∧ (∀ p ∈ b, sLt p.1 k = false) := by
 induction m with
 | nil => exact ⟨[], [], rfl, rfl, by simp, by simp⟩
 | cons p m ih =>
  obtain ⟨h1, h2⟩ := List.pairwise_cons.1 ha
  unfold lbP
  by_cases h : sLt p.1 k = true
  ·obtain ⟨a, b, rfl, h3, h4, h5⟩ := ih h2
   refine ⟨p :: a, b, rfl, by rw [if_pos h, List.length_cons, h3], ?_, h5⟩
   intro q hq
   rcases List.mem_cons.1 hq with rfl | hq
   ·exact h
   ·exact h4 q hq
  ·refine ⟨[], p :: m, rfl, by rw [if_neg h]; rfl, by simp, ?_⟩
   intro q hq
   rcases List.mem_cons.1 hq with rfl | hq
   ·simpa using h
   ·cases h6 : sLt q.1 k with
    | false => rfl
    | true => exact absurd (sLt_trans (h1 q hq) h6) h
theorem lbP_lt {m : List pairT.El} (ha : ascP m) {k : ByteArray} {j : Nat} {p : pairT.El} (h : j < lbP k m) (hp : m[j]? = some p) : sLt p.1 k = true := by
 obtain ⟨a, b, rfl, h3, h4, h5⟩ := tab_cut ha k
 rw [← h3] at h
 rw [List.getElem?_append_left h] at hp
 exact h4 p (List.mem_of_getElem? hp)
theorem lbP_ge {m : List pairT.El} (ha : ascP m) {k : ByteArray} {j : Nat} {p : pairT.El} (h : lbP k m ≤ j) (hp : m[j]? = some p) : sLt p.1 k = false := by
 obtain ⟨a, b, rfl, h3, h4, h5⟩ := tab_cut ha k
 rw [← h3] at h
 rw [List.getElem?_append_right h] at hp
 exact h5 p (List.mem_of_getElem? hp)
theorem tab_some {m : List pairT.El} (ha : ascP m) {k v : ByteArray} (h : lkV m k = some v) : ∃ a b, m = a ++ mkP k v :: b ∧ a.length = lbP k m ∧ (∀ p ∈ a, sLt p.1 k = true) ∧ (∀ p ∈ b, sLt k p.1 = true) := by
 obtain ⟨a, b, rfl, h3, h4, h5⟩ := tab_cut ha k
 have h6 : lkV a k = none := lkV_none.2 (fun p hp => sLt_ne (h4 p hp))
 rw [lkV_append, h6, Option.none_or] at h
 have hb := (List.pairwise_append.1 ha).2.1
 rcases b with _ | ⟨q, b⟩
 ·cases h
 ·obtain ⟨h7, h8⟩ := List.pairwise_cons.1 hb
  have hq : q = mkP k v := by
   rcases List.mem_cons.1 (lkV_in h) with e | e
   ·exact e.symm
   ·have h9 := h7 _ e
    rw [show (mkP k v).1 = k from rfl] at h9
    rw [h5 q List.mem_cons_self] at h9
    cases h9
  subst hq
  exact ⟨a, b, rfl, h3, h4, h7⟩
theorem tab_none {m : List pairT.El} (ha : ascP m) {k : ByteArray} (h : lkV m k = none) : ∃ a b, m = a ++ b ∧ a.length = lbP k m ∧ (∀ p ∈ a, sLt p.1 k = true) ∧ (∀ p ∈ b, sLt k p.1 = true) := by
 obtain ⟨a, b, rfl, h3, h4, h5⟩ := tab_cut ha k
 refine ⟨a, b, rfl, h3, h4, fun p hp => sLt_of (h5 p hp) (lkV_none.1 h p (List.mem_append_right _ hp))⟩
theorem lkV_lb {m : List pairT.El} (ha : ascP m) (k : ByteArray) : lkV m k = match m[lbP k m]? with | some p => if sEq p.1 k = true then some p.2.1 else none | none => none := by
 cases h : lkV m k with
 | some v =>
  obtain ⟨a, b, h1, h2, _⟩ := tab_some ha h
  have : m[lbP k m]? = some (mkP k v) := by rw [← h2, h1]; simp
  rw [this]
  simp only [sEq_iff, if_true]
 | none =>
  cases hp : m[lbP k m]? with
  | none => rfl
  | some p =>
   have := lkV_none.1 h p (List.mem_of_getElem? hp)
   simp only
   rw [if_neg (by rw [sEq_iff]; exact this)]
theorem lkV_at {m : List pairT.El} (ha : ascP m) {k v : ByteArray} (h : lkV m k = some v) : m[lbP k m]? = some (mkP k v) := by
 obtain ⟨a, b, h1, h2, _⟩ := tab_some ha h
 rw [← h2, h1]; simp
def chT (m : List pairT.El) (k : ByteArray) (o : Option ByteArray) : List pairT.El := match o with
 | none => m.filter (fun p => !sEq p.1 k)
 | some v => intoP (m.filter (fun p => !sEq p.1 k)) (mkP k v)
theorem filt_ne {m : List pairT.El} {k : ByteArray} : ∀ q ∈ m.filter (fun p => !sEq p.1 k), q.1 ≠ k := by
 intro q hq
 have := (List.mem_filter.1 hq).2
 simp only [Bool.not_eq_true'] at this
 exact sEq_no.1 this
theorem filt_id {m : List pairT.El} {k : ByteArray} (h : ∀ p ∈ m, p.1 ≠ k) : m.filter (fun p => !sEq p.1 k) = m := by
 rw [List.filter_eq_self]
 intro p hp
 rw [sEq_no.2 (h p hp)]
 rfl
theorem chT_asc {m : List pairT.El} (ha : ascP m) (k : ByteArray) (o : Option ByteArray) : ascP (chT m k o) := by
 have hf : ascP (m.filter (fun p => !sEq p.1 k)) := List.Pairwise.filter _ ha
 cases o with
 | none => exact hf
 | some v => exact into_asc hf filt_ne
theorem chT_mem {m : List pairT.El} {k : ByteArray} {o : Option ByteArray} {p : pairT.El} : p ∈ chT m k o ↔ if p.1 = k then o = some p.2.1 else p ∈ m := by
 have hf : p ∈ m.filter (fun p => !sEq p.1 k) ↔ p ∈ m ∧ p.1 ≠ k := by
  rw [List.mem_filter]
  simp only [Bool.not_eq_true', sEq_no]
 cases o with
 | none =>
  show p ∈ m.filter (fun p => !sEq p.1 k) ↔ _
  rw [hf]
  by_cases h : p.1 = k
  ·simp [h]
  ·simp [h]
 | some v =>
  show p ∈ intoP _ _ ↔ _
  rw [mem_into, hf]
  obtain ⟨a, b, u⟩ := p
  by_cases h : a = k
  ·subst h
   simp only [if_true, Option.some.injEq, ne_eq, not_true_eq_false, and_false, or_false]
   constructor
   ·intro e; cases e; rfl
   ·rintro rfl; rfl
  ·simp only [h, if_false, ne_eq, not_false_eq_true, and_true]
   constructor
   ·rintro (e | e)
    ·cases e; exact absurd rfl h
    ·exact e
   ·exact .inr
theorem into_mid {a b : List pairT.El} {p : pairT.El} (h1 : ∀ q ∈ a, sLt q.1 p.1 = true) (h2 : ∀ q ∈ b, sLt p.1 q.1 = true) : intoP (a ++ b) p = a ++ p :: b := by
 induction a with
 | nil =>
  cases b with
  | nil => rfl
  | cons q b =>
   show intoP (q :: b) p = p :: q :: b
   unfold intoP
   rw [if_neg (by rw [sLt_asym (h2 q List.mem_cons_self)]; decide)]
 | cons q a ih =>
  show intoP (q :: (a ++ b)) p = q :: (a ++ p :: b)
  unfold intoP
  rw [if_pos (h1 q List.mem_cons_self), ih (fun r hr => h1 r (List.mem_cons_of_mem _ hr))]
theorem fresh_cut {m : List pairT.El} (ha : ascP m) {k : ByteArray} (v : ByteArray) (h : lkV m k = none) : m.take (lbP k m) ++ ([mkP k v] ++ m.drop (lbP k m)) = chT m k (some v) := by
 have hf := filt_id (lkV_none.1 h)
 obtain ⟨a, b, h1, h2, h3, h4⟩ := tab_none ha h
 show _ = intoP (m.filter (fun p => !sEq p.1 k)) (mkP k v)
 rw [hf, ← h2]
 conv => lhs; rw [h1]
 conv => rhs; rw [h1]
 rw [into_mid h3 h4]
 simp
theorem cut_mid {m : List pairT.El} {k v : ByteArray} {a b : List pairT.El} (h1 : m = a ++ mkP k v :: b) (h3 : ∀ p ∈ a, sLt p.1 k = true) (h4 : ∀ p ∈ b, sLt k p.1 = true) : m.filter (fun p => !sEq p.1 k) = a ++ b := by
 rw [h1, List.filter_append, List.filter_cons_of_neg (by simp [sEq_iff]), filt_id (fun p hp => sLt_ne (h3 p hp)), filt_id (fun p hp => (sLt_ne (h4 p hp)).symm)]
theorem gone_cut {m : List pairT.El} (ha : ascP m) {k v : ByteArray} (h : lkV m k = some v) : m.take (lbP k m) ++ m.drop (lbP k m + 1) = chT m k none := by
 obtain ⟨a, b, h1, h2, h3, h4⟩ := tab_some ha h
 show _ = m.filter (fun p => !sEq p.1 k)
 rw [cut_mid h1 h3 h4, ← h2, h1]
 rw [List.take_left, List.drop_append]
 simp
theorem other_cut {m : List pairT.El} (ha : ascP m) {k v : ByteArray} (w : ByteArray) (h : lkV m k = some v) : m.set (lbP k m) (mkP k w) = chT m k (some w) := by
 obtain ⟨a, b, h1, h2, h3, h4⟩ := tab_some ha h
 show _ = intoP (m.filter (fun p => !sEq p.1 k)) (mkP k w)
 rw [cut_mid h1 h3 h4, ← h2, h1, into_mid h3 h4]
 rw [List.set_append_right _ _ (Nat.le_refl _)]
 simp
theorem chT_len {m : List pairT.El} (k : ByteArray) (o : Option ByteArray) : (chT m k o).length ≤ m.length + 1 := by
 have hf : (m.filter (fun p => !sEq p.1 k)).length ≤ m.length := List.length_filter_le _ _
 cases o with
 | none => exact Nat.le_succ_of_le hf
 | some v =>
  show (intoP _ _).length ≤ _
  rw [into_cut, List.length_append, List.length_cons, List.length_take, List.length_drop]
  omega
/-! ### Items -/
theorem mcL_zero {l : List pairT.El} (h : (mcL l).2 = 0) : l.length ≤ 4000 ∧ (∀ x ∈ l, prE x = 0) ∧ ascP l := by
 refine ⟨mcL_len h, ?_⟩
 unfold mcL at h
 split at h
 ·exact absurd (show (5 : Int) = 0 from h) (by decide)
 ·exact ⟨(ckGo_zero h).1, (ckGo_zero h).2.1⟩
end Go.Proofs.Ytbbklijmnknmhaa
set_option linter.unusedVariables false
set_option linter.unusedSimpArgs false
namespace Go.Proofs.Ytbbklijmnknmhaa
open Go.Shelf Go.RowKit Go.Lib Go.Proofs

section
variable {P : Program}
theorem run_copy_k (w : World) (dT sT ty elem : TypeId) (k : Nat) (b o dLen dCap : Nat) (a : Addr) (sLen sCap q : Nat) (cs : List Value)
  (hu : P.underlying dT = some (.slice elem)) (hs : (P.info? elem).map (·.size) = some k) (hq : Nat.min sLen dLen = q) (hn : cs.length = q * k)
  (hsrc : ∀ j v, cs[j]? = some v → w.cell? (a.add j) = some v) (hc : ∀ j, j < cs.length → (w.cell? ⟨b, o + j, none⟩).isSome = true) (hf : ∀ j, j < cs.length → w.frozen? ⟨b, o + j, none⟩ = false) (h1 : ∀ v ∈ cs, v.oneCell' = true) :
  (Builtin.copy_ #[dT, sT] ty #[.slice (some ⟨b, o, none⟩) dLen dCap, .slice (some a) sLen sCap]).run P w = .ok (goInt q) (w.setCells b o cs) := by
 have hl := run_loadCells_list (P := P) w a cs hsrc
 have hst := run_storeCells_cells (P := P) b o cs 0 w (by simpa using hc) (by simpa using hf) h1
 cases hi : P.info? elem with
 | none => simp [hi] at hs
 | some i =>
  have hi2 : i.size = k := by simpa [hi] using hs
  simp [Builtin.copy_, run_underlying hu, Builtin.lenOf, Builtin.firstCells, sizeOf, typeInfo, hi, hi2, hq, ← hn, hl, hst]
end
theorem prInfo : ∃ ie z, Try.prog.info? 50 = some ie ∧ ie.size = 2 ∧ ie.bytes = 32 ∧ ie.zero = some z ∧ z.cells.size = 2 := by
 obtain ⟨ie, z, h1, h2, h3, h4, h5⟩ := (Av.tb_und tbOk (T := 50) (ti := _) rfl).info
 refine ⟨ie, z, h1, h2, h3, h4, ?_⟩
 have := Av.zero_size tbOk (e := 50) (te := _) rfl (t := pairT) rfl h1 h4
 exact this
theorem prSize : (Try.prog.info? 50).map (·.size) = some 2 := by
 obtain ⟨ie, z, h1, h2, _⟩ := prInfo
 rw [h1]
 simp [h2]

set_option maxHeartbeats 4000000 in
set_option maxRecDepth 100000 in
theorem ins_shift (b off n c i vb voff m vc : Nat) (cs vs : List Value) (w : World) (hi : i < n) (hm : 0 < m) (hroom : n + m ≤ c) (hc63 : c ≤ 9223372036854775807) (hvb : vb ≠ b)
  (hcl : cs.length = n * 2) (hvl : vs.length = m * 2)
  (hcs : ∀ j v, cs[j]? = some v → w.cell? ⟨b, off + j, none⟩ = some v) (hsp : ∀ j, j < (n + m) * 2 → (w.cell? ⟨b, off + j, none⟩).isSome = true) (hfz : ∀ j, j < (n + m) * 2 → w.frozen? ⟨b, off + j, none⟩ = false)
  (hvs : ∀ j v, vs[j]? = some v → w.cell? ⟨vb, voff + j, none⟩ = some v) (h1c : ∀ v ∈ cs, v.oneCell' = true) (h1v : ∀ v ∈ vs, v.oneCell' = true)
  (tA tB : TypeId) (kA kB : Nat) (hsa : w.shape? vb = some (tA, kA)) (hsb : w.shape? b = some (tB, kB)) (hkB : kB ≠ 0) (hfa : w.frozen? ⟨vb, voff, none⟩ = false) (hfe : w.frozen? ⟨vb, kA, none⟩ = false) :
  Calls Try.prog 54 #[.slice (some ⟨b, off, none⟩) n c, .int .i64 i, .slice (some ⟨vb, voff, none⟩) m vc] w fun e w' =>
   e = .returned (.slice (some ⟨b, off, none⟩) (n + m) c) ∧ w' = (w.drew.setCells b (off + (i + m) * 2) (cs.drop (i * 2))).setCells b (off + i * 2) vs := by
 have hz1 : ¬ ((m : Int) = 0) := by omega
 have hz2 : ¬ ((i : Int) = (n : Int)) := by omega
 have hsz := prSize
 have hov : ∀ lb cb, (callFunc 88 #[.slice (some ⟨vb, voff, none⟩) m vc, .slice (some ⟨b, off + (i + m) * 2, none⟩) lb cb]).run Try.prog w = .ok (.value (.bool false)) w := fun lb cb => by
  rw [run_callFunc_extern Try.func88 (by kernel_rfl) (by kernel_rfl) (by kernel_rfl) (e := Extern.SlicesOverlaps.overlaps #[22, 22] #[4]) (by kernel_rfl),
   Lib.run_overlaps_apart w 22 4 50 Try.underlying22 2 Try.sizeOf50 ⟨vb, voff, none⟩ ⟨b, off + (i + m) * 2, none⟩ m vc lb cb hvb tA tB kA kB hsa hsb hkB hfa hfe]
  rfl
 have hdl : (cs.drop (i * 2)).length = (n - i) * 2 := by rw [List.length_drop, hcl]; omega
 have hw1 : IntKind.i64.wrap ((i : Int) + (m : Int)) = (i : Int) + (m : Int) := by rw [IntKind.wrap_i64]; omega
 have hb1 : (0 : Int) ≤ (i : Int) + (m : Int) := by omega
 have hin : i ≤ n := by omega
 have htn : ((i : Int) + (m : Int)).toNat = i + m := by omega
 have hb2 : ¬ (c = i + m) := by omega
 have hb3 : (i : Int) ≤ (n : Int) + (m : Int) := by omega
 have hb4 : ¬ (c = i) := by omega
 have hcp1 : ∀ ty dc sc, (Builtin.copy_ #[22, 22] ty #[.slice (some ⟨b, off + (i + m) * 2, none⟩) (n + m - (i + m)) dc, .slice (some ⟨b, off + i * 2, none⟩) (n + m - i) sc]).run Try.prog w.drew = .ok (goInt ((n - i : Nat) : Int)) (w.drew.setCells b (off + (i + m) * 2) (cs.drop (i * 2))) := fun ty dc sc =>
  run_copy_k w.drew _ _ ty 50 2 b (off + (i + m) * 2) (n + m - (i + m)) dc ⟨b, off + i * 2, none⟩ (n + m - i) sc (n - i) (cs.drop (i * 2)) Try.underlying22 hsz (by simp only [Nat.min_def]; split <;> omega) hdl
   (fun j v hj => by rw [Addr.add_lit, Nat.add_assoc]; exact hcs (i * 2 + j) v (by rwa [List.getElem?_drop] at hj))
   (fun j hj => by rw [Nat.add_assoc]; exact hsp _ (by omega)) (fun j hj => by rw [Nat.add_assoc]; exact hfz _ (by omega)) (fun v hv => h1c v (List.mem_of_mem_drop hv))
 obtain ⟨W1, hW1⟩ : ∃ W1, W1 = w.drew.setCells b (off + (i + m) * 2) (cs.drop (i * 2)) := ⟨_, rfl⟩
 have hsp1 : ∀ k, k < (n + m) * 2 → (W1.cell? ⟨b, off + k, none⟩).isSome = true := fun k hk => by
  rw [hW1]
  exact isSome_setCells b _ _ _ (fun j hj => by rw [Nat.add_assoc]; exact hsp _ (by omega)) _ (hsp k hk)
 have hcp2 : ∀ (W : World), (∀ x, W.cell? x = W1.cell? x) → (∀ x, W.frozen? x = W1.frozen? x) → ∀ ty dc, (Builtin.copy_ #[22, 22] ty #[.slice (some ⟨b, off + i * 2, none⟩) (n + m - i) dc, .slice (some ⟨vb, voff, none⟩) m vc]).run Try.prog W = .ok (goInt m) (W.setCells b (off + i * 2) vs) := fun W hWc hWf ty dc =>
  run_copy_k W _ _ ty 50 2 b (off + i * 2) (n + m - i) dc ⟨vb, voff, none⟩ m vc m vs Try.underlying22 hsz (by simp only [Nat.min_def]; split <;> omega) hvl
   (fun j v hj => by
    rw [Addr.add_lit, hWc, hW1, World.cell?_setCells_out b _ _ _ _ (fun h _ => absurd h hvb)]
    exact hvs j v hj)
   (fun j hj => by rw [hWc, Nat.add_assoc]; exact hsp1 _ (by omega)) (fun j hj => by rw [hWf, hW1, World.frozen?_setCells, Nat.add_assoc]; exact hfz _ (by omega)) h1v
 rw [← hW1] at hcp1
 have mixed := mixed
 go_enter Try.func54, Try.ntmps54
 go_wp2_with (simp only [hov])
 go_region_law_o (refine step_copy_runI rfl _ _ 22 22 rfl _ _ (by simp [Act.eval, Act.put]) (by simp [Act.eval, Act.put]) (hcp1 _ _ _) ?_)
 go_wp2_with (at_builtin; refine wpList_copy_runI _ rfl _ _ 22 22 rfl _ _ rfl rfl (hcp2 _ (fun _ => rfl) (fun _ => rfl) _ _) ?_)
 go_ret
 first | exact ⟨rfl, rfl⟩ | exact ⟨rfl, by rw [hW1]⟩

set_option maxHeartbeats 4000000 in
set_option maxRecDepth 100000 in
theorem ins_end (base : Option Addr) (n c vb voff m vc : Nat) (w w1 : World) (v1 : Value) (hm : 0 < m) (hnc : n ≤ c) (hc63 : c ≤ 9223372036854775807) (hnil : base = none → n = 0 ∧ c = 0)
  (hrun : ∀ ty, (Builtin.append_ #[22, 22] ty #[.slice base n c, .slice (some ⟨vb, voff, none⟩) m vc]).run Try.prog w = .ok v1 w1) :
  Calls Try.prog 54 #[.slice base n c, .int .i64 n, .slice (some ⟨vb, voff, none⟩) m vc] w fun e w' => e = .returned v1 ∧ w' = w1 := by
 have hz1 : ¬ ((m : Int) = 0) := by omega
 have mixed := mixed
 go_enter Try.func54, Try.ntmps54
 cases base with
 | none =>
  obtain ⟨rfl, rfl⟩ := hnil rfl
  go_wp2_with (at_builtin; refine Lib.wpList_append_run _ rfl _ _ _ _ rfl _ _ rfl rfl _ _ (hrun _) ?_)
  go_ret
  exact ⟨rfl, rfl⟩
 | some a =>
  obtain ⟨ab, ao, asp⟩ := a
  go_wp2_with (at_builtin; refine Lib.wpList_append_run _ rfl _ _ _ _ rfl _ _ rfl rfl _ _ (hrun _) ?_)
  all_goals (go_ret; exact ⟨rfl, rfl⟩)

set_option maxHeartbeats 4000000 in
set_option maxRecDepth 100000 in
theorem ins_grow (ie : TypeInfo) (z : Value) (hie : Try.prog.info? 50 = some ie) (hzs : ie.size = 2) (hzb : ie.bytes = 32) (hz0 : ie.zero = some z) (hzc : z.cells.size = 2)
  (b off n c i vb voff m vc : Nat) (cs vs : List Value) (w : World) (hi : i < n) (hm : 0 < m) (hnc : n ≤ c) (hroom : c < n + m) (hbig : (n + m) * 32 ≤ 140737488355328)
  (hcl : cs.length = n * 2) (hvl : vs.length = m * 2)
  (hcs : ∀ j v, cs[j]? = some v → w.cell? ⟨b, off + j, none⟩ = some v)
  (hvs : ∀ j v, vs[j]? = some v → w.cell? ⟨vb, voff + j, none⟩ = some v) (h1c : ∀ v ∈ cs, v.oneCell' = true) (h1v : ∀ v ∈ vs, v.oneCell' = true) :
  Calls Try.prog 54 #[.slice (some ⟨b, off, none⟩) n c, .int .i64 i, .slice (some ⟨vb, voff, none⟩) m vc] w fun e w' =>
   e = .returned (.slice (some ⟨w.heap.size, 0, none⟩) (n + m) (grownCap w (n + m) c 50)) ∧
   w' = (((w.alloc (.cells ((cs.take (i * 2)).toArray ++ Builtin.zeroCells z.cells (n + m - i) ++ Builtin.zeroCells z.cells (grownCap w (n + m) c 50 - (n + m))) 50)).drew.setCells w.heap.size (i * 2) vs).drew).setCells w.heap.size ((i + m) * 2) (cs.drop (i * 2)) := by
 have hz1 : ¬ ((m : Int) = 0) := by omega
 have hz2 : ¬ ((i : Int) = (n : Int)) := by omega
 have hz3 : (c : Int) < (n : Int) + (m : Int) := by omega
 have hsz := prSize
 have hbw : b < w.heap.size := block_lt_of_cell (hcs 0 _ (List.getElem?_eq_getElem (by omega)))
 have hvw : vb < w.heap.size := block_lt_of_cell (hvs 0 _ (List.getElem?_eq_getElem (by omega)))
 have hkk : (n : Int) + (m : Int) - (i : Int) = ((n + m - i : Nat) : Int) := by omega
 have hik : i + (n + m - i) = n + m := by omega
 have hold : (Builtin.firstCells ie.size i (.slice (some ⟨b, off, none⟩) i c)).run Try.prog w.drew = .ok (cs.take (i * 2)).toArray w.drew := by
  rw [hzs]
  exact run_firstCells_some w.drew 2 i ⟨b, off, none⟩ i c (cs.take (i * 2)) (by rw [List.length_take]; omega) (fun j v hj => by
   rw [Addr.add_lit]
   rw [List.getElem?_take] at hj
   split at hj
   ·exact hcs j v hj
   ·cases hj)
 have hrz : ∀ ty, (Builtin.append_ #[22, 3] ty #[.slice (some ⟨b, off, none⟩) i c, .int .i64 ((n : Int) + (m : Int) - (i : Int))]).run Try.prog w =
   .ok (.slice (some ⟨w.heap.size, 0, none⟩) (n + m) (grownCap w (n + m) c 50)) (w.drew.alloc (.cells ((cs.take (i * 2)).toArray ++ Builtin.zeroCells z.cells (n + m - i) ++ Builtin.zeroCells z.cells (grownCap w (n + m) c 50 - (n + m))) 50)) := fun ty => by
  have h := Lib.run_append_grow_zeros w 22 3 ty 50 ie z .i64 .i64 Try.underlying22 Try.underlying3 hie hz0 (some ⟨b, off, none⟩) i c (cs.take (i * 2)) hold (n + m - i) (by omega) (by omega) (by omega) (by omega) (by rw [hzb]; omega) (by rw [hzb, hik]; exact growslice_fits hroom hbig)
  rw [hik] at h
  rw [hkk]
  exact h
 obtain ⟨G, hG⟩ : ∃ G, G = grownCap w (n + m) c 50 := ⟨_, rfl⟩
 obtain ⟨ROW, hROW⟩ : ∃ ROW : Array Value, ROW = (cs.take (i * 2)).toArray ++ Builtin.zeroCells z.cells (n + m - i) ++ Builtin.zeroCells z.cells (G - (n + m)) := ⟨_, rfl⟩
 rw [← hG] at hrz ⊢
 rw [← hROW] at hrz ⊢
 have hRl : (n + m) * 2 ≤ ROW.size := by
  rw [hROW]
  simp [Builtin.zeroCells, hzc]
  omega
 obtain ⟨W1, hW1⟩ : ∃ W1, W1 = w.drew.alloc (.cells ROW 50) := ⟨_, rfl⟩
 rw [← hW1] at hrz
 have hN : ∀ j, j < (n + m) * 2 → (W1.cell? ⟨w.heap.size, j, none⟩).isSome = true := fun j hj => by
  rw [hW1, World.cell?_alloc_at (w := w.drew) ROW _ w.heap.size j rfl, Array.getElem?_eq_getElem (by omega)]; rfl
 have hNf : ∀ j, W1.frozen? ⟨w.heap.size, j, none⟩ = false := fun j => by rw [hW1]; exact World.frozen?_alloc_at (w := w.drew) ROW _ w.heap.size j rfl
 have hOb : ∀ j v, w.cell? ⟨b, j, none⟩ = some v → W1.cell? ⟨b, j, none⟩ = some v := fun j v h => by rw [hW1, World.cell?_alloc_past (w := w.drew) _ b j hbw]; exact h
 have hOv : ∀ j v, w.cell? ⟨vb, j, none⟩ = some v → W1.cell? ⟨vb, j, none⟩ = some v := fun j v h => by rw [hW1, World.cell?_alloc_past (w := w.drew) _ vb j hvw]; exact h
 have hcpA : ∀ (W : World), (∀ x, W.cell? x = W1.cell? x) → (∀ x, W.frozen? x = W1.frozen? x) → ∀ ty dc, (Builtin.copy_ #[22, 22] ty #[.slice (some ⟨w.heap.size, i * 2, none⟩) (n + m - i) dc, .slice (some ⟨vb, voff, none⟩) m vc]).run Try.prog W = .ok (goInt m) (W.setCells w.heap.size (i * 2) vs) := fun W hWc hWf ty dc =>
  run_copy_k W _ _ ty 50 2 w.heap.size (i * 2) (n + m - i) dc ⟨vb, voff, none⟩ m vc m vs Try.underlying22 hsz (by simp only [Nat.min_def]; split <;> omega) hvl
   (fun j v hj => by rw [Addr.add_lit, hWc]; exact hOv _ v (hvs j v hj))
   (fun j hj => by rw [hWc]; exact hN _ (by omega)) (fun j hj => by rw [hWf]; exact hNf _) h1v
 have hGn : n + m ≤ G := by rw [hG]; exact grownCap_ge w _ _ _
 have hG63 : G ≤ 9223372036854775807 := by
  have := grownCap_le_maxLen w (n + m) c 50 (by unfold maxLen; omega)
  rw [← hG] at this
  unfold maxLen at this
  omega
 have hGi : ¬ (G = i) := by omega
 have hGim : ¬ (G = i + m) := by omega
 have hci : ¬ (c = i) := by omega
 have hbN : b ≠ w.heap.size := by omega
 have hdl : (cs.drop (i * 2)).length = (n - i) * 2 := by rw [List.length_drop, hcl]; omega
 have hcpB : ∀ (W : World), (∀ x, W.cell? x = (W1.setCells w.heap.size (i * 2) vs).cell? x) → (∀ x, W.frozen? x = (W1.setCells w.heap.size (i * 2) vs).frozen? x) → ∀ ty dc sc, (Builtin.copy_ #[22, 22] ty #[.slice (some ⟨w.heap.size, (i + m) * 2, none⟩) (n + m - (i + m)) dc, .slice (some ⟨b, off + i * 2, none⟩) (n - i) sc]).run Try.prog W = .ok (goInt ((n - i : Nat) : Int)) (W.setCells w.heap.size ((i + m) * 2) (cs.drop (i * 2))) := fun W hWc hWf ty dc sc =>
  run_copy_k W _ _ ty 50 2 w.heap.size ((i + m) * 2) (n + m - (i + m)) dc ⟨b, off + i * 2, none⟩ (n - i) sc (n - i) (cs.drop (i * 2)) Try.underlying22 hsz (by simp only [Nat.min_def]; split <;> omega) hdl
   (fun j v hj => by
    rw [Addr.add_lit, hWc, World.cell?_setCells_out _ _ _ _ _ (fun h _ => absurd h hbN), Nat.add_assoc]
    exact hOb _ v (hcs (i * 2 + j) v (by rwa [List.getElem?_drop] at hj)))
   (fun j hj => by rw [hWc]; exact isSome_setCells _ _ _ _ (fun t ht => hN _ (by omega)) _ (hN _ (by omega)))
   (fun j hj => by rw [hWf, World.frozen?_setCells]; exact hNf _) (fun v hv => h1c v (List.mem_of_mem_drop hv))
 subst hW1
 have hE1 : ∀ x, ((w.alloc (.cells ROW 50)).drew).cell? x = (w.drew.alloc (.cells ROW 50)).cell? x := fun x => rfl
 have hE2 : ∀ x, ((w.alloc (.cells ROW 50)).drew).frozen? x = (w.drew.alloc (.cells ROW 50)).frozen? x := fun x => rfl
 have hF1 : ∀ x, (((w.alloc (.cells ROW 50)).drew.setCells w.heap.size (i * 2) vs).drew).cell? x = ((w.drew.alloc (.cells ROW 50)).setCells w.heap.size (i * 2) vs).cell? x := fun x => rfl
 have hF2 : ∀ x, (((w.alloc (.cells ROW 50)).drew.setCells w.heap.size (i * 2) vs).drew).frozen? x = ((w.drew.alloc (.cells ROW 50)).setCells w.heap.size (i * 2) vs).frozen? x := fun x => rfl
 have hw1 : IntKind.i64.wrap ((i : Int) + (m : Int)) = (i : Int) + (m : Int) := by rw [IntKind.wrap_i64]; omega
 have hb1 : (0 : Int) ≤ (i : Int) + (m : Int) := by omega
 have hin : i ≤ n := by omega
 have htn : ((i : Int) + (m : Int)).toNat = i + m := by omega
 have hb3 : (i : Int) ≤ (n : Int) := by omega
 have mixed := mixed
 clear hkk hik hold hROW hG hRl
 go_enter Try.func54, Try.ntmps54
 go_wp2_with (first
  | (at_builtin; refine Lib.wpList_append_run _ rfl _ _ _ _ rfl _ _ rfl rfl _ _ (hrz _) ?_)
  | (at_builtin; refine wpList_copy_runI _ rfl _ _ 22 22 rfl _ _ rfl rfl (hcpA _ hE1 hE2 _ _) ?_)
  | (at_builtin; refine wpList_copy_runI _ rfl _ _ 22 22 rfl _ _ rfl rfl (hcpB _ (fun _ => rfl) (fun _ => rfl) _ _ _) ?_))
 go_region_law_o (refine step_copy_runI rfl _ _ 22 22 rfl (.slice (some ⟨w.heap.size, (i + m) * 2, none⟩) (n + m - (i + m)) (G - (i + m))) (.slice (some ⟨b, off + i * 2, none⟩) (n - i) (c - i)) (by simp [Act.eval, Act.put]) (by simp [Act.eval, Act.put]) (hcpB _ hF1 hF2 3 (G - (i + m)) (c - i)) ?_)
 go_wp2
 go_ret
 exact ⟨rfl, rfl⟩
end Go.Proofs.Ytbbklijmnknmhaa
