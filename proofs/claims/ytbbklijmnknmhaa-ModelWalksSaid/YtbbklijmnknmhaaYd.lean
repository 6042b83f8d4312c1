/-
  Whether two maps, or two lists of differences, are the same; of group 5.
  The error of a batch, by both; the place of a key.
  Writes to a map, by the code.
-/
import Derived.Test.YtbbklijmnknmhaaIa
import Derived.Test.YtbbklijmnknmhaaYa
namespace Go.Proofs.Ytbbklijmnknmhaa
open Av Bk

def spSameP : DSpec
 | [.lst (.st [.str, .str]) a, .lst (.st [.str, .str]) b] => some (a.length ≤ 4611686018427387904, .bool (sameL pairT a b))
 | _ => none
set_option maxRecDepth 100000 in
theorem fnOk_same05 : FnOk Try.prog 18 Try.f18 := ⟨by rfl, by kernel_rfl, by
 show okCode _ _ = true ∧ drawsOk _ = true
 exact ⟨by kernel_rfl, by kernel_rfl⟩⟩
set_option maxRecDepth 100000 in
set_option maxHeartbeats 2000000 in
theorem same05_ok : SpecOk Try.prog 18 spSameP := by
 refine spec_body (C := cx0) mixed tbOk SpecsOk.nil (callN_ok (C := cx0) mixed tbOk SpecsOk.nil FnsOk.nil 0) fnOk_same05 ?_
 intro ys p r h hp
 unfold spSameP at h
 split at h
 ·rename_i a b
  cases h
  conv => whnf
  repeat' first | ((first | refine auT ?_ | refine auF ?_ | with_reducible first | refine auKt ?_ | refine auKf ?_ | refine auNt ?_ | refine auNf ?_ | refine auEt ?_ | refine auEf ?_); conv => whnf) | ((with_reducible first | refine br_dec ?_ ?_ | refine br_ndec ?_ ?_ | refine br_ne ?_ ?_ | refine br_eq ?_ ?_) <;> intro h <;> first | (exfalso; omega) | conv => whnf) | (refine br_intro ?_ ?_ <;> intro h <;> conv => whnf) | ((first | refine auNd ?_ | refine idx_nat (by omega) (fun x hx => ?_) | refine frz_auto ?_ | refine draw_plain ?_ | refine auIx (fun x hx => ?_)); conv => whnf)
  ·refine congrArg AV.bool ?_
   rw [same_len (by omega)]
  ·rename_i hlen
   refine loop_inv [] [5] (fun vs h => ∃ i : Nat, vs = [.int .i64 (i : Int)] ∧ h = [] ∧ i ≤ a.length ∧ sameL pairT a b = sameL pairT (a.drop i) (b.drop i)) (fun vs _ => match vs with | [.int _ k] => a.length - k.toNat | _ => 0) ?_
   refine ⟨⟨0, rfl, rfl, Nat.zero_le _, rfl⟩, ?_⟩
   rintro vs h' - ⟨i, rfl, rfl, hi, hs⟩
   by_cases hil : i < a.length
   ·obtain ⟨x, hx⟩ : ∃ x, a[i]? = some x := ⟨_, List.getElem?_eq_getElem hil⟩
    obtain ⟨y, hy⟩ : ∃ y, b[i]? = some y := ⟨_, List.getElem?_eq_getElem (by omega)⟩
    rw [same_step hx hy] at hs
    conv => whnf
    repeat' first | ((first | refine auIk ?_ | refine auIi ?_ | refine auT ?_ | refine auF ?_ | with_reducible first | refine auKt ?_ | refine auKf ?_ | refine auNt ?_ | refine auNf ?_ | refine auEt ?_ | refine auEf ?_); conv => whnf) | ((with_reducible first | refine br_dec ?_ ?_ | refine br_ndec ?_ ?_ | refine br_ne ?_ ?_ | refine br_eq ?_ ?_) <;> intro h <;> first | (exfalso; omega) | conv => whnf) | (refine br_intro ?_ ?_ <;> intro h <;> conv => whnf) | ((first | refine auNd ?_ | refine idx_nat (by omega) (fun x hx => ?_) | refine frz_auto ?_ | refine draw_plain ?_ | refine auIx (fun x hx => ?_)); conv => whnf)
    ·rw [hs, show eqT pairT x y = false from bnt h]
     rfl
    ·rw [show eqT pairT x y = true from bnf h] at hs
     refine back_intro (by conv => whnf) rfl ⟨i + 1, rfl, rfl, by omega, hs⟩ ?_
     show a.length - ((i : Int) + 1).toNat < a.length - (i : Int).toNat
     omega
   ·conv => whnf
    repeat' first | ((first | refine auIk ?_ | refine auIi ?_ | refine auT ?_ | refine auF ?_ | with_reducible first | refine auKt ?_ | refine auKf ?_ | refine auNt ?_ | refine auNf ?_ | refine auEt ?_ | refine auEf ?_); conv => whnf) | ((with_reducible first | refine br_dec ?_ ?_ | refine br_ndec ?_ ?_ | refine br_ne ?_ ?_ | refine br_eq ?_ ?_) <;> intro h <;> first | (exfalso; omega) | conv => whnf) | (refine br_intro ?_ ?_ <;> intro h <;> conv => whnf) | ((first | refine auNd ?_ | refine idx_nat (by omega) (fun x hx => ?_) | refine frz_auto ?_ | refine draw_plain ?_ | refine auIx (fun x hx => ?_)); conv => whnf)
    rw [hs, same_end (by omega) (by omega)]
 ·cases h
def spSameI : DSpec
 | [.lst (.st [.int .i64, .str, .str, .str]) a, .lst (.st [.int .i64, .str, .str, .str]) b] => some (a.length ≤ 4611686018427387904, .bool (sameL itemT a b))
 | _ => none
set_option maxRecDepth 100000 in
theorem fnOk_sameIt : FnOk Try.prog 21 Try.f21 := ⟨by rfl, by kernel_rfl, by
 show okCode _ _ = true ∧ drawsOk _ = true
 exact ⟨by kernel_rfl, by kernel_rfl⟩⟩
set_option maxRecDepth 100000 in
set_option maxHeartbeats 2000000 in
theorem sameIt_ok : SpecOk Try.prog 21 spSameI := by
 refine spec_body (C := cx0) mixed tbOk SpecsOk.nil (callN_ok (C := cx0) mixed tbOk SpecsOk.nil FnsOk.nil 0) fnOk_sameIt ?_
 intro ys p r h hp
 unfold spSameI at h
 split at h
 ·rename_i a b
  cases h
  conv => whnf
  repeat' first | ((first | refine auT ?_ | refine auF ?_ | with_reducible first | refine auKt ?_ | refine auKf ?_ | refine auNt ?_ | refine auNf ?_ | refine auEt ?_ | refine auEf ?_); conv => whnf) | ((with_reducible first | refine br_dec ?_ ?_ | refine br_ndec ?_ ?_ | refine br_ne ?_ ?_ | refine br_eq ?_ ?_) <;> intro h <;> first | (exfalso; omega) | conv => whnf) | (refine br_intro ?_ ?_ <;> intro h <;> conv => whnf) | ((first | refine auNd ?_ | refine idx_nat (by omega) (fun x hx => ?_) | refine frz_auto ?_ | refine draw_plain ?_ | refine auIx (fun x hx => ?_)); conv => whnf)
  ·refine congrArg AV.bool ?_
   rw [same_len (by omega)]
  ·rename_i hlen
   refine loop_inv [] [5] (fun vs h => ∃ i : Nat, vs = [.int .i64 (i : Int)] ∧ h = [] ∧ i ≤ a.length ∧ sameL itemT a b = sameL itemT (a.drop i) (b.drop i)) (fun vs _ => match vs with | [.int _ k] => a.length - k.toNat | _ => 0) ?_
   refine ⟨⟨0, rfl, rfl, Nat.zero_le _, rfl⟩, ?_⟩
   rintro vs h' - ⟨i, rfl, rfl, hi, hs⟩
   by_cases hil : i < a.length
   ·obtain ⟨x, hx⟩ : ∃ x, a[i]? = some x := ⟨_, List.getElem?_eq_getElem hil⟩
    obtain ⟨y, hy⟩ : ∃ y, b[i]? = some y := ⟨_, List.getElem?_eq_getElem (by omega)⟩
    rw [same_step hx hy] at hs
    conv => whnf
    repeat' first | ((first | refine auIk ?_ | refine auIi ?_ | refine auT ?_ | refine auF ?_ | with_reducible first | refine auKt ?_ | refine auKf ?_ | refine auNt ?_ | refine auNf ?_ | refine auEt ?_ | refine auEf ?_); conv => whnf) | ((with_reducible first | refine br_dec ?_ ?_ | refine br_ndec ?_ ?_ | refine br_ne ?_ ?_ | refine br_eq ?_ ?_) <;> intro h <;> first | (exfalso; omega) | conv => whnf) | (refine br_intro ?_ ?_ <;> intro h <;> conv => whnf) | ((first | refine auNd ?_ | refine idx_nat (by omega) (fun x hx => ?_) | refine frz_auto ?_ | refine draw_plain ?_ | refine auIx (fun x hx => ?_)); conv => whnf)
    ·rw [hs, show eqT itemT x y = false from bnt h]
     rfl
    ·rw [show eqT itemT x y = true from bnf h] at hs
     refine back_intro (by conv => whnf) rfl ⟨i + 1, rfl, rfl, by omega, hs⟩ ?_
     show a.length - ((i : Int) + 1).toNat < a.length - (i : Int).toNat
     omega
   ·conv => whnf
    repeat' first | ((first | refine auIk ?_ | refine auIi ?_ | refine auT ?_ | refine auF ?_ | with_reducible first | refine auKt ?_ | refine auKf ?_ | refine auNt ?_ | refine auNf ?_ | refine auEt ?_ | refine auEf ?_); conv => whnf) | ((with_reducible first | refine br_dec ?_ ?_ | refine br_ndec ?_ ?_ | refine br_ne ?_ ?_ | refine br_eq ?_ ?_) <;> intro h <;> first | (exfalso; omega) | conv => whnf) | (refine br_intro ?_ ?_ <;> intro h <;> conv => whnf) | ((first | refine auNd ?_ | refine idx_nat (by omega) (fun x hx => ?_) | refine frz_auto ?_ | refine draw_plain ?_ | refine auIx (fun x hx => ?_)); conv => whnf)
    rw [hs, same_end (by omega) (by omega)]
 ·cases h

end Go.Proofs.Ytbbklijmnknmhaa
namespace Go.Proofs.Ytbbklijmnknmhaa
open Av Bk

def spWC : DSpec
 | [.lst (.st [.str, .str, .bool]) l] => some (l.length ≤ 4611686018427387904, .int .i64 (wEL l))
 | _ => none
theorem wEL_some {l : List wrT.El} (h0 : l.length ≠ 0) (h8 : ¬ 8 < (l.length : Int)) : wEL l = wEs l := by
 unfold wEL
 rw [if_neg h0, if_neg h8]
theorem wE1_len {w : wrT.El} (h : 32 < (w.1.size : Int) ∨ 64 < (w.2.1.size : Int)) : wE1 w = 3 := if_pos h
theorem wE1_form {w : wrT.El} (h : ¬ (32 < (w.1.size : Int) ∨ 64 < (w.2.1.size : Int))) (hd : w.2.2.1 = true) (hv : sEq w.2.1 ⟨#[]⟩ = false) : wE1 w = 6 := by
 unfold wE1
 rw [if_neg h, if_pos ⟨hd, hv⟩]
theorem wE1_ok {w : wrT.El} (h : ¬ (32 < (w.1.size : Int) ∨ 64 < (w.2.1.size : Int))) (hd : w.2.2.1 = false ∨ sEq w.2.1 ⟨#[]⟩ = true) : wE1 w = 0 := by
 unfold wE1
 rw [if_neg h, if_neg]
 rintro ⟨h1, h2⟩
 rcases hd with hd | hd
 ·rw [hd] at h1; cases h1
 ·rw [hd] at h2; cases h2
set_option maxRecDepth 100000 in
theorem fnOk_mwCheck : FnOk Try.prog 50 Try.f50 := ⟨by rfl, by kernel_rfl, by
 show okCode _ _ = true ∧ drawsOk _ = true
 exact ⟨by kernel_rfl, by kernel_rfl⟩⟩
set_option maxRecDepth 100000 in
set_option maxHeartbeats 4000000 in
theorem mwCheck_ok : SpecOk Try.prog 50 spWC := by
  refine spec_body (C := cx0) mixed tbOk SpecsOk.nil (callN_ok (C := cx0) mixed tbOk SpecsOk.nil FnsOk.nil 0) fnOk_mwCheck ?_
  intro ys p r h hp
  unfold spWC at h
  split at h
  · rename_i l
    cases h
    by_cases h0 : l.length = 0
    · have e : wEL l = 6 := by unfold wEL; rw [if_pos h0]
      conv => whnf
      repeat' first | ((first | refine auIk ?_ | refine auIi ?_ | refine auT ?_ | refine auF ?_ | with_reducible first | refine auKt ?_ | refine auKf ?_ | refine auNt ?_ | refine auNf ?_ | refine auEt ?_ | refine auEf ?_); conv => whnf) | ((with_reducible first | refine br_dec ?_ ?_ | refine br_ndec ?_ ?_ | refine br_ne ?_ ?_ | refine br_eq ?_ ?_) <;> intro h <;> first | (exfalso; omega) | conv => whnf) | (refine br_intro ?_ ?_ <;> intro h <;> conv => whnf) | ((first | refine auNd ?_ | refine idx_nat (by omega) (fun x hx => ?_) | refine frz_auto ?_ | refine draw_plain ?_ | refine auIx (fun x hx => ?_)); conv => whnf)
      all_goals first
        | (rw [e]; done)
        | (exfalso; omega)
        | skip
    · by_cases h8 : 8 < (l.length : Int)
      · have e : wEL l = 3 := by unfold wEL; rw [if_neg h0, if_pos h8]
        conv => whnf
        repeat' first | ((first | refine auIk ?_ | refine auIi ?_ | refine auT ?_ | refine auF ?_ | with_reducible first | refine auKt ?_ | refine auKf ?_ | refine auNt ?_ | refine auNf ?_ | refine auEt ?_ | refine auEf ?_); conv => whnf) | ((with_reducible first | refine br_dec ?_ ?_ | refine br_ndec ?_ ?_ | refine br_ne ?_ ?_ | refine br_eq ?_ ?_) <;> intro h <;> first | (exfalso; omega) | conv => whnf) | (refine br_intro ?_ ?_ <;> intro h <;> conv => whnf) | ((first | refine auNd ?_ | refine idx_nat (by omega) (fun x hx => ?_) | refine frz_auto ?_ | refine draw_plain ?_ | refine auIx (fun x hx => ?_)); conv => whnf)
        all_goals first
          | (rw [e]; done)
          | (exfalso; omega)
          | skip
      · have e := wEL_some h0 h8
        conv => whnf
        repeat' first | ((first | refine auIk ?_ | refine auIi ?_ | refine auT ?_ | refine auF ?_ | with_reducible first | refine auKt ?_ | refine auKf ?_ | refine auNt ?_ | refine auNf ?_ | refine auEt ?_ | refine auEf ?_); conv => whnf) | ((with_reducible first | refine br_dec ?_ ?_ | refine br_ndec ?_ ?_ | refine br_ne ?_ ?_ | refine br_eq ?_ ?_) <;> intro h <;> first | (exfalso; omega) | conv => whnf) | (refine br_intro ?_ ?_ <;> intro h <;> conv => whnf) | ((first | refine auNd ?_ | refine idx_nat (by omega) (fun x hx => ?_) | refine frz_auto ?_ | refine draw_plain ?_ | refine auIx (fun x hx => ?_)); conv => whnf)
        refine loop_inv [] [15] (fun vs h => ∃ i : Nat, vs = [.int .i64 (i : Int)] ∧ h = [] ∧ i ≤ l.length ∧ ∀ y ∈ l.take i, wE1 y = 0) (fun vs _ => match vs with | [.int _ k] => l.length - k.toNat | _ => 0) ?_
        conv => whnf
        refine ⟨⟨0, rfl, rfl, by omega, by simp⟩, ?_⟩
        rintro vs h' - ⟨i, rfl, rfl, hi, hall⟩
        by_cases hil : i < l.length
        · obtain ⟨y, hy⟩ : ∃ y, l[i]? = some y := ⟨_, List.getElem?_eq_getElem hil⟩
          by_cases hbig : 32 < (y.1.size : Int) ∨ 64 < (y.2.1.size : Int)
          · have h1 := wEs_at hall hy (by rw [wE1_len hbig]; decide)
            rw [wE1_len hbig] at h1
            conv => whnf
            repeat' first | ((first | refine auIk ?_ | refine auIi ?_ | refine auT ?_ | refine auF ?_ | with_reducible first | refine auKt ?_ | refine auKf ?_ | refine auNt ?_ | refine auNf ?_ | refine auEt ?_ | refine auEf ?_); conv => whnf) | ((with_reducible first | refine br_dec ?_ ?_ | refine br_ndec ?_ ?_ | refine br_ne ?_ ?_ | refine br_eq ?_ ?_) <;> intro h <;> first | (exfalso; omega) | conv => whnf) | (refine br_intro ?_ ?_ <;> intro h <;> conv => whnf) | ((first | refine auNd ?_ | refine idx_nat (by omega) (fun x hx => ?_) | refine frz_auto ?_ | refine draw_plain ?_ | refine auIx (fun x hx => ?_)); conv => whnf)
            all_goals first
              | (rw [e, h1]; done)
              | (exfalso; omega)
          · cases hd : y.2.2.1 with
            | true =>
              cases hv : sEq y.2.1 ⟨#[]⟩ with
              | false =>
                have h1 := wEs_at hall hy (by rw [wE1_form hbig hd hv]; decide)
                rw [wE1_form hbig hd hv] at h1
                conv => whnf
                repeat' first | ((first | refine auIk ?_ | refine auIi ?_ | refine auT ?_ | refine auF ?_ | with_reducible first | refine auKt ?_ | refine auKf ?_ | refine auNt ?_ | refine auNf ?_ | refine auEt ?_ | refine auEf ?_); conv => whnf) | ((with_reducible first | refine br_dec ?_ ?_ | refine br_ndec ?_ ?_ | refine br_ne ?_ ?_ | refine br_eq ?_ ?_) <;> intro h <;> first | (exfalso; omega) | conv => whnf) | (refine br_intro ?_ ?_ <;> intro h <;> conv => whnf) | ((first | refine auNd ?_ | refine idx_nat (by omega) (fun x hx => ?_) | refine frz_auto ?_ | refine draw_plain ?_ | refine auIx (fun x hx => ?_)); conv => whnf)
                all_goals first
                  | (rw [e, h1]; done)
                  | (exfalso; omega)
                  | (exfalso; simp_all; done)
              | true =>
                conv => whnf
                repeat' first | ((first | refine auIk ?_ | refine auIi ?_ | refine auT ?_ | refine auF ?_ | with_reducible first | refine auKt ?_ | refine auKf ?_ | refine auNt ?_ | refine auNf ?_ | refine auEt ?_ | refine auEf ?_); conv => whnf) | ((with_reducible first | refine br_dec ?_ ?_ | refine br_ndec ?_ ?_ | refine br_ne ?_ ?_ | refine br_eq ?_ ?_) <;> intro h <;> first | (exfalso; omega) | conv => whnf) | (refine br_intro ?_ ?_ <;> intro h <;> conv => whnf) | ((first | refine auNd ?_ | refine idx_nat (by omega) (fun x hx => ?_) | refine frz_auto ?_ | refine draw_plain ?_ | refine auIx (fun x hx => ?_)); conv => whnf)
                all_goals first
                  | (exfalso; omega)
                  | (exfalso; simp_all; done)
                  | (refine back_intro (by conv => whnf) rfl ⟨i + 1, rfl, rfl, by omega, take_succ_all hall hy (wE1_ok hbig (.inr hv))⟩ ?_
                     show l.length - ((i : Int) + 1).toNat < l.length - (i : Int).toNat
                     omega)
            | false =>
              conv => whnf
              repeat' first | ((first | refine auIk ?_ | refine auIi ?_ | refine auT ?_ | refine auF ?_ | with_reducible first | refine auKt ?_ | refine auKf ?_ | refine auNt ?_ | refine auNf ?_ | refine auEt ?_ | refine auEf ?_); conv => whnf) | ((with_reducible first | refine br_dec ?_ ?_ | refine br_ndec ?_ ?_ | refine br_ne ?_ ?_ | refine br_eq ?_ ?_) <;> intro h <;> first | (exfalso; omega) | conv => whnf) | (refine br_intro ?_ ?_ <;> intro h <;> conv => whnf) | ((first | refine auNd ?_ | refine idx_nat (by omega) (fun x hx => ?_) | refine frz_auto ?_ | refine draw_plain ?_ | refine auIx (fun x hx => ?_)); conv => whnf)
              all_goals first
                | (exfalso; omega)
                | (exfalso; simp_all; done)
                | (refine back_intro (by conv => whnf) rfl ⟨i + 1, rfl, rfl, by omega, take_succ_all hall hy (wE1_ok hbig (.inl hd))⟩ ?_
                   show l.length - ((i : Int) + 1).toNat < l.length - (i : Int).toNat
                   omega)
        · conv => whnf
          repeat' first | ((first | refine auIk ?_ | refine auIi ?_ | refine auT ?_ | refine auF ?_ | with_reducible first | refine auKt ?_ | refine auKf ?_ | refine auNt ?_ | refine auNf ?_ | refine auEt ?_ | refine auEf ?_); conv => whnf) | ((with_reducible first | refine br_dec ?_ ?_ | refine br_ndec ?_ ?_ | refine br_ne ?_ ?_ | refine br_eq ?_ ?_) <;> intro h <;> first | (exfalso; omega) | conv => whnf) | (refine br_intro ?_ ?_ <;> intro h <;> conv => whnf) | ((first | refine auNd ?_ | refine idx_nat (by omega) (fun x hx => ?_) | refine frz_auto ?_ | refine draw_plain ?_ | refine auIx (fun x hx => ?_)); conv => whnf)
          rw [List.take_of_length_le (by omega)] at hall
          rw [e, wEs_end hall]
  · cases h
set_option maxRecDepth 100000 in
theorem fnOk_rWrites : FnOk Try.prog 55 Try.f55 := ⟨by rfl, by kernel_rfl, by
 show okCode _ _ = true ∧ drawsOk _ = true
 exact ⟨by kernel_rfl, by kernel_rfl⟩⟩
set_option maxRecDepth 100000 in
set_option maxHeartbeats 4000000 in
theorem rWrites_ok : SpecOk Try.prog 55 spWC := by
  refine spec_body (C := cx0) mixed tbOk SpecsOk.nil (callN_ok (C := cx0) mixed tbOk SpecsOk.nil FnsOk.nil 0) fnOk_rWrites ?_
  intro ys p r h hp
  unfold spWC at h
  split at h
  · rename_i l
    cases h
    by_cases h0 : l.length = 0
    · have e : wEL l = 6 := by unfold wEL; rw [if_pos h0]
      conv => whnf
      repeat' first | ((first | refine auIk ?_ | refine auIi ?_ | refine auT ?_ | refine auF ?_ | with_reducible first | refine auKt ?_ | refine auKf ?_ | refine auNt ?_ | refine auNf ?_ | refine auEt ?_ | refine auEf ?_); conv => whnf) | ((with_reducible first | refine br_dec ?_ ?_ | refine br_ndec ?_ ?_ | refine br_ne ?_ ?_ | refine br_eq ?_ ?_) <;> intro h <;> first | (exfalso; omega) | conv => whnf) | (refine br_intro ?_ ?_ <;> intro h <;> conv => whnf) | ((first | refine auNd ?_ | refine idx_nat (by omega) (fun x hx => ?_) | refine frz_auto ?_ | refine draw_plain ?_ | refine auIx (fun x hx => ?_)); conv => whnf)
      all_goals first
        | (rw [e]; done)
        | (exfalso; omega)
        | skip
    · by_cases h8 : 8 < (l.length : Int)
      · have e : wEL l = 3 := by unfold wEL; rw [if_neg h0, if_pos h8]
        conv => whnf
        repeat' first | ((first | refine auIk ?_ | refine auIi ?_ | refine auT ?_ | refine auF ?_ | with_reducible first | refine auKt ?_ | refine auKf ?_ | refine auNt ?_ | refine auNf ?_ | refine auEt ?_ | refine auEf ?_); conv => whnf) | ((with_reducible first | refine br_dec ?_ ?_ | refine br_ndec ?_ ?_ | refine br_ne ?_ ?_ | refine br_eq ?_ ?_) <;> intro h <;> first | (exfalso; omega) | conv => whnf) | (refine br_intro ?_ ?_ <;> intro h <;> conv => whnf) | ((first | refine auNd ?_ | refine idx_nat (by omega) (fun x hx => ?_) | refine frz_auto ?_ | refine draw_plain ?_ | refine auIx (fun x hx => ?_)); conv => whnf)
        all_goals first
          | (rw [e]; done)
          | (exfalso; omega)
          | skip
      · have e := wEL_some h0 h8
        conv => whnf
        repeat' first | ((first | refine auIk ?_ | refine auIi ?_ | refine auT ?_ | refine auF ?_ | with_reducible first | refine auKt ?_ | refine auKf ?_ | refine auNt ?_ | refine auNf ?_ | refine auEt ?_ | refine auEf ?_); conv => whnf) | ((with_reducible first | refine br_dec ?_ ?_ | refine br_ndec ?_ ?_ | refine br_ne ?_ ?_ | refine br_eq ?_ ?_) <;> intro h <;> first | (exfalso; omega) | conv => whnf) | (refine br_intro ?_ ?_ <;> intro h <;> conv => whnf) | ((first | refine auNd ?_ | refine idx_nat (by omega) (fun x hx => ?_) | refine frz_auto ?_ | refine draw_plain ?_ | refine auIx (fun x hx => ?_)); conv => whnf)
        refine loop_inv [] [3] (fun vs h => ∃ i : Nat, vs = [.int .i64 (i : Int)] ∧ h = [] ∧ i ≤ l.length ∧ ∀ y ∈ l.take i, wE1 y = 0) (fun vs _ => match vs with | [.int _ k] => l.length - k.toNat | _ => 0) ?_
        conv => whnf
        refine ⟨⟨0, rfl, rfl, by omega, by simp⟩, ?_⟩
        rintro vs h' - ⟨i, rfl, rfl, hi, hall⟩
        by_cases hil : i < l.length
        · obtain ⟨y, hy⟩ : ∃ y, l[i]? = some y := ⟨_, List.getElem?_eq_getElem hil⟩
          by_cases hbig : 32 < (y.1.size : Int) ∨ 64 < (y.2.1.size : Int)
          · have h1 := wEs_at hall hy (by rw [wE1_len hbig]; decide)
            rw [wE1_len hbig] at h1
            conv => whnf
            repeat' first | ((first | refine auIk ?_ | refine auIi ?_ | refine auT ?_ | refine auF ?_ | with_reducible first | refine auKt ?_ | refine auKf ?_ | refine auNt ?_ | refine auNf ?_ | refine auEt ?_ | refine auEf ?_); conv => whnf) | ((with_reducible first | refine br_dec ?_ ?_ | refine br_ndec ?_ ?_ | refine br_ne ?_ ?_ | refine br_eq ?_ ?_) <;> intro h <;> first | (exfalso; omega) | conv => whnf) | (refine br_intro ?_ ?_ <;> intro h <;> conv => whnf) | ((first | refine auNd ?_ | refine idx_nat (by omega) (fun x hx => ?_) | refine frz_auto ?_ | refine draw_plain ?_ | refine auIx (fun x hx => ?_)); conv => whnf)
            all_goals first
              | (rw [e, h1]; done)
              | (exfalso; omega)
          · cases hd : y.2.2.1 with
            | true =>
              cases hv : sEq y.2.1 ⟨#[]⟩ with
              | false =>
                have h1 := wEs_at hall hy (by rw [wE1_form hbig hd hv]; decide)
                rw [wE1_form hbig hd hv] at h1
                conv => whnf
                repeat' first | ((first | refine auIk ?_ | refine auIi ?_ | refine auT ?_ | refine auF ?_ | with_reducible first | refine auKt ?_ | refine auKf ?_ | refine auNt ?_ | refine auNf ?_ | refine auEt ?_ | refine auEf ?_); conv => whnf) | ((with_reducible first | refine br_dec ?_ ?_ | refine br_ndec ?_ ?_ | refine br_ne ?_ ?_ | refine br_eq ?_ ?_) <;> intro h <;> first | (exfalso; omega) | conv => whnf) | (refine br_intro ?_ ?_ <;> intro h <;> conv => whnf) | ((first | refine auNd ?_ | refine idx_nat (by omega) (fun x hx => ?_) | refine frz_auto ?_ | refine draw_plain ?_ | refine auIx (fun x hx => ?_)); conv => whnf)
                all_goals first
                  | (rw [e, h1]; done)
                  | (exfalso; omega)
                  | (exfalso; simp_all; done)
              | true =>
                conv => whnf
                repeat' first | ((first | refine auIk ?_ | refine auIi ?_ | refine auT ?_ | refine auF ?_ | with_reducible first | refine auKt ?_ | refine auKf ?_ | refine auNt ?_ | refine auNf ?_ | refine auEt ?_ | refine auEf ?_); conv => whnf) | ((with_reducible first | refine br_dec ?_ ?_ | refine br_ndec ?_ ?_ | refine br_ne ?_ ?_ | refine br_eq ?_ ?_) <;> intro h <;> first | (exfalso; omega) | conv => whnf) | (refine br_intro ?_ ?_ <;> intro h <;> conv => whnf) | ((first | refine auNd ?_ | refine idx_nat (by omega) (fun x hx => ?_) | refine frz_auto ?_ | refine draw_plain ?_ | refine auIx (fun x hx => ?_)); conv => whnf)
                all_goals first
                  | (exfalso; omega)
                  | (exfalso; simp_all; done)
                  | (refine back_intro (by conv => whnf) rfl ⟨i + 1, rfl, rfl, by omega, take_succ_all hall hy (wE1_ok hbig (.inr hv))⟩ ?_
                     show l.length - ((i : Int) + 1).toNat < l.length - (i : Int).toNat
                     omega)
            | false =>
              conv => whnf
              repeat' first | ((first | refine auIk ?_ | refine auIi ?_ | refine auT ?_ | refine auF ?_ | with_reducible first | refine auKt ?_ | refine auKf ?_ | refine auNt ?_ | refine auNf ?_ | refine auEt ?_ | refine auEf ?_); conv => whnf) | ((with_reducible first | refine br_dec ?_ ?_ | refine br_ndec ?_ ?_ | refine br_ne ?_ ?_ | refine br_eq ?_ ?_) <;> intro h <;> first | (exfalso; omega) | conv => whnf) | (refine br_intro ?_ ?_ <;> intro h <;> conv => whnf) | ((first | refine auNd ?_ | refine idx_nat (by omega) (fun x hx => ?_) | refine frz_auto ?_ | refine draw_plain ?_ | refine auIx (fun x hx => ?_)); conv => whnf)
              all_goals first
                | (exfalso; omega)
                | (exfalso; simp_all; done)
                | (refine back_intro (by conv => whnf) rfl ⟨i + 1, rfl, rfl, by omega, take_succ_all hall hy (wE1_ok hbig (.inl hd))⟩ ?_
                   show l.length - ((i : Int) + 1).toNat < l.length - (i : Int).toNat
                   omega)
        · conv => whnf
          repeat' first | ((first | refine auIk ?_ | refine auIi ?_ | refine auT ?_ | refine auF ?_ | with_reducible first | refine auKt ?_ | refine auKf ?_ | refine auNt ?_ | refine auNf ?_ | refine auEt ?_ | refine auEf ?_); conv => whnf) | ((with_reducible first | refine br_dec ?_ ?_ | refine br_ndec ?_ ?_ | refine br_ne ?_ ?_ | refine br_eq ?_ ?_) <;> intro h <;> first | (exfalso; omega) | conv => whnf) | (refine br_intro ?_ ?_ <;> intro h <;> conv => whnf) | ((first | refine auNd ?_ | refine idx_nat (by omega) (fun x hx => ?_) | refine frz_auto ?_ | refine draw_plain ?_ | refine auIx (fun x hx => ?_)); conv => whnf)
          rw [List.take_of_length_le (by omega)] at hall
          rw [e, wEs_end hall]
  · cases h
set_option maxRecDepth 100000 in
theorem fnOk_mFind : FnOk Try.prog 52 Try.f52 := ⟨by rfl, by kernel_rfl, by
 show okCode _ _ = true ∧ drawsOk _ = true
 exact ⟨by kernel_rfl, by kernel_rfl⟩⟩
set_option maxRecDepth 100000 in
theorem fnOk_mFind1 : FnOk Try.prog 87 Try.f87 := ⟨by rfl, by kernel_rfl, by
 show okCode _ _ = true ∧ drawsOk _ = true
 exact ⟨by kernel_rfl, by kernel_rfl⟩⟩
noncomputable def cxyc : Cx := ⟨tb, [(87, Try.f87), (86, Try.f86)], [(57, spCmp)]⟩
theorem specsyc : SpecsOk Try.prog cxyc.specs := .cons cmpStr_ok .nil
theorem fnsyc : FnsOk Try.prog cxyc.fns := .cons fnOk_mFind1 (.cons fnOk_bSrP .nil)
set_option maxRecDepth 100000 in
set_option maxHeartbeats 2000000 in
theorem mFind_ok : SpecOk Try.prog 52 spFd := by
 refine spec_body (C := cxyc) mixed tbOk specsyc (callN_ok (C := cxyc) mixed tbOk specsyc fnsyc 3) fnOk_mFind ?_
 intro ys p r h hp
 unfold spFd at h
 split at h
 ·rename_i l key
  cases h
  obtain ⟨ha, hl⟩ := hp
  have hle := lbP_le key l
  have hf := lkV_lb ha key
  conv => whnf
  refine loop_inv [] [9, 10] (fun vs h => ∃ i j : Nat, vs = [.int .i64 (i : Int), .int .i64 (j : Int)] ∧ h = [] ∧ i ≤ lbP key l ∧ lbP key l ≤ j ∧ j ≤ l.length) (fun vs _ => match vs with | [.int _ i, .int _ j] => j.toNat - i.toNat | _ => 0) ?_
  conv => whnf
  refine ⟨⟨0, l.length, rfl, rfl, Nat.zero_le _, hle, Nat.le_refl _⟩, ?_⟩
  rintro vs h' - ⟨i, j, rfl, rfl, hi, hj, hjl⟩
  have hm : ((i : Int) + j) / 2 ^ Int.toNat 1 = (((i + j) / 2 : Nat) : Int) := by
   show ((i : Int) + j) / 2 = _
   omega
  conv => whnf
  repeat' first | ((first | refine auT ?_ | refine auF ?_ | with_reducible first | refine auKt ?_ | refine auKf ?_ | refine auNt ?_ | refine auNf ?_ | refine auEt ?_ | refine auEf ?_); conv => whnf) | ((with_reducible first | refine br_dec ?_ ?_ | refine br_ndec ?_ ?_ | refine br_ne ?_ ?_ | refine br_eq ?_ ?_) <;> intro h <;> first | (exfalso; omega) | conv => whnf) | (refine br_intro ?_ ?_ <;> intro h <;> conv => whnf) | ((first | refine auNd ?_ | refine idx_nat (by omega) (fun x hx => ?_) | refine frz_auto ?_ | refine draw_plain ?_ | refine auIx (fun x hx => ?_)); conv => whnf)
  ·rw [hm] at hx
   have hx : l[(i + j) / 2]? = some x := hx
   have hlt : (i + j) / 2 < lbP key l := by
    rcases Nat.lt_or_ge ((i + j) / 2) (lbP key l) with h1 | h1
    ·exact h1
    ·have h2 := ordS_lt.1 h
     rw [lbP_ge ha h1 hx] at h2; cases h2
   refine back_intro (by conv => whnf) rfl ⟨(i + j) / 2 + 1, j, ?_, rfl, by omega, hj, hjl⟩ ?_
   ·exact two_int (by rw [hm]; rfl) rfl
   ·show (j : Int).toNat - (((i : Int) + j) / 2 ^ Int.toNat 1 + 1).toNat < (j : Int).toNat - (i : Int).toNat
    rw [hm]
    omega
  ·rw [hm] at hx
   have hx : l[(i + j) / 2]? = some x := hx
   have hge : lbP key l ≤ (i + j) / 2 := by
    rcases Nat.lt_or_ge ((i + j) / 2) (lbP key l) with h1 | h1
    ·exact absurd (ordS_lt.2 (lbP_lt ha h1 hx)) h
    ·exact h1
   refine back_intro (by conv => whnf) rfl ⟨i, (i + j) / 2, ?_, rfl, hi, hge, by omega⟩ ?_
   ·exact two_int rfl hm
   ·show (((i : Int) + j) / 2 ^ Int.toNat 1).toNat - (i : Int).toNat < (j : Int).toNat - (i : Int).toNat
    rw [hm]
    omega
  ·have e : i = lbP key l := by omega
   subst e
   have hb : (ordS x.1 key == 0) = sEq x.1 key := by
    rw [Bool.eq_iff_iff, beq_iff_eq]
    exact ordS_eq
   rw [hf, hx, hb]
   cases h3 : sEq x.1 key <;> simp [h3]
  ·have e : i = lbP key l := by omega
   subst e
   rw [hf, List.getElem?_eq_none (by omega)]
   rfl
 ·cases h
end Go.Proofs.Ytbbklijmnknmhaa
namespace Go.Proofs.Ytbbklijmnknmhaa
open Av Bk

def spWr : DSpec
 | [.lst (.st [.str, .str]) m, .lst (.st [.str, .str, .bool]) l] => some (m.length ≤ 4611686018427387904 ∧ l.length ≤ 4611686018427387904, .tup [.lst pairT (wrR m l).1, .int .i64 (wrR m l).2])
 | _ => none
theorem wr_m {m : List pairT.El} {l : List wrT.El} (h : (mcL m).2 ≠ 0) : wrR m l = ([], (mcL m).2) := if_pos h
theorem wr_l {m : List pairT.El} {l : List wrT.El} (h : (mcL m).2 = 0) (hl : wEL l ≠ 0) : wrR m l = ([], wEL l) := by
 unfold wrR
 rw [if_neg (by simpa using h), if_pos hl]
theorem wr_fin {m : List pairT.El} {l : List wrT.El} (h : (mcL m).2 = 0) (hl : wEL l = 0) : wrR m l = if 4000 < ((l.foldl wr1 m).length : Int) then ([], 5) else (l.foldl wr1 m, 0) := by
 unfold wrR
 rw [if_neg (by simpa using h), if_neg (by simpa using hl)]
theorem wr_tup {m : List pairT.El} {l : List wrT.El} {r : List pairT.El × Int} (h : wrR m l = r) : AV.tup [.lst pairT r.1, .int .i64 r.2] = AV.tup [.lst pairT (wrR m l).1, .int .i64 (wrR m l).2] := by rw [h]
theorem wEL_zero {l : List wrT.El} (h : wEL l = 0) : l.length ≤ 8 ∧ ∀ y ∈ l, wE1 y = 0 := by
 unfold wEL at h
 split at h
 ·cases h
 ·split at h
  ·cases h
  ·exact ⟨by omega, wEs_zero h⟩
theorem yd_vs {n n' g : Nat} {z z' : Int} (h : n = n') (hz : z = z') : [AV.own 1 g n, .int .i64 z] = [AV.own 1 g n', .int .i64 z'] := by rw [h, hz]
theorem yd_h {L L' : List pairT.El} {g : Nat} {o : AObj} {T : TypeId} (h : L = L') : [o, .arr T pairT L false g] = [o, AObj.arr T pairT L' false g] := by rw [h]
theorem yd_del {c : List pairT.El} {n : Nat} (hn : n < c.length) : List.take ((n : Int)).toNat c ++ List.drop ((n : Int) + 1).toNat (List.take c.length c) = c.take n ++ c.drop (n + 1) := by
 rw [List.take_length, show ((n : Int) + 1).toNat = n + 1 by omega]
 rfl
theorem yd_ins {c : List pairT.El} {n : Nat} {x : pairT.El} (hn : n < c.length) : List.take ((n : Int)).toNat (List.take ((n : Int)).toNat c ++ List.drop ((n : Int) + 1).toNat (List.take c.length c)) ++ (List.take 1 [x] ++ List.drop ((n : Int)).toNat (List.take (c.length - (((n : Int) + 1).toNat - ((n : Int)).toNat)) (List.take ((n : Int)).toNat c ++ List.drop ((n : Int) + 1).toNat (List.take c.length c)))) = c.take n ++ ([x] ++ c.drop (n + 1)) := by
 rw [yd_del hn, show ((n : Int) + 1).toNat = n + 1 by omega, Int.toNat_natCast, List.take_of_length_le (i := c.length - (n + 1 - n)) (l := c.take n ++ c.drop (n + 1)) (by simp only [List.length_append, List.length_take, List.length_drop]; omega)]
 have h1 : (c.take n).length = n := by rw [List.length_take]; omega
 rw [List.take_left' h1, List.drop_left' h1]
 rfl
set_option maxRecDepth 100000 in
theorem fnOk_mWrite : FnOk Try.prog 16 Try.f16 := ⟨by rfl, by kernel_rfl, by
 show okCode _ _ = true ∧ drawsOk _ = true
 exact ⟨by kernel_rfl, by kernel_rfl⟩⟩
noncomputable def cxyd : Cx := ⟨tb, [], [(14, .d spMC), (50, .d spWC), (52, .d spFd), (51, .f spClP)]⟩
theorem specsyd : SpecsOk Try.prog cxyd.specs := .cons modelCheck_ok (.cons mwCheck_ok (.cons mFind_ok (.consF cloneP_ok .nil)))
def ryd : List (FuncId × RawA) := [(54, insA), (53, delA)]
theorem ryd_ok : RawsOk Try.prog ryd := .cons insPr_ok (.cons delPr_ok .nil)
set_option maxRecDepth 100000 in
set_option maxHeartbeats 4000000 in
theorem mWrite_ok : SpecOk Try.prog 16 spWr := by
  refine spec_body (C := cxyd) mixed tbOk specsyd (callR_ok (C := cxyd) mixed tbOk specsyd FnsOk.nil ryd_ok 3) fnOk_mWrite ?_
  intro ys p r h hp
  unfold spWr at h
  split at h
  · rename_i m l
    cases h
    obtain ⟨hp1, hp2⟩ := hp
    by_cases hm : (mcL m).2 = 0
    · by_cases hl : wEL l = 0
      · have hml := mcL_zero hm
        have hll := wEL_zero hl
        conv => whnf
        repeat' first | ((first | refine auIk ?_ | refine auIi ?_ | refine auT ?_ | refine auF ?_ | with_reducible first | refine auKt ?_ | refine auKf ?_ | refine auNt ?_ | refine auNf ?_ | refine auEt ?_ | refine auEf ?_); conv => whnf) | ((with_reducible first | refine br_dec ?_ ?_ | refine br_ndec ?_ ?_ | refine br_ne ?_ ?_ | refine br_eq ?_ ?_) <;> intro h <;> first | (exfalso; omega) | conv => whnf) | (refine br_intro ?_ ?_ <;> intro h <;> conv => whnf) | ((first | refine auNd ?_ | refine idx_nat (by omega) (fun x hx => ?_) | refine frz_auto ?_ | refine draw_plain ?_ | refine auIx (fun x hx => ?_)); conv => whnf)
        refine loop_inv [] [9, 31] (fun vs h => ∃ (i g : Nat) (c : List pairT.El), vs = [.own 1 g c.length, .int .i64 (i : Int)] ∧ h = [.arr 50 pairT [] false 0, .arr 50 pairT c false g] ∧ i ≤ l.length ∧ c = (l.take i).foldl wr1 m ∧ ascP c ∧ c.length ≤ 4000 + i) (fun vs _ => match vs with | [_, .int _ k] => l.length - k.toNat | _ => 0) ?_
        conv => whnf
        refine ⟨⟨0, 0, m, rfl, rfl, Nat.zero_le _, rfl, hml.2.2, hml.1⟩, ?_⟩
        rintro vs h' - ⟨i, g, c, rfl, rfl, hi, hc, hac, hcl⟩
        have hl8 := hll.1
        have hc1 : c.length ≤ 100000 := by omega
        by_cases hil : i < l.length
        · obtain ⟨y, hy⟩ : ∃ y, l[i]? = some y := ⟨_, List.getElem?_eq_getElem hil⟩
          have hnx : (l.take (i + 1)).foldl wr1 m = wr1 c y := by rw [wr_take hy, ← hc]
          have hct : List.take c.length c = c := List.take_length
          have hle := lbP_le y.1 c
          have hac2 : ascP (wr1 c y) := chT_asc hac _ _
          have hcl2 : (wr1 c y).length ≤ 4000 + (i + 1) := by
            have : (wr1 c y).length ≤ c.length + 1 := chT_len _ _
            omega
          have hcut := ch_cut hac y.1 (wOf y)
          cases hk : lkV c y.1 with
          | none =>
            have hks : (lkV c y.1).isSome = false := by rw [hk]; rfl
            cases hd : y.2.2.1 with
            | true =>
              have hnd : (!y.2.2.1) = false := by rw [hd]; rfl
              have hw : wOf y = none := if_pos hd
              rw [hw, hks] at hcut
              conv => whnf
              repeat' first | ((first | refine auIk ?_ | refine auIi ?_ | refine auT ?_ | refine auF ?_ | with_reducible first | refine auKt ?_ | refine auKf ?_ | refine auNt ?_ | refine auNf ?_ | refine auEt ?_ | refine auEf ?_); conv => whnf) | ((with_reducible first | refine br_dec ?_ ?_ | refine br_ndec ?_ ?_ | refine br_ne ?_ ?_ | refine br_eq ?_ ?_) <;> intro h <;> first | (exfalso; omega) | conv => whnf) | (refine br_intro ?_ ?_ <;> intro h <;> conv => whnf) | ((first | refine auNd ?_ | refine idx_nat (by omega) (fun x hx => ?_) | refine frz_auto ?_ | refine draw_plain ?_ | refine auIx (fun x hx => ?_)); conv => whnf)
              rw [hct]
              repeat' first | ((first | refine auIk ?_ | refine auIi ?_ | refine auT ?_ | refine auF ?_ | with_reducible first | refine auKt ?_ | refine auKf ?_ | refine auNt ?_ | refine auNf ?_ | refine auEt ?_ | refine auEf ?_); conv => whnf) | ((with_reducible first | refine br_dec ?_ ?_ | refine br_ndec ?_ ?_ | refine br_ne ?_ ?_ | refine br_eq ?_ ?_) <;> intro h <;> first | (exfalso; omega) | conv => whnf) | (refine br_intro ?_ ?_ <;> intro h <;> conv => whnf) | ((first | refine auNd ?_ | refine idx_nat (by omega) (fun x hx => ?_) | refine frz_auto ?_ | refine draw_plain ?_ | refine auIx (fun x hx => ?_)); conv => whnf)
              refine back_intro (by conv => whnf) rfl ⟨i + 1, g, wr1 c y, yd_vs ?_ (by omega), yd_h ?_, by omega, hnx.symm, hac2, hcl2⟩ ?_
              all_goals first
                | (have e : wr1 c y = c := by
                     show chT c y.1 (wOf y) = c
                     rw [hw, hcut]
                     exact List.take_append_drop _ _
                   rw [e])
                | skip
              · show l.length - ((i : Int) + 1).toNat < l.length - (i : Int).toNat
                omega
            | false =>
              have hnd : (!y.2.2.1) = true := by rw [hd]; rfl
              have hw : wOf y = some y.2.1 := if_neg (by rw [hd]; decide)
              rw [hw, hks] at hcut
              conv => whnf
              repeat' first | ((first | refine auIk ?_ | refine auIi ?_ | refine auT ?_ | refine auF ?_ | with_reducible first | refine auKt ?_ | refine auKf ?_ | refine auNt ?_ | refine auNf ?_ | refine auEt ?_ | refine auEf ?_); conv => whnf) | ((with_reducible first | refine br_dec ?_ ?_ | refine br_ndec ?_ ?_ | refine br_ne ?_ ?_ | refine br_eq ?_ ?_) <;> intro h <;> first | (exfalso; omega) | conv => whnf) | (refine br_intro ?_ ?_ <;> intro h <;> conv => whnf) | ((first | refine auNd ?_ | refine idx_nat (by omega) (fun x hx => ?_) | refine frz_auto ?_ | refine draw_plain ?_ | refine auIx (fun x hx => ?_)); conv => whnf)
              rw [hct]
              repeat' first | ((first | refine auIk ?_ | refine auIi ?_ | refine auT ?_ | refine auF ?_ | with_reducible first | refine auKt ?_ | refine auKf ?_ | refine auNt ?_ | refine auNf ?_ | refine auEt ?_ | refine auEf ?_); conv => whnf) | ((with_reducible first | refine br_dec ?_ ?_ | refine br_ndec ?_ ?_ | refine br_ne ?_ ?_ | refine br_eq ?_ ?_) <;> intro h <;> first | (exfalso; omega) | conv => whnf) | (refine br_intro ?_ ?_ <;> intro h <;> conv => whnf) | ((first | refine auNd ?_ | refine idx_nat (by omega) (fun x hx => ?_) | refine frz_auto ?_ | refine draw_plain ?_ | refine auIx (fun x hx => ?_)); conv => whnf)
              refine back_intro (by conv => whnf) rfl ⟨i + 1, g + 1, wr1 c y, yd_vs ?_ (by omega), yd_h ?_, by omega, hnx.symm, hac2, hcl2⟩ ?_
              · have e : wr1 c y = c.take (lbP y.1 c) ++ ([mkP y.1 y.2.1] ++ c.drop (lbP y.1 c)) := by
                  show chT c y.1 (wOf y) = _
                  rw [hw, hcut]
                  rfl
                rw [e]
                simp only [List.length_append, List.length_take, List.length_drop, List.length_cons, List.length_nil]
                omega
              · show _ = chT c y.1 (wOf y)
                rw [hw, hcut, hct]
                rfl
              · show l.length - ((i : Int) + 1).toNat < l.length - (i : Int).toNat
                omega
          | some v =>
            have hks : (lkV c y.1).isSome = true := by rw [hk]; rfl
            have hat := lkV_at hac hk
            have hlt := (List.getElem?_eq_some_iff.1 hat).1
            cases hd : y.2.2.1 with
            | true =>
              have hnd : (!y.2.2.1) = false := by rw [hd]; rfl
              have hw : wOf y = none := if_pos hd
              rw [hw, hks] at hcut
              conv => whnf
              repeat' first | ((first | refine auIk ?_ | refine auIi ?_ | refine auT ?_ | refine auF ?_ | with_reducible first | refine auKt ?_ | refine auKf ?_ | refine auNt ?_ | refine auNf ?_ | refine auEt ?_ | refine auEf ?_); conv => whnf) | ((with_reducible first | refine br_dec ?_ ?_ | refine br_ndec ?_ ?_ | refine br_ne ?_ ?_ | refine br_eq ?_ ?_) <;> intro h <;> first | (exfalso; omega) | conv => whnf) | (refine br_intro ?_ ?_ <;> intro h <;> conv => whnf) | ((first | refine auNd ?_ | refine idx_nat (by omega) (fun x hx => ?_) | refine frz_auto ?_ | refine draw_plain ?_ | refine auIx (fun x hx => ?_)); conv => whnf)
              rw [hct]
              repeat' first | ((first | refine auIk ?_ | refine auIi ?_ | refine auT ?_ | refine auF ?_ | with_reducible first | refine auKt ?_ | refine auKf ?_ | refine auNt ?_ | refine auNf ?_ | refine auEt ?_ | refine auEf ?_); conv => whnf) | ((with_reducible first | refine br_dec ?_ ?_ | refine br_ndec ?_ ?_ | refine br_ne ?_ ?_ | refine br_eq ?_ ?_) <;> intro h <;> first | (exfalso; omega) | conv => whnf) | (refine br_intro ?_ ?_ <;> intro h <;> conv => whnf) | ((first | refine auNd ?_ | refine idx_nat (by omega) (fun x hx => ?_) | refine frz_auto ?_ | refine draw_plain ?_ | refine auIx (fun x hx => ?_)); conv => whnf)
              refine back_intro (by conv => whnf) rfl ⟨i + 1, g + 1, wr1 c y, yd_vs ?_ (by omega), yd_h ?_, by omega, hnx.symm, hac2, hcl2⟩ ?_
              · have e : wr1 c y = c.take (lbP y.1 c) ++ c.drop (lbP y.1 c + 1) := by
                  show chT c y.1 (wOf y) = _
                  rw [hw, hcut]
                  rfl
                rw [e]
                simp only [List.length_append, List.length_take, List.length_drop]
                omega
              · show _ = chT c y.1 (wOf y)
                rw [hw, hcut]
                exact yd_del hlt
              · show l.length - ((i : Int) + 1).toNat < l.length - (i : Int).toNat
                omega
            | false =>
              have hnd : (!y.2.2.1) = true := by rw [hd]; rfl
              have hw : wOf y = some y.2.1 := if_neg (by rw [hd]; decide)
              rw [hw, hks] at hcut
              conv => whnf
              repeat' first | ((first | refine auIk ?_ | refine auIi ?_ | refine auT ?_ | refine auF ?_ | with_reducible first | refine auKt ?_ | refine auKf ?_ | refine auNt ?_ | refine auNf ?_ | refine auEt ?_ | refine auEf ?_); conv => whnf) | ((with_reducible first | refine br_dec ?_ ?_ | refine br_ndec ?_ ?_ | refine br_ne ?_ ?_ | refine br_eq ?_ ?_) <;> intro h <;> first | (exfalso; omega) | conv => whnf) | (refine br_intro ?_ ?_ <;> intro h <;> conv => whnf) | ((first | refine auNd ?_ | refine idx_nat (by omega) (fun x hx => ?_) | refine frz_auto ?_ | refine draw_plain ?_ | refine auIx (fun x hx => ?_)); conv => whnf)
              rw [hct]
              repeat' first | ((first | refine auIk ?_ | refine auIi ?_ | refine auT ?_ | refine auF ?_ | with_reducible first | refine auKt ?_ | refine auKf ?_ | refine auNt ?_ | refine auNf ?_ | refine auEt ?_ | refine auEf ?_); conv => whnf) | ((with_reducible first | refine br_dec ?_ ?_ | refine br_ndec ?_ ?_ | refine br_ne ?_ ?_ | refine br_eq ?_ ?_) <;> intro h <;> first | (exfalso; omega) | conv => whnf) | (refine br_intro ?_ ?_ <;> intro h <;> conv => whnf) | ((first | refine auNd ?_ | refine idx_nat (by omega) (fun x hx => ?_) | refine frz_auto ?_ | refine draw_plain ?_ | refine auIx (fun x hx => ?_)); conv => whnf)
              refine back_intro (by conv => whnf) rfl ⟨i + 1, g + 1 + 1, wr1 c y, yd_vs ?_ (by omega), yd_h ?_, by omega, hnx.symm, hac2, hcl2⟩ ?_
              · have e : wr1 c y = c.take (lbP y.1 c) ++ ([mkP y.1 y.2.1] ++ c.drop (lbP y.1 c + 1)) := by
                  show chT c y.1 (wOf y) = _
                  rw [hw, hcut]
                  rfl
                rw [e]
                simp only [List.length_append, List.length_take, List.length_drop, List.length_cons, List.length_nil]
                omega
              · show _ = chT c y.1 (wOf y)
                rw [hw, hcut]
                exact yd_ins hlt
              · show l.length - ((i : Int) + 1).toNat < l.length - (i : Int).toNat
                omega
        · conv => whnf
          repeat' first | ((first | refine auIk ?_ | refine auIi ?_ | refine auT ?_ | refine auF ?_ | with_reducible first | refine auKt ?_ | refine auKf ?_ | refine auNt ?_ | refine auNf ?_ | refine auEt ?_ | refine auEf ?_); conv => whnf) | ((with_reducible first | refine br_dec ?_ ?_ | refine br_ndec ?_ ?_ | refine br_ne ?_ ?_ | refine br_eq ?_ ?_) <;> intro h <;> first | (exfalso; omega) | conv => whnf) | (refine br_intro ?_ ?_ <;> intro h <;> conv => whnf) | ((first | refine auNd ?_ | refine idx_nat (by omega) (fun x hx => ?_) | refine frz_auto ?_ | refine draw_plain ?_ | refine auIx (fun x hx => ?_)); conv => whnf)
          · rw [List.take_of_length_le (by omega)] at hc
            refine wr_tup (r := ([], 5)) ?_
            rw [wr_fin hm hl, ← hc, if_pos h]
          · rw [List.take_of_length_le (by omega)] at hc
            rw [List.take_length]
            refine wr_tup (r := (c, 0)) ?_
            rw [wr_fin hm hl, ← hc, if_neg h]
      · conv => whnf
        repeat' first | ((first | refine auIk ?_ | refine auIi ?_ | refine auT ?_ | refine auF ?_ | with_reducible first | refine auKt ?_ | refine auKf ?_ | refine auNt ?_ | refine auNf ?_ | refine auEt ?_ | refine auEf ?_); conv => whnf) | ((with_reducible first | refine br_dec ?_ ?_ | refine br_ndec ?_ ?_ | refine br_ne ?_ ?_ | refine br_eq ?_ ?_) <;> intro h <;> first | (exfalso; omega) | conv => whnf) | (refine br_intro ?_ ?_ <;> intro h <;> conv => whnf) | ((first | refine auNd ?_ | refine idx_nat (by omega) (fun x hx => ?_) | refine frz_auto ?_ | refine draw_plain ?_ | refine auIx (fun x hx => ?_)); conv => whnf)
        all_goals exact wr_tup (wr_l hm hl)
    · conv => whnf
      repeat' first | ((first | refine auIk ?_ | refine auIi ?_ | refine auT ?_ | refine auF ?_ | with_reducible first | refine auKt ?_ | refine auKf ?_ | refine auNt ?_ | refine auNf ?_ | refine auEt ?_ | refine auEf ?_); conv => whnf) | ((with_reducible first | refine br_dec ?_ ?_ | refine br_ndec ?_ ?_ | refine br_ne ?_ ?_ | refine br_eq ?_ ?_) <;> intro h <;> first | (exfalso; omega) | conv => whnf) | (refine br_intro ?_ ?_ <;> intro h <;> conv => whnf) | ((first | refine auNd ?_ | refine idx_nat (by omega) (fun x hx => ?_) | refine frz_auto ?_ | refine draw_plain ?_ | refine auIx (fun x hx => ?_)); conv => whnf)
      all_goals exact wr_tup (wr_m hm)
  · cases h
end Go.Proofs.Ytbbklijmnknmhaa
