/-
  Differences applied to a map, by the reference.
  The laws of views and of checks.
  From a law's contract to its row: every argument reads behind the call as it read before.
-/
import Derived.Test.YtdbnohpolknbbaaGreatE3
import Derived.Test.YtdbnohpolknbbaaGreatUe
import Derived.Test.YtdbnohpolknbbaaGreatIa
import Derived.Test.YtdbnohpolknbbaaGreatUu
import Derived.Test.YtdbnohpolknbbaaGreatRows
import Derived.Test.YtdbnohpolknbbaaGreatLl
import Derived.Test.YtdbnohpolknbbaaGreatE5
import Derived.ProofKit
namespace Go.Proofs.YtdbnohpolknbbaaGreat
open Av Bk

set_option maxRecDepth 100000 in
theorem fnOk_rPlace : FnOk Tryz.prog 111 Tryz.f111 := ⟨by rfl, by kernel_rfl, by
  show okCode _ _ = true ∧ drawsOk _ = true
  exact ⟨by kernel_rfl, by kernel_rfl⟩⟩
set_option maxRecDepth 100000 in
theorem fnOk_rAsked : FnOk Tryz.prog 110 Tryz.f110 := ⟨by rfl, by kernel_rfl, by
  show okCode _ _ = true ∧ drawsOk _ = true
  exact ⟨by kernel_rfl, by kernel_rfl⟩⟩
set_option maxRecDepth 100000 in
theorem fnOk_rCeil : FnOk Tryz.prog 94 Tryz.f94 := ⟨by rfl, by kernel_rfl, by
  show okCode _ _ = true ∧ drawsOk _ = true
  exact ⟨by kernel_rfl, by kernel_rfl⟩⟩
set_option maxRecDepth 100000 in
theorem fnOk_rGet : FnOk Tryz.prog 67 Tryz.f67 := ⟨by rfl, by kernel_rfl, by
  show okCode _ _ = true ∧ drawsOk _ = true
  exact ⟨by kernel_rfl, by kernel_rfl⟩⟩
set_option maxRecDepth 100000 in
theorem fnOk_rFits : FnOk Tryz.prog 52 Tryz.f52 := ⟨by rfl, by kernel_rfl, by
  show okCode _ _ = true ∧ drawsOk _ = true
  exact ⟨by kernel_rfl, by kernel_rfl⟩⟩
set_option maxRecDepth 100000 in
theorem fnOk_rApply : FnOk Tryz.prog 25 Tryz.f25 := ⟨by rfl, by kernel_rfl, by
  show okCode _ _ = true ∧ drawsOk _ = true
  exact ⟨by kernel_rfl, by kernel_rfl⟩⟩
def spPl : DSpec
  | [.lst (.st [.str, .str]) m, .str k] => some (m.length ≤ 4611686018427387904, .int .i64 (lbP k m))
  | _ => none
set_option maxRecDepth 100000 in
set_option maxHeartbeats 4000000 in
theorem rPlace_ok : SpecOk Tryz.prog 111 spPl := by
  refine spec_body (C := cx0) mixed tbOk SpecsOk.nil (callN_ok (C := cx0) mixed tbOk SpecsOk.nil FnsOk.nil 0) fnOk_rPlace ?_
  intro ys p r h hp
  unfold spPl at h
  split at h
  · rename_i m k
    cases h
    conv => whnf
    repeat' first
      | ((first | refine auIk ?_ | refine auIi ?_ | refine auT ?_ | refine auF ?_ | with_reducible first | refine auKt ?_ | refine auKf ?_ | refine auNt ?_ | refine auNf ?_ | refine auEt ?_ | refine auEf ?_); conv => whnf)
      | ((with_reducible first | refine br_dec (fun h => ?_) (fun h => ?_) | refine br_ndec (fun h => ?_) (fun h => ?_) | refine br_ne (fun h => ?_) (fun h => ?_) | refine br_eq (fun h => ?_) (fun h => ?_)) <;> first | (exfalso; omega) | conv => whnf)
      | (refine br_intro (fun h => ?_) (fun h => ?_) <;> conv => whnf)
      | ((first | refine auNd ?_ | refine idx_nat (by omega) (fun x hx => ?_) | refine frz_auto ?_ | refine draw_plain ?_ | refine auIx (fun x hx => ?_)); conv => whnf)
    refine loop_inv [] [5] (fun vs h => ∃ i : Nat, vs = [.int .i64 (i : Int)] ∧ h = [] ∧ i ≤ m.length ∧ ∀ p ∈ m.take i, sLt p.1 k = true) (fun vs _ => match vs with | [.int _ k] => m.length - k.toNat | _ => 0) ?_
    conv => whnf
    refine ⟨⟨0, rfl, rfl, Nat.zero_le _, by simp⟩, ?_⟩
    rintro vs h' - ⟨i, rfl, rfl, hi, hall⟩
    by_cases hil : i < m.length
    · obtain ⟨y, hy⟩ : ∃ y, m[i]? = some y := ⟨_, List.getElem?_eq_getElem hil⟩
      by_cases hyn : sLt y.1 k = true
      · conv => whnf
        repeat' first
          | ((first | refine auIk ?_ | refine auIi ?_ | refine auT ?_ | refine auF ?_ | with_reducible first | refine auKt ?_ | refine auKf ?_ | refine auNt ?_ | refine auNf ?_ | refine auEt ?_ | refine auEf ?_); conv => whnf)
          | ((with_reducible first | refine br_dec (fun h => ?_) (fun h => ?_) | refine br_ndec (fun h => ?_) (fun h => ?_) | refine br_ne (fun h => ?_) (fun h => ?_) | refine br_eq (fun h => ?_) (fun h => ?_)) <;> first | (exfalso; omega) | conv => whnf)
          | (refine br_intro (fun h => ?_) (fun h => ?_) <;> conv => whnf)
          | ((first | refine auNd ?_ | refine idx_nat (by omega) (fun x hx => ?_) | refine frz_auto ?_ | refine draw_plain ?_ | refine auIx (fun x hx => ?_)); conv => whnf)
        refine back_intro (by conv => whnf) rfl ⟨i + 1, rfl, rfl, by omega, fun z hz => ?_⟩ ?_
        · rw [List.take_add_one, hy] at hz
          rcases List.mem_append.1 hz with hz | hz
          · exact hall z hz
          · have : z = y := by simpa using hz
            rw [this]; exact hyn
        · show m.length - ((i : Int) + 1).toNat < m.length - (i : Int).toNat
          omega
      · have hyn : sLt y.1 k = false := by simpa using hyn
        conv => whnf
        repeat' first
          | ((first | refine auIk ?_ | refine auIi ?_ | refine auT ?_ | refine auF ?_ | with_reducible first | refine auKt ?_ | refine auKf ?_ | refine auNt ?_ | refine auNf ?_ | refine auEt ?_ | refine auEf ?_); conv => whnf)
          | ((with_reducible first | refine br_dec (fun h => ?_) (fun h => ?_) | refine br_ndec (fun h => ?_) (fun h => ?_) | refine br_ne (fun h => ?_) (fun h => ?_) | refine br_eq (fun h => ?_) (fun h => ?_)) <;> first | (exfalso; omega) | conv => whnf)
          | (refine br_intro (fun h => ?_) (fun h => ?_) <;> conv => whnf)
          | ((first | refine auNd ?_ | refine idx_nat (by omega) (fun x hx => ?_) | refine frz_auto ?_ | refine draw_plain ?_ | refine auIx (fun x hx => ?_)); conv => whnf)
        rw [lbP_at hall hi (.inr ⟨y, hy, hyn⟩)]
    · conv => whnf
      repeat' first
        | ((first | refine auIk ?_ | refine auIi ?_ | refine auT ?_ | refine auF ?_ | with_reducible first | refine auKt ?_ | refine auKf ?_ | refine auNt ?_ | refine auNf ?_ | refine auEt ?_ | refine auEf ?_); conv => whnf)
        | ((with_reducible first | refine br_dec (fun h => ?_) (fun h => ?_) | refine br_ndec (fun h => ?_) (fun h => ?_) | refine br_ne (fun h => ?_) (fun h => ?_) | refine br_eq (fun h => ?_) (fun h => ?_)) <;> first | (exfalso; omega) | conv => whnf)
        | (refine br_intro (fun h => ?_) (fun h => ?_) <;> conv => whnf)
        | ((first | refine auNd ?_ | refine idx_nat (by omega) (fun x hx => ?_) | refine frz_auto ?_ | refine draw_plain ?_ | refine auIx (fun x hx => ?_)); conv => whnf)
      rw [lbP_at hall hi (.inl (by omega))]
  · cases h
def spAsk5 : DSpec
  | [.lst (.st [.str, .str]) m, .str k] => some ((mcL m).2 = 0 ∧ k.size ≤ 32, .int .i64 0)
  | _ => none
noncomputable def cxus : Cx := ⟨tb, [], [(35, spMC)]⟩
theorem specsus : SpecsOk Tryz.prog cxus.specs := .cons r05Check_ok .nil
set_option maxRecDepth 100000 in
set_option maxHeartbeats 4000000 in
theorem rAsked_ok : SpecOk Tryz.prog 110 spAsk5 := by
  refine spec_body (C := cxus) mixed tbOk specsus (callN_ok (C := cxus) mixed tbOk specsus FnsOk.nil 0) fnOk_rAsked ?_
  intro ys p r h hp
  unfold spAsk5 at h
  split at h
  · rename_i m k
    cases h
    obtain ⟨hm, hk⟩ := hp
    have hl := mcL_len hm
    have hk2 : ¬ (32 < (k.size : Int)) := by omega
    conv => whnf
    repeat' first
      | ((first | refine auIk ?_ | refine auIi ?_ | refine auT ?_ | refine auF ?_ | with_reducible first | refine auKt ?_ | refine auKf ?_ | refine auNt ?_ | refine auNf ?_ | refine auEt ?_ | refine auEf ?_); conv => whnf)
      | ((with_reducible first | refine br_dec (fun h => ?_) (fun h => ?_) | refine br_ndec (fun h => ?_) (fun h => ?_) | refine br_ne (fun h => ?_) (fun h => ?_) | refine br_eq (fun h => ?_) (fun h => ?_)) <;> first | (exfalso; omega) | conv => whnf)
      | (refine br_intro (fun h => ?_) (fun h => ?_) <;> conv => whnf)
      | ((first | refine auNd ?_ | refine idx_nat (by omega) (fun x hx => ?_) | refine frz_auto ?_ | refine draw_plain ?_ | refine auIx (fun x hx => ?_)); conv => whnf)
    all_goals (try rw [hm])
  · cases h
def ceP (m : List pairT.El) (k : ByteArray) : pairT.El := (m[lbP k m]?).getD (mkP ⟨#[]⟩ ⟨#[]⟩)
def spCe : DSpec
  | [.lst (.st [.str, .str]) m, .str k] => some ((mcL m).2 = 0 ∧ k.size ≤ 32, .tup [.agg [.str (ceP m k).1, .str (ceP m k).2.1], .int .i64 (if lbP k m < m.length then 0 else 4)])
  | _ => none
noncomputable def cxus2 : Cx := ⟨tb, [], [(110, spAsk5), (111, spPl)]⟩
theorem specsus2 : SpecsOk Tryz.prog cxus2.specs := .cons rAsked_ok (.cons rPlace_ok .nil)
set_option maxRecDepth 100000 in
set_option maxHeartbeats 4000000 in
theorem rCeil_ok : SpecOk Tryz.prog 94 spCe := by
  refine spec_body (C := cxus2) mixed tbOk specsus2 (callN_ok (C := cxus2) mixed tbOk specsus2 FnsOk.nil 0) fnOk_rCeil ?_
  intro ys p r h hp
  unfold spCe at h
  split at h
  · rename_i m k
    cases h
    obtain ⟨hm, hk⟩ := hp
    have hl := mcL_len hm
    have hle := lbP_le k m
    by_cases hlt : lbP k m < m.length
    · obtain ⟨y, hy⟩ : ∃ y, m[lbP k m]? = some y := ⟨_, List.getElem?_eq_getElem hlt⟩
      have hc : ceP m k = y := by unfold ceP; rw [hy]; rfl
      conv => whnf
      repeat' first
        | ((first | refine auIk ?_ | refine auIi ?_ | refine auT ?_ | refine auF ?_ | with_reducible first | refine auKt ?_ | refine auKf ?_ | refine auNt ?_ | refine auNf ?_ | refine auEt ?_ | refine auEf ?_); conv => whnf)
        | ((with_reducible first | refine br_dec (fun h => ?_) (fun h => ?_) | refine br_ndec (fun h => ?_) (fun h => ?_) | refine br_ne (fun h => ?_) (fun h => ?_) | refine br_eq (fun h => ?_) (fun h => ?_)) <;> first | (exfalso; omega) | conv => whnf)
        | (refine br_intro (fun h => ?_) (fun h => ?_) <;> conv => whnf)
        | ((first | refine auNd ?_ | refine idx_nat (by omega) (fun x hx => ?_) | refine frz_auto ?_ | refine draw_plain ?_ | refine auIx (fun x hx => ?_)); conv => whnf)
      rw [hc, if_pos hlt]
    · have hc : ceP m k = mkP ⟨#[]⟩ ⟨#[]⟩ := by unfold ceP; rw [List.getElem?_eq_none (by omega)]; rfl
      conv => whnf
      repeat' first
        | ((first | refine auIk ?_ | refine auIi ?_ | refine auT ?_ | refine auF ?_ | with_reducible first | refine auKt ?_ | refine auKf ?_ | refine auNt ?_ | refine auNf ?_ | refine auEt ?_ | refine auEf ?_); conv => whnf)
        | ((with_reducible first | refine br_dec (fun h => ?_) (fun h => ?_) | refine br_ndec (fun h => ?_) (fun h => ?_) | refine br_ne (fun h => ?_) (fun h => ?_) | refine br_eq (fun h => ?_) (fun h => ?_)) <;> first | (exfalso; omega) | conv => whnf)
        | (refine br_intro (fun h => ?_) (fun h => ?_) <;> conv => whnf)
        | ((first | refine auNd ?_ | refine idx_nat (by omega) (fun x hx => ?_) | refine frz_auto ?_ | refine draw_plain ?_ | refine auIx (fun x hx => ?_)); conv => whnf)
      rw [hc, if_neg hlt]
  · cases h
def spGe : DSpec
  | [.lst (.st [.str, .str]) m, .str k] => some ((mcL m).2 = 0 ∧ k.size ≤ 32, .tup [.str ((lkV m k).getD ⟨#[]⟩), .int .i64 (if (lkV m k).isSome = true then 0 else 4)])
  | _ => none
noncomputable def cxus3 : Cx := ⟨tb, [], [(94, spCe)]⟩
theorem specsus3 : SpecsOk Tryz.prog cxus3.specs := .cons rCeil_ok .nil
set_option maxRecDepth 100000 in
set_option maxHeartbeats 4000000 in
theorem rGet_ok : SpecOk Tryz.prog 67 spGe := by
  refine spec_body (C := cxus3) mixed tbOk specsus3 (callN_ok (C := cxus3) mixed tbOk specsus3 FnsOk.nil 0) fnOk_rGet ?_
  intro ys p r h hp
  unfold spGe at h
  split at h
  · rename_i m k
    cases h
    obtain ⟨hm, hk⟩ := hp
    have hlb := lkV_lb (mcL_zero hm).2.2 k
    by_cases hlt : lbP k m < m.length
    · obtain ⟨y, hy⟩ : ∃ y, m[lbP k m]? = some y := ⟨_, List.getElem?_eq_getElem hlt⟩
      have hc : ceP m k = y := by unfold ceP; rw [hy]; rfl
      have he : (if lbP k m < m.length then (0 : Int) else 4) = 0 := if_pos hlt
      rw [hy] at hlb
      conv => whnf
      repeat' first
        | ((first | refine auIk ?_ | refine auIi ?_ | refine auT ?_ | refine auF ?_ | with_reducible first | refine auKt ?_ | refine auKf ?_ | refine auNt ?_ | refine auNf ?_ | refine auEt ?_ | refine auEf ?_); conv => whnf)
        | ((with_reducible first | refine br_dec (fun h => ?_) (fun h => ?_) | refine br_ndec (fun h => ?_) (fun h => ?_) | refine br_ne (fun h => ?_) (fun h => ?_) | refine br_eq (fun h => ?_) (fun h => ?_)) <;> first | (exfalso; omega) | conv => whnf)
        | (refine br_intro (fun h => ?_) (fun h => ?_) <;> conv => whnf)
        | ((first | refine auNd ?_ | refine idx_nat (by omega) (fun x hx => ?_) | refine frz_auto ?_ | refine draw_plain ?_ | refine auIx (fun x hx => ?_)); conv => whnf)
      · rw [hc] at h
        have hn : ¬ sEq y.1 k = true := by simpa using h
        rw [hlb]
        simp only [if_neg hn]
        rfl
      · rw [hc] at h ⊢
        have hn : sEq y.1 k = true := by simpa using h
        rw [hlb]
        simp only [if_pos hn]
        rfl
    · have hc : ceP m k = mkP ⟨#[]⟩ ⟨#[]⟩ := by unfold ceP; rw [List.getElem?_eq_none (by omega)]; rfl
      have he : (if lbP k m < m.length then (0 : Int) else 4) = 4 := if_neg hlt
      rw [List.getElem?_eq_none (by omega)] at hlb
      conv => whnf
      repeat' first
        | ((first | refine auIk ?_ | refine auIi ?_ | refine auT ?_ | refine auF ?_ | with_reducible first | refine auKt ?_ | refine auKf ?_ | refine auNt ?_ | refine auNf ?_ | refine auEt ?_ | refine auEf ?_); conv => whnf)
        | ((with_reducible first | refine br_dec (fun h => ?_) (fun h => ?_) | refine br_ndec (fun h => ?_) (fun h => ?_) | refine br_ne (fun h => ?_) (fun h => ?_) | refine br_eq (fun h => ?_) (fun h => ?_)) <;> first | (exfalso; omega) | conv => whnf)
        | (refine br_intro (fun h => ?_) (fun h => ?_) <;> conv => whnf)
        | ((first | refine auNd ?_ | refine idx_nat (by omega) (fun x hx => ?_) | refine frz_auto ?_ | refine draw_plain ?_ | refine auIx (fun x hx => ?_)); conv => whnf)
      rw [he, hlb]
      rfl
  · cases h
def spFt : DSpec
  | [.lst (.st [.str, .str]) m, .agg [.int .i64 k, .str key, .str old, .str new]] => some ((mcL m).2 = 0 ∧ key.size ≤ 32, .int .i64 (fitE m (mkI k key old new)))
  | _ => none
noncomputable def cxus4 : Cx := ⟨tb, [], [(67, spGe)]⟩
theorem specsus4 : SpecsOk Tryz.prog cxus4.specs := .cons rGet_ok .nil
set_option maxRecDepth 100000 in
set_option maxHeartbeats 4000000 in
theorem rFits_ok : SpecOk Tryz.prog 52 spFt := by
  refine spec_body (C := cxus4) mixed tbOk specsus4 (callN_ok (C := cxus4) mixed tbOk specsus4 FnsOk.nil 0) fnOk_rFits ?_
  intro ys p r h hp
  unfold spFt at h
  split at h
  · rename_i m k key old new
    cases h
    obtain ⟨hm, hk⟩ := hp
    by_cases h1 : k = 1
    · have hf : fitE m (mkI k key old new) = if (lkV m key).isSome = true then 8 else 0 := by unfold fitE; exact if_pos h1
      cases hv : lkV m key with
      | none =>
        have he : (if (lkV m key).isSome = true then (0 : Int) else 4) = 4 := by rw [hv]; rfl
        conv => whnf
        repeat' first
          | ((first | refine auIk ?_ | refine auIi ?_ | refine auT ?_ | refine auF ?_ | with_reducible first | refine auKt ?_ | refine auKf ?_ | refine auNt ?_ | refine auNf ?_ | refine auEt ?_ | refine auEf ?_); conv => whnf)
          | ((with_reducible first | refine br_dec (fun h => ?_) (fun h => ?_) | refine br_ndec (fun h => ?_) (fun h => ?_) | refine br_ne (fun h => ?_) (fun h => ?_) | refine br_eq (fun h => ?_) (fun h => ?_)) <;> first | (exfalso; omega) | conv => whnf)
          | (refine br_intro (fun h => ?_) (fun h => ?_) <;> conv => whnf)
          | ((first | refine auNd ?_ | refine idx_nat (by omega) (fun x hx => ?_) | refine frz_auto ?_ | refine draw_plain ?_ | refine auIx (fun x hx => ?_)); conv => whnf)
        rw [hf, hv]; rfl
      | some v =>
        have he : (if (lkV m key).isSome = true then (0 : Int) else 4) = 0 := by rw [hv]; rfl
        conv => whnf
        repeat' first
          | ((first | refine auIk ?_ | refine auIi ?_ | refine auT ?_ | refine auF ?_ | with_reducible first | refine auKt ?_ | refine auKf ?_ | refine auNt ?_ | refine auNf ?_ | refine auEt ?_ | refine auEf ?_); conv => whnf)
          | ((with_reducible first | refine br_dec (fun h => ?_) (fun h => ?_) | refine br_ndec (fun h => ?_) (fun h => ?_) | refine br_ne (fun h => ?_) (fun h => ?_) | refine br_eq (fun h => ?_) (fun h => ?_)) <;> first | (exfalso; omega) | conv => whnf)
          | (refine br_intro (fun h => ?_) (fun h => ?_) <;> conv => whnf)
          | ((first | refine auNd ?_ | refine idx_nat (by omega) (fun x hx => ?_) | refine frz_auto ?_ | refine draw_plain ?_ | refine auIx (fun x hx => ?_)); conv => whnf)
        rw [hf, hv]; rfl
    · have hf : fitE m (mkI k key old new) = match lkV m key with | none => 4 | some v => if sEq v old = true then 0 else 6 := by unfold fitE; exact if_neg h1
      cases hv : lkV m key with
      | none =>
        have he : (if (lkV m key).isSome = true then (0 : Int) else 4) = 4 := by rw [hv]; rfl
        conv => whnf
        repeat' first
          | ((first | refine auIk ?_ | refine auIi ?_ | refine auT ?_ | refine auF ?_ | with_reducible first | refine auKt ?_ | refine auKf ?_ | refine auNt ?_ | refine auNf ?_ | refine auEt ?_ | refine auEf ?_); conv => whnf)
          | ((with_reducible first | refine br_dec (fun h => ?_) (fun h => ?_) | refine br_ndec (fun h => ?_) (fun h => ?_) | refine br_ne (fun h => ?_) (fun h => ?_) | refine br_eq (fun h => ?_) (fun h => ?_)) <;> first | (exfalso; omega) | conv => whnf)
          | (refine br_intro (fun h => ?_) (fun h => ?_) <;> conv => whnf)
          | ((first | refine auNd ?_ | refine idx_nat (by omega) (fun x hx => ?_) | refine frz_auto ?_ | refine draw_plain ?_ | refine auIx (fun x hx => ?_)); conv => whnf)
        rw [hf, hv]
      | some v =>
        have he : (if (lkV m key).isSome = true then (0 : Int) else 4) = 0 := by rw [hv]; rfl
        conv => whnf
        repeat' first
          | ((first | refine auIk ?_ | refine auIi ?_ | refine auT ?_ | refine auF ?_ | with_reducible first | refine auKt ?_ | refine auKf ?_ | refine auNt ?_ | refine auNf ?_ | refine auEt ?_ | refine auEf ?_); conv => whnf)
          | ((with_reducible first | refine br_dec (fun h => ?_) (fun h => ?_) | refine br_ndec (fun h => ?_) (fun h => ?_) | refine br_ne (fun h => ?_) (fun h => ?_) | refine br_eq (fun h => ?_) (fun h => ?_)) <;> first | (exfalso; omega) | conv => whnf)
          | (refine br_intro (fun h => ?_) (fun h => ?_) <;> conv => whnf)
          | ((first | refine auNd ?_ | refine idx_nat (by omega) (fun x hx => ?_) | refine frz_auto ?_ | refine draw_plain ?_ | refine auIx (fun x hx => ?_)); conv => whnf)
        · rw [hv] at h
          have hn : ¬ sEq v old = true := by simpa using h
          rw [hf, hv]
          simp only [if_neg hn]
        · rw [hv] at h
          have hn : sEq v old = true := by simpa using h
          rw [hf, hv]
          simp only [if_pos hn]
  · cases h
noncomputable def cxus5 : Cx := ⟨tb, [], [(35, spMC), (23, spIC), (52, spFt)]⟩
theorem specsus5 : SpecsOk Tryz.prog cxus5.specs := .cons r05Check_ok (.cons rIC_ok (.cons rFits_ok .nil))
def spAp28 : DSpec
  | [.lst (.st [.str, .str]) m, .lst (.st [.int .i64, .str, .str, .str]) l] => some (m.length ≤ 4611686018427387904 ∧ l.length ≤ 4611686018427387904, .tup [.lst pairT (apR m l).1, .int .i64 (apR m l).2.1, .int .i64 (apR m l).2.2])
  | _ => none
theorem mg_vs {a a2 : List pairT.El} {b b2 : List itemT.El} {g n n2 : Nat} (h1 : a = a2) (h2 : b = b2) (h3 : n = n2) : [AV.lst pairT a, .lst itemT b, .own 1 g n] = [AV.lst pairT a2, .lst itemT b2, .own 1 g n2] := by rw [h1, h2, h3]
theorem mg_heap {a : AObj} {T : TypeId} {g : Nat} {l m : List pairT.El} (h : l = m) : [a, .arr T pairT l false g] = [a, AObj.arr T pairT m false g] := by rw [h]
theorem apR_misfit {m : List pairT.El} {l : List itemT.El} (hm : (mcL m).2 = 0) (hl : (icL l).2 = 0) {j : Nat} {y : itemT.El} (hy : l[j]? = some y) (hf : ∀ z ∈ l.take j, fitE m z = 0) (he : fitE m y ≠ 0) :
    AV.tup [.lst pairT [], .int .i64 (j : Int), .int .i64 (fitE m y)] = AV.tup [.lst pairT (apR m l).1, .int .i64 (apR m l).2.1, .int .i64 (apR m l).2.2] := by
  rw [ap_take hm hl, ap_first (mcL_zero hm).2.2 (icL_zero hl).2.2 hy hf he, if_pos he]
  simp
theorem apR_fit {m : List pairT.El} {l : List itemT.El} (hm : (mcL m).2 = 0) (hl : (icL l).2 = 0) (hf : ∀ z ∈ l, fitE m z = 0) : apR m l = if 4000 < ((mgG [] m l).length : Int) then ([], -1, 5) else (mgG [] m l, 0, 0) := by
  rw [ap_take hm hl, ap_all (mcL_zero hm).2.2 (icL_zero hl).2.2 hf, if_neg (by simp), mg_fold _ [] m l (Nat.le_refl _) (mcL_zero hm).2.2 (icL_zero hl).2.2]
  rfl
theorem putI_2 {a b c : ByteArray} : putI (mkI 2 a b c) = [] := by unfold putI; rw [af_2]
theorem putI_n {k : Int} {a b c : ByteArray} (h : k ≠ 2) : putI (mkI k a b c) = [mkP a c] := by
  have : afO (mkI k a b c) = some c := if_neg h
  unfold putI
  rw [this]
set_option maxRecDepth 100000 in
set_option maxHeartbeats 4000000 in
theorem rApply_ok : SpecOk Tryz.prog 25 spAp28 := by
  refine spec_body (C := cxus5) mixed tbOk specsus5 (callN_ok (C := cxus5) mixed tbOk specsus5 FnsOk.nil 0) fnOk_rApply ?_
  intro ys p r h hp
  unfold spAp28 at h
  split at h
  · rename_i m l
    cases h
    obtain ⟨hp1, hp2⟩ := hp
    by_cases hm : (mcL m).2 = 0
    · by_cases hl : (icL l).2 = 0
      · have hml := mcL_zero hm
        have hll := icL_zero hl
        conv => whnf
        repeat' first
          | ((first | refine auIk ?_ | refine auIi ?_ | refine auT ?_ | refine auF ?_ | with_reducible first | refine auKt ?_ | refine auKf ?_ | refine auNt ?_ | refine auNf ?_ | refine auEt ?_ | refine auEf ?_); conv => whnf)
          | ((with_reducible first | refine br_dec (fun h => ?_) (fun h => ?_) | refine br_ndec (fun h => ?_) (fun h => ?_) | refine br_ne (fun h => ?_) (fun h => ?_) | refine br_eq (fun h => ?_) (fun h => ?_)) <;> first | (exfalso; omega) | conv => whnf)
          | (refine br_intro (fun h => ?_) (fun h => ?_) <;> conv => whnf)
          | ((first | refine auNd ?_ | refine idx_nat (by omega) (fun x hx => ?_) | refine frz_auto ?_ | refine draw_plain ?_ | refine auIx (fun x hx => ?_)); conv => whnf)
        refine loop_inv [] [10] (fun vs h => ∃ i : Nat, vs = [.int .i64 (i : Int)] ∧ h = [.arr 60 pairT [] false 0] ∧ i ≤ l.length ∧ ∀ z ∈ l.take i, fitE m z = 0) (fun vs _ => match vs with | [.int _ k] => l.length - k.toNat | _ => 0) ?_
        conv => whnf
        refine ⟨⟨0, rfl, rfl, Nat.zero_le _, by simp⟩, ?_⟩
        rintro vs h' - ⟨i, rfl, rfl, hi, hall⟩
        by_cases hil : i < l.length
        · obtain ⟨y, hy⟩ : ∃ y, l[i]? = some y := ⟨_, List.getElem?_eq_getElem hil⟩
          have hks := itE_key (hll.2.1 y (List.mem_of_getElem? hy))
          have hks2 : ByteArray.size y.2.1 ≤ 32 := hks
          by_cases hf : fitE m y = 0
          · have hf2 : fitE m (mkI y.1 y.2.1 y.2.2.1 y.2.2.2.1) = 0 := hf
            conv => whnf
            repeat' first
              | ((first | refine auIk ?_ | refine auIi ?_ | refine auT ?_ | refine auF ?_ | with_reducible first | refine auKt ?_ | refine auKf ?_ | refine auNt ?_ | refine auNf ?_ | refine auEt ?_ | refine auEf ?_); conv => whnf)
              | ((with_reducible first | refine br_dec (fun h => ?_) (fun h => ?_) | refine br_ndec (fun h => ?_) (fun h => ?_) | refine br_ne (fun h => ?_) (fun h => ?_) | refine br_eq (fun h => ?_) (fun h => ?_)) <;> first | (exfalso; omega) | conv => whnf)
              | (refine br_intro (fun h => ?_) (fun h => ?_) <;> conv => whnf)
              | ((first | refine auNd ?_ | refine idx_nat (by omega) (fun x hx => ?_) | refine frz_auto ?_ | refine draw_plain ?_ | refine auIx (fun x hx => ?_)); conv => whnf)
            refine back_intro (by conv => whnf) rfl ⟨i + 1, rfl, rfl, by omega, fun z hz => ?_⟩ ?_
            · rw [List.take_add_one, hy] at hz
              rcases List.mem_append.1 hz with hz | hz
              · exact hall z hz
              · have : z = y := by simpa using hz
                rw [this]; exact hf
            · show l.length - ((i : Int) + 1).toNat < l.length - (i : Int).toNat
              omega
          · have hf2 : ¬ fitE m (mkI y.1 y.2.1 y.2.2.1 y.2.2.2.1) = 0 := hf
            conv => whnf
            repeat' first
              | ((first | refine auIk ?_ | refine auIi ?_ | refine auT ?_ | refine auF ?_ | with_reducible first | refine auKt ?_ | refine auKf ?_ | refine auNt ?_ | refine auNf ?_ | refine auEt ?_ | refine auEf ?_); conv => whnf)
              | ((with_reducible first | refine br_dec (fun h => ?_) (fun h => ?_) | refine br_ndec (fun h => ?_) (fun h => ?_) | refine br_ne (fun h => ?_) (fun h => ?_) | refine br_eq (fun h => ?_) (fun h => ?_)) <;> first | (exfalso; omega) | conv => whnf)
              | (refine br_intro (fun h => ?_) (fun h => ?_) <;> conv => whnf)
              | ((first | refine auNd ?_ | refine idx_nat (by omega) (fun x hx => ?_) | refine frz_auto ?_ | refine draw_plain ?_ | refine auIx (fun x hx => ?_)); conv => whnf)
            exact apR_misfit hm hl hy hall hf
        · rw [List.take_of_length_le (by omega)] at hall
          have hap := apR_fit hm hl hall
          conv => whnf
          repeat' first
            | ((first | refine auIk ?_ | refine auIi ?_ | refine auT ?_ | refine auF ?_ | with_reducible first | refine auKt ?_ | refine auKf ?_ | refine auNt ?_ | refine auNf ?_ | refine auEt ?_ | refine auEf ?_); conv => whnf)
            | ((with_reducible first | refine br_dec (fun h => ?_) (fun h => ?_) | refine br_ndec (fun h => ?_) (fun h => ?_) | refine br_ne (fun h => ?_) (fun h => ?_) | refine br_eq (fun h => ?_) (fun h => ?_)) <;> first | (exfalso; omega) | conv => whnf)
            | (refine br_intro (fun h => ?_) (fun h => ?_) <;> conv => whnf)
            | ((first | refine auNd ?_ | refine idx_nat (by omega) (fun x hx => ?_) | refine frz_auto ?_ | refine draw_plain ?_ | refine auIx (fun x hx => ?_)); conv => whnf)
          refine loop_inv [] [0, 1, 12] (fun vs h => ∃ (m' : List pairT.El) (l' : List itemT.El) (g : Nat) (out : List pairT.El), vs = [.lst pairT m', .lst itemT l', .own 1 g out.length] ∧ h = [.arr 60 pairT [] false 0, .arr 60 pairT out false g] ∧ mgG [] m l = mgG out m' l' ∧ out.length + m'.length + l'.length ≤ 12000 ∧ m'.length ≤ 4000 ∧ l'.length ≤ 8000) (fun vs _ => match vs with | [.lst _ a', .lst _ b', _] => a'.length + b'.length | _ => 0) ?_
          conv => whnf
          refine ⟨⟨m, l, 0, [], rfl, rfl, rfl, by have := hml.1; have := hll.1; simp; omega, hml.1, hll.1⟩, ?_⟩
          rintro vs h' - ⟨m', l', g, out, rfl, rfl, hmg, hle, hlm, hll2⟩
          have hn0 : ([] : List pairT.El).length = 0 := rfl
          have hn1 : ([] : List itemT.El).length = 0 := rfl
          rcases m' with _ | ⟨q, m'⟩
          · rcases l' with _ | ⟨x, l'⟩
            · rw [mg_nn] at hmg
              rw [hmg] at hap
              conv => whnf
              repeat' first
                | ((first | refine auIk ?_ | refine auIi ?_ | refine auT ?_ | refine auF ?_ | with_reducible first | refine auKt ?_ | refine auKf ?_ | refine auNt ?_ | refine auNf ?_ | refine auEt ?_ | refine auEf ?_); conv => whnf)
                | ((with_reducible first | refine br_dec (fun h => ?_) (fun h => ?_) | refine br_ndec (fun h => ?_) (fun h => ?_) | refine br_ne (fun h => ?_) (fun h => ?_) | refine br_eq (fun h => ?_) (fun h => ?_)) <;> first | (exfalso; omega) | conv => whnf)
                | (refine br_intro (fun h => ?_) (fun h => ?_) <;> conv => whnf)
                | ((first | refine auNd ?_ | refine idx_nat (by omega) (fun x hx => ?_) | refine frz_auto ?_ | refine draw_plain ?_ | refine auIx (fun x hx => ?_)); conv => whnf)
              · rw [hap, if_pos h]; rfl
              · rw [hap, if_neg h, List.take_length]
            · have hx0 : (x :: l')[Int.toNat 0]? = some x := rfl
              have hlx : (x :: l').length = l'.length + 1 := rfl
              obtain ⟨k, key, old, new, u⟩ := x
              rw [mg_nx] at hmg
              by_cases hk : k = 2
              · subst hk
                rw [putI_2, List.append_nil] at hmg
                conv => whnf
                repeat' first
                  | ((first | refine auIk ?_ | refine auIi ?_ | refine auT ?_ | refine auF ?_ | with_reducible first | refine auKt ?_ | refine auKf ?_ | refine auNt ?_ | refine auNf ?_ | refine auEt ?_ | refine auEf ?_); conv => whnf)
                  | ((with_reducible first | refine br_dec (fun h => ?_) (fun h => ?_) | refine br_ndec (fun h => ?_) (fun h => ?_) | refine br_ne (fun h => ?_) (fun h => ?_) | refine br_eq (fun h => ?_) (fun h => ?_)) <;> first | (exfalso; omega) | conv => whnf)
                  | (refine br_intro (fun h => ?_) (fun h => ?_) <;> conv => whnf)
                  | ((first | refine auNd ?_ | refine idx_nat (by omega) (fun x hx => ?_) | refine frz_auto ?_ | refine draw_plain ?_ | refine auIx (fun x hx => ?_)); conv => whnf)
                refine back_intro (by conv => whnf) rfl ⟨([] : List pairT.El), l', g, out, mg_vs rfl tail_take rfl, rfl, hmg, ?_, ?_, ?_⟩ ?_
                · simp only [List.length_append, List.length_cons, List.length_nil] at hle ⊢; omega
                · simp only [List.length_cons, List.length_nil] at hlm ⊢; omega
                · simp only [List.length_cons, List.length_nil] at hll2 ⊢; omega
                · show ([] : List pairT.El).length + (List.take ((((2, key, old, new, u) :: l').length : Int).toNat - Int.toNat 1) (List.drop (Int.toNat 1) ((2, key, old, new, u) :: l'))).length < ([] : List pairT.El).length + ((2, key, old, new, u) :: l').length
                  rw [tail_take]
                  simp only [List.length_cons, List.length_nil]; omega
              · rw [putI_n hk] at hmg
                conv => whnf
                repeat' first
                  | ((first | refine auIk ?_ | refine auIi ?_ | refine auT ?_ | refine auF ?_ | with_reducible first | refine auKt ?_ | refine auKf ?_ | refine auNt ?_ | refine auNf ?_ | refine auEt ?_ | refine auEf ?_); conv => whnf)
                  | ((with_reducible first | refine br_dec (fun h => ?_) (fun h => ?_) | refine br_ndec (fun h => ?_) (fun h => ?_) | refine br_ne (fun h => ?_) (fun h => ?_) | refine br_eq (fun h => ?_) (fun h => ?_)) <;> first | (exfalso; omega) | conv => whnf)
                  | (refine br_intro (fun h => ?_) (fun h => ?_) <;> conv => whnf)
                  | ((first | refine auNd ?_ | refine idx_nat (by omega) (fun x hx => ?_) | refine frz_auto ?_ | refine draw_plain ?_ | refine auIx (fun x hx => ?_)); conv => whnf)
                refine back_intro (by conv => whnf) rfl ⟨([] : List pairT.El), l', g + 1, out ++ [mkP key new], mg_vs rfl tail_take ?_, mg_heap ?_, hmg, ?_, ?_, ?_⟩ ?_
                · rw [List.length_append]; rfl
                · simp only [cast_self, List.take_length]; rfl
                · simp only [List.length_append, List.length_cons, List.length_nil] at hle ⊢; omega
                · simp only [List.length_cons, List.length_nil] at hlm ⊢; omega
                · simp only [List.length_cons, List.length_nil] at hll2 ⊢; omega
                · show ([] : List pairT.El).length + (List.take ((((k, key, old, new, u) :: l').length : Int).toNat - Int.toNat 1) (List.drop (Int.toNat 1) ((k, key, old, new, u) :: l'))).length < ([] : List pairT.El).length + ((k, key, old, new, u) :: l').length
                  rw [tail_take]
                  simp only [List.length_cons, List.length_nil]; omega
          · have hq0 : (q :: m')[Int.toNat 0]? = some q := rfl
            have hlq : (q :: m').length = m'.length + 1 := rfl
            rcases l' with _ | ⟨x, l'⟩
            · rw [mg_pn] at hmg
              conv => whnf
              repeat' first
                | ((first | refine auIk ?_ | refine auIi ?_ | refine auT ?_ | refine auF ?_ | with_reducible first | refine auKt ?_ | refine auKf ?_ | refine auNt ?_ | refine auNf ?_ | refine auEt ?_ | refine auEf ?_); conv => whnf)
                | ((with_reducible first | refine br_dec (fun h => ?_) (fun h => ?_) | refine br_ndec (fun h => ?_) (fun h => ?_) | refine br_ne (fun h => ?_) (fun h => ?_) | refine br_eq (fun h => ?_) (fun h => ?_)) <;> first | (exfalso; omega) | conv => whnf)
                | (refine br_intro (fun h => ?_) (fun h => ?_) <;> conv => whnf)
                | ((first | refine auNd ?_ | refine idx_nat (by omega) (fun x hx => ?_) | refine frz_auto ?_ | refine draw_plain ?_ | refine auIx (fun x hx => ?_)); conv => whnf)
              refine back_intro (by conv => whnf) rfl ⟨m', ([] : List itemT.El), g + 1, out ++ [q], mg_vs tail_take rfl ?_, mg_heap ?_, hmg, ?_, ?_, ?_⟩ ?_
              · rw [List.length_append]; rfl
              · simp only [cast_self, List.take_length]; rfl
              · simp only [List.length_append, List.length_cons, List.length_nil] at hle ⊢; omega
              · simp only [List.length_cons, List.length_nil] at hlm ⊢; omega
              · simp only [List.length_cons, List.length_nil] at hll2 ⊢; omega
              · show (List.take (((q :: m').length : Int).toNat - Int.toNat 1) (List.drop (Int.toNat 1) (q :: m'))).length + ([] : List itemT.El).length < (q :: m').length + ([] : List itemT.El).length
                rw [tail_take]
                simp only [List.length_cons, List.length_nil]; omega
            · have hx0 : (x :: l')[Int.toNat 0]? = some x := rfl
              have hlx : (x :: l').length = l'.length + 1 := rfl
              obtain ⟨k, key, old, new, u⟩ := x
              by_cases h1 : sLt q.1 key = true
              · rw [mg_lt h1] at hmg
                conv => whnf
                repeat' first
                  | ((first | refine auIk ?_ | refine auIi ?_ | refine auT ?_ | refine auF ?_ | with_reducible first | refine auKt ?_ | refine auKf ?_ | refine auNt ?_ | refine auNf ?_ | refine auEt ?_ | refine auEf ?_); conv => whnf)
                  | ((with_reducible first | refine br_dec (fun h => ?_) (fun h => ?_) | refine br_ndec (fun h => ?_) (fun h => ?_) | refine br_ne (fun h => ?_) (fun h => ?_) | refine br_eq (fun h => ?_) (fun h => ?_)) <;> first | (exfalso; omega) | conv => whnf)
                  | (refine br_intro (fun h => ?_) (fun h => ?_) <;> conv => whnf)
                  | ((first | refine auNd ?_ | refine idx_nat (by omega) (fun x hx => ?_) | refine frz_auto ?_ | refine draw_plain ?_ | refine auIx (fun x hx => ?_)); conv => whnf)
                refine back_intro (by conv => whnf) rfl ⟨m', ((k, key, old, new, u) :: l'), g + 1, out ++ [q], mg_vs tail_take rfl ?_, mg_heap ?_, hmg, ?_, ?_, ?_⟩ ?_
                · rw [List.length_append]; rfl
                · simp only [cast_self, List.take_length]; rfl
                · simp only [List.length_append, List.length_cons, List.length_nil] at hle ⊢; omega
                · simp only [List.length_cons, List.length_nil] at hlm ⊢; omega
                · simp only [List.length_cons, List.length_nil] at hll2 ⊢; omega
                · show (List.take (((q :: m').length : Int).toNat - Int.toNat 1) (List.drop (Int.toNat 1) (q :: m'))).length + ((k, key, old, new, u) :: l').length < (q :: m').length + ((k, key, old, new, u) :: l').length
                  rw [tail_take]
                  simp only [List.length_cons, List.length_nil]; omega
              · have h1 : sLt q.1 key = false := by simpa using h1
                by_cases h2 : sEq q.1 key = true
                · rw [mg_eq h1 h2] at hmg
                  by_cases hk : k = 2
                  · subst hk
                    rw [putI_2, List.append_nil] at hmg
                    conv => whnf
                    repeat' first
                      | ((first | refine auIk ?_ | refine auIi ?_ | refine auT ?_ | refine auF ?_ | with_reducible first | refine auKt ?_ | refine auKf ?_ | refine auNt ?_ | refine auNf ?_ | refine auEt ?_ | refine auEf ?_); conv => whnf)
                      | ((with_reducible first | refine br_dec (fun h => ?_) (fun h => ?_) | refine br_ndec (fun h => ?_) (fun h => ?_) | refine br_ne (fun h => ?_) (fun h => ?_) | refine br_eq (fun h => ?_) (fun h => ?_)) <;> first | (exfalso; omega) | conv => whnf)
                      | (refine br_intro (fun h => ?_) (fun h => ?_) <;> conv => whnf)
                      | ((first | refine auNd ?_ | refine idx_nat (by omega) (fun x hx => ?_) | refine frz_auto ?_ | refine draw_plain ?_ | refine auIx (fun x hx => ?_)); conv => whnf)
                    refine back_intro (by conv => whnf) rfl ⟨m', l', g, out, mg_vs tail_take tail_take rfl, rfl, hmg, ?_, ?_, ?_⟩ ?_
                    · simp only [List.length_append, List.length_cons, List.length_nil] at hle ⊢; omega
                    · simp only [List.length_cons, List.length_nil] at hlm ⊢; omega
                    · simp only [List.length_cons, List.length_nil] at hll2 ⊢; omega
                    · show (List.take (((q :: m').length : Int).toNat - Int.toNat 1) (List.drop (Int.toNat 1) (q :: m'))).length + (List.take ((((2, key, old, new, u) :: l').length : Int).toNat - Int.toNat 1) (List.drop (Int.toNat 1) ((2, key, old, new, u) :: l'))).length < (q :: m').length + ((2, key, old, new, u) :: l').length
                      rw [tail_take, tail_take]
                      simp only [List.length_cons, List.length_nil]; omega
                  · rw [putI_n hk] at hmg
                    conv => whnf
                    repeat' first
                      | ((first | refine auIk ?_ | refine auIi ?_ | refine auT ?_ | refine auF ?_ | with_reducible first | refine auKt ?_ | refine auKf ?_ | refine auNt ?_ | refine auNf ?_ | refine auEt ?_ | refine auEf ?_); conv => whnf)
                      | ((with_reducible first | refine br_dec (fun h => ?_) (fun h => ?_) | refine br_ndec (fun h => ?_) (fun h => ?_) | refine br_ne (fun h => ?_) (fun h => ?_) | refine br_eq (fun h => ?_) (fun h => ?_)) <;> first | (exfalso; omega) | conv => whnf)
                      | (refine br_intro (fun h => ?_) (fun h => ?_) <;> conv => whnf)
                      | ((first | refine auNd ?_ | refine idx_nat (by omega) (fun x hx => ?_) | refine frz_auto ?_ | refine draw_plain ?_ | refine auIx (fun x hx => ?_)); conv => whnf)
                    refine back_intro (by conv => whnf) rfl ⟨m', l', g + 1, out ++ [mkP key new], mg_vs tail_take tail_take ?_, mg_heap ?_, hmg, ?_, ?_, ?_⟩ ?_
                    · rw [List.length_append]; rfl
                    · simp only [cast_self, List.take_length]; rfl
                    · simp only [List.length_append, List.length_cons, List.length_nil] at hle ⊢; omega
                    · simp only [List.length_cons, List.length_nil] at hlm ⊢; omega
                    · simp only [List.length_cons, List.length_nil] at hll2 ⊢; omega
                    · show (List.take (((q :: m').length : Int).toNat - Int.toNat 1) (List.drop (Int.toNat 1) (q :: m'))).length + (List.take ((((k, key, old, new, u) :: l').length : Int).toNat - Int.toNat 1) (List.drop (Int.toNat 1) ((k, key, old, new, u) :: l'))).length < (q :: m').length + ((k, key, old, new, u) :: l').length
                      rw [tail_take, tail_take]
                      simp only [List.length_cons, List.length_nil]; omega
                · have h2 : sEq q.1 key = false := by simpa using h2
                  rw [mg_gt h1 h2] at hmg
                  by_cases hk : k = 2
                  · subst hk
                    rw [putI_2, List.append_nil] at hmg
                    conv => whnf
                    repeat' first
                      | ((first | refine auIk ?_ | refine auIi ?_ | refine auT ?_ | refine auF ?_ | with_reducible first | refine auKt ?_ | refine auKf ?_ | refine auNt ?_ | refine auNf ?_ | refine auEt ?_ | refine auEf ?_); conv => whnf)
                      | ((with_reducible first | refine br_dec (fun h => ?_) (fun h => ?_) | refine br_ndec (fun h => ?_) (fun h => ?_) | refine br_ne (fun h => ?_) (fun h => ?_) | refine br_eq (fun h => ?_) (fun h => ?_)) <;> first | (exfalso; omega) | conv => whnf)
                      | (refine br_intro (fun h => ?_) (fun h => ?_) <;> conv => whnf)
                      | ((first | refine auNd ?_ | refine idx_nat (by omega) (fun x hx => ?_) | refine frz_auto ?_ | refine draw_plain ?_ | refine auIx (fun x hx => ?_)); conv => whnf)
                    refine back_intro (by conv => whnf) rfl ⟨(q :: m'), l', g, out, mg_vs rfl tail_take rfl, rfl, hmg, ?_, ?_, ?_⟩ ?_
                    · simp only [List.length_append, List.length_cons, List.length_nil] at hle ⊢; omega
                    · simp only [List.length_cons, List.length_nil] at hlm ⊢; omega
                    · simp only [List.length_cons, List.length_nil] at hll2 ⊢; omega
                    · show (q :: m').length + (List.take ((((2, key, old, new, u) :: l').length : Int).toNat - Int.toNat 1) (List.drop (Int.toNat 1) ((2, key, old, new, u) :: l'))).length < (q :: m').length + ((2, key, old, new, u) :: l').length
                      rw [tail_take]
                      simp only [List.length_cons, List.length_nil]; omega
                  · rw [putI_n hk] at hmg
                    conv => whnf
                    repeat' first
                      | ((first | refine auIk ?_ | refine auIi ?_ | refine auT ?_ | refine auF ?_ | with_reducible first | refine auKt ?_ | refine auKf ?_ | refine auNt ?_ | refine auNf ?_ | refine auEt ?_ | refine auEf ?_); conv => whnf)
                      | ((with_reducible first | refine br_dec (fun h => ?_) (fun h => ?_) | refine br_ndec (fun h => ?_) (fun h => ?_) | refine br_ne (fun h => ?_) (fun h => ?_) | refine br_eq (fun h => ?_) (fun h => ?_)) <;> first | (exfalso; omega) | conv => whnf)
                      | (refine br_intro (fun h => ?_) (fun h => ?_) <;> conv => whnf)
                      | ((first | refine auNd ?_ | refine idx_nat (by omega) (fun x hx => ?_) | refine frz_auto ?_ | refine draw_plain ?_ | refine auIx (fun x hx => ?_)); conv => whnf)
                    refine back_intro (by conv => whnf) rfl ⟨(q :: m'), l', g + 1, out ++ [mkP key new], mg_vs rfl tail_take ?_, mg_heap ?_, hmg, ?_, ?_, ?_⟩ ?_
                    · rw [List.length_append]; rfl
                    · simp only [cast_self, List.take_length]; rfl
                    · simp only [List.length_append, List.length_cons, List.length_nil] at hle ⊢; omega
                    · simp only [List.length_cons, List.length_nil] at hlm ⊢; omega
                    · simp only [List.length_cons, List.length_nil] at hll2 ⊢; omega
                    · show (q :: m').length + (List.take ((((k, key, old, new, u) :: l').length : Int).toNat - Int.toNat 1) (List.drop (Int.toNat 1) ((k, key, old, new, u) :: l'))).length < (q :: m').length + ((k, key, old, new, u) :: l').length
                      rw [tail_take]
                      simp only [List.length_cons, List.length_nil]; omega
      · conv => whnf
        repeat' first
          | ((first | refine auIk ?_ | refine auIi ?_ | refine auT ?_ | refine auF ?_ | with_reducible first | refine auKt ?_ | refine auKf ?_ | refine auNt ?_ | refine auNf ?_ | refine auEt ?_ | refine auEf ?_); conv => whnf)
          | ((with_reducible first | refine br_dec (fun h => ?_) (fun h => ?_) | refine br_ndec (fun h => ?_) (fun h => ?_) | refine br_ne (fun h => ?_) (fun h => ?_) | refine br_eq (fun h => ?_) (fun h => ?_)) <;> first | (exfalso; omega) | conv => whnf)
          | (refine br_intro (fun h => ?_) (fun h => ?_) <;> conv => whnf)
          | ((first | refine auNd ?_ | refine idx_nat (by omega) (fun x hx => ?_) | refine frz_auto ?_ | refine draw_plain ?_ | refine auIx (fun x hx => ?_)); conv => whnf)
        rw [apR, if_neg (by simp [hm]), if_pos hl]
        rfl
    · conv => whnf
      repeat' first
        | ((first | refine auIk ?_ | refine auIi ?_ | refine auT ?_ | refine auF ?_ | with_reducible first | refine auKt ?_ | refine auKf ?_ | refine auNt ?_ | refine auNf ?_ | refine auEt ?_ | refine auEf ?_); conv => whnf)
        | ((with_reducible first | refine br_dec (fun h => ?_) (fun h => ?_) | refine br_ndec (fun h => ?_) (fun h => ?_) | refine br_ne (fun h => ?_) (fun h => ?_) | refine br_eq (fun h => ?_) (fun h => ?_)) <;> first | (exfalso; omega) | conv => whnf)
        | (refine br_intro (fun h => ?_) (fun h => ?_) <;> conv => whnf)
        | ((first | refine auNd ?_ | refine idx_nat (by omega) (fun x hx => ?_) | refine frz_auto ?_ | refine draw_plain ?_ | refine auIx (fun x hx => ?_)); conv => whnf)
      rw [apR, if_pos hm]
      rfl
  · cases h
end Go.Proofs.YtdbnohpolknbbaaGreat
namespace Go.Proofs.YtdbnohpolknbbaaGreat
open Av Bk

set_option maxRecDepth 100000 in
theorem fnOk_lCk : FnOk Tryz.prog 5 Tryz.f5 := ⟨by rfl, by kernel_rfl, by
  show okCode _ _ = true ∧ drawsOk _ = true
  exact ⟨by kernel_rfl, by kernel_rfl⟩⟩
noncomputable def lCk_C : Cx := ⟨tb, [], [(8, spAwU), (21, spFarM), (22, spWide), (14, spIC), (23, spIC), (24, spAp), (25, spAp28), (16, spSameP)]⟩
theorem lCk_D : SpecsOk Tryz.prog lCk_C.specs := .cons awakeU_ok (.cons farM_ok (.cons wideI_ok (.cons diffCheck_ok (.cons rIC_ok (.cons dApply_ok (.cons rApply_ok (.cons same05_ok .nil)))))))
theorem lCk_F : FnsOk Tryz.prog lCk_C.fns := FnsOk.nil
abbrev lCk_N : Nat := 0
abbrev lCk_T : List Ty := [.sl pairT, .sl itemT]
abbrev lCk_FN := fnOk_lCk
theorem farM_len {m : List pairT.El} (h : farM m = false) : m.length ≤ 4005 := by
  unfold farM at h
  split at h
  · cases h
  · omega
theorem wideI_len {l : List itemT.El} (h : wideI l = false) : l.length ≤ 8005 := by
  unfold wideI at h
  split at h
  · cases h
  · omega
set_option maxRecDepth 100000 in
set_option maxHeartbeats 8000000 in
theorem lCk' (m : List pairT.El) (l : List itemT.El) : bodyA lCk_C (callN lCk_C lCk_N) Tryz.f5 [.lst pairT m, .lst itemT l] [] (fun v _ => v = .bool true) := by
  have hal : (apR m l).1.length ≤ 4611686018427387904 := by have := apR_len m l; omega
  have har := sameP_refl (apR m l).1
  by_cases f1 : farM m = true
  · conv => whnf
    repeat' first
      | ((first | refine auIk ?_ | refine auIi ?_ | refine auT ?_ | refine auF ?_ | with_reducible first | refine auKt ?_ | refine auKf ?_ | refine auNt ?_ | refine auNf ?_ | refine auEt ?_ | refine auEf ?_); conv => whnf)
      | ((with_reducible first | refine br_dec (fun h => ?_) (fun h => ?_) | refine br_ndec (fun h => ?_) (fun h => ?_) | refine br_ne (fun h => ?_) (fun h => ?_) | refine br_eq (fun h => ?_) (fun h => ?_)) <;> first | (exfalso; omega) | conv => whnf)
      | (refine br_intro (fun h => ?_) (fun h => ?_) <;> conv => whnf)
      | ((first | refine auNd ?_ | refine idx_nat (by omega) (fun x hx => ?_) | refine frz_auto ?_ | refine draw_plain ?_ | refine auIx (fun x hx => ?_)); conv => whnf)
  · have f1 : farM m = false := by simpa using f1
    have hml := farM_len f1
    by_cases f2 : wideI l = true
    · conv => whnf
      repeat' first
        | ((first | refine auIk ?_ | refine auIi ?_ | refine auT ?_ | refine auF ?_ | with_reducible first | refine auKt ?_ | refine auKf ?_ | refine auNt ?_ | refine auNf ?_ | refine auEt ?_ | refine auEf ?_); conv => whnf)
        | ((with_reducible first | refine br_dec (fun h => ?_) (fun h => ?_) | refine br_ndec (fun h => ?_) (fun h => ?_) | refine br_ne (fun h => ?_) (fun h => ?_) | refine br_eq (fun h => ?_) (fun h => ?_)) <;> first | (exfalso; omega) | conv => whnf)
        | (refine br_intro (fun h => ?_) (fun h => ?_) <;> conv => whnf)
        | ((first | refine auNd ?_ | refine idx_nat (by omega) (fun x hx => ?_) | refine frz_auto ?_ | refine draw_plain ?_ | refine auIx (fun x hx => ?_)); conv => whnf)
    · have f2 : wideI l = false := by simpa using f2
      have hll := wideI_len f2
      conv => whnf
      repeat' first
        | ((first | refine auIk ?_ | refine auIi ?_ | refine auT ?_ | refine auF ?_ | with_reducible first | refine auKt ?_ | refine auKf ?_ | refine auNt ?_ | refine auNf ?_ | refine auEt ?_ | refine auEf ?_); conv => whnf)
        | ((with_reducible first | refine br_dec (fun h => ?_) (fun h => ?_) | refine br_ndec (fun h => ?_) (fun h => ?_) | refine br_ne (fun h => ?_) (fun h => ?_) | refine br_eq (fun h => ?_) (fun h => ?_)) <;> first | (exfalso; omega) | conv => whnf)
        | (refine br_intro (fun h => ?_) (fun h => ?_) <;> conv => whnf)
        | ((first | refine auNd ?_ | refine idx_nat (by omega) (fun x hx => ?_) | refine frz_auto ?_ | refine draw_plain ?_ | refine auIx (fun x hx => ?_)); conv => whnf)
theorem lCk : ∀ es : Ty.Els lCk_T, tyOks lCk_T es → bodyA lCk_C (callN lCk_C lCk_N) Tryz.f5 (avTs lCk_T es) [] (fun v _ => v = .bool true) := by
  rintro ⟨m, l, _⟩ _
  exact lCk' m l
end Go.Proofs.YtdbnohpolknbbaaGreat
namespace Go.Proofs.YtdbnohpolknbbaaGreat
open Go.ChangeShapes Go.WideShapes Go.ChangeAt Go.RowKit Go.Joins Go.Deep Av

theorem Tryz.own : ownKnob Tryz.prog.godebug = none := by kernel_rfl
theorem Tryz.laidOut : laidOutB Tryz.prog = true := by kernel_rfl

section
variable {H : Type} {enc : TypeId × Value → H} {w : World}

/-- Every argument reads as it did. -/
theorem all_below {W W' : World} (hb : Below W.heap.size W W') : ∀ (ts : List TypeId) (vs : List Value) (ds : List (DataW H)) (ps : List MemPlace), (∀ t ∈ ts, Tryz.prog.readableRec t = true ∧ t < Tryz.prog.types.size) →
    DataW.TrodAll enc Tryz.prog W 0 (fun _ => true) true ts vs ds ps → (∀ x ∈ ps, x.block < W.heap.size) → DataW.TrodAll enc Tryz.prog W' 0 (fun b => decide (b < W.heap.size)) true ts vs ds ps
  | [], vs, ds, ps, _, h, _ => by
    obtain ⟨rfl, rfl, rfl⟩ := trodAll_nil h
    exact trodAll_mk0
  | t :: ts, vs, ds, ps, hr, h, hlt => by
    obtain ⟨v, vs', d, ds', p, q, rfl, rfl, rfl, h1, h2⟩ := trodAll_cons h
    obtain ⟨r1, r2⟩ := hr t (by simp)
    exact trodAll_cons_mk (Below.trod Tryz.laidOut r1 r2 h1 hb (fun x hx => hlt x (by simp [hx]))) (all_below hb ts vs' ds' q (fun t' ht' => hr t' (by simp [ht'])) h2 (fun x hx => hlt x (by simp [hx])))

/-- What the row asks of the end of a law. -/
theorem law_post {f : Func} {s : ChangeSpec} {W W' : World} {args : Array Value} {ds gs : List (DataW H)} {before : List MemPlace} (hW : DataW.Whole enc Tryz.prog f.params.toList s.vars false W args.toList ds gs before)
    (hv : s.vars = []) (hres : (s.fn H (ds ++ [])).results = [.lit (.bool true)]) (hargs : (s.fn H (ds ++ [])).args = ds) (hvs : (s.fn H (ds ++ [])).vars = []) (hR : f.resultTypes = #[4])
    (hr : ∀ t ∈ f.params.toList, Tryz.prog.readableRec t = true ∧ t < Tryz.prog.types.size) (hb : Below W.heap.size W W') :
    s.post enc Tryz.prog f false true false false W args (.bool true) W' := by
  have hlt := hW.lt
  have hW' := hW
  obtain ⟨p, q, hA, hV, rfl, _, _⟩ := hW
  rw [hv] at hV
  obtain ⟨rfl, rfl⟩ := trodVars_none hV
  refine ⟨ds, [], p ++ [], [], p, [], hW', ?_, ?_, ?_, hb.frame _, fun h => by cases h⟩
  · rw [hres, hR]
    exact trodAll_mk1 (shut_bool Tryz.underlying4 true)
  · rw [hargs]
    exact all_below hb _ _ _ _ hr hA (fun x hx => hlt x (by simp [hx]))
  · rw [hv, hvs]
    exact rfl


theorem trodAll_len {W : World} {base : Nat} {spare : Nat → Bool} {held : Bool} : ∀ {ts : List TypeId} {vs : List Value} {ds : List (DataW H)} {ps : List MemPlace}, DataW.TrodAll enc Tryz.prog W base spare held ts vs ds ps → ds.length = ts.length
  | [], vs, ds, ps, h => by
    obtain ⟨rfl, rfl, rfl⟩ := trodAll_nil h
    rfl
  | t :: ts, vs, ds, ps, h => by
    obtain ⟨v, vs', D, ds', p, q, rfl, rfl, rfl, h1, h2⟩ := trodAll_cons h
    simp only [List.length_cons, trodAll_len h2]
theorem arr_get {α : Type} {a : Array α} {j : Nat} {x : α} (h : a.toList[j]? = some x) : a[j]? = some x := by simpa using h
end
end Go.Proofs.YtdbnohpolknbbaaGreat
