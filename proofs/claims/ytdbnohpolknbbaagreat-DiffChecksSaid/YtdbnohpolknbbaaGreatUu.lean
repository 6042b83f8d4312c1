/-
  Differences applied to a map, by the code.
  Differences behind others, by the code.
  Whether differences are awake.
-/
import Derived.Test.YtdbnohpolknbbaaGreatUj
import Derived.Test.YtdbnohpolknbbaaGreatUe
import Derived.Test.YtdbnohpolknbbaaGreatE3
import Derived.Test.YtdbnohpolknbbaaGreatIa
namespace Go.Proofs.YtdbnohpolknbbaaGreat
open Av Bk

set_option maxRecDepth 100000 in
theorem fnOk_dApply : FnOk Tryz.prog 24 Tryz.f24 := ⟨by rfl, by kernel_rfl, by
  show okCode _ _ = true ∧ drawsOk _ = true
  exact ⟨by kernel_rfl, by kernel_rfl⟩⟩
set_option maxRecDepth 100000 in
theorem fnOk_dApply1 : FnOk Tryz.prog 47 Tryz.f47 := ⟨by rfl, by kernel_rfl, by
  show okCode _ _ = true ∧ drawsOk _ = true
  exact ⟨by kernel_rfl, by kernel_rfl⟩⟩
set_option maxRecDepth 100000 in
theorem fnOk_dFresh : FnOk Tryz.prog 49 Tryz.f49 := ⟨by rfl, by kernel_rfl, by
  show okCode _ _ = true ∧ drawsOk _ = true
  exact ⟨by kernel_rfl, by kernel_rfl⟩⟩
set_option maxRecDepth 100000 in
theorem fnOk_dGone : FnOk Tryz.prog 50 Tryz.f50 := ⟨by rfl, by kernel_rfl, by
  show okCode _ _ = true ∧ drawsOk _ = true
  exact ⟨by kernel_rfl, by kernel_rfl⟩⟩
set_option maxRecDepth 100000 in
theorem fnOk_dOther : FnOk Tryz.prog 51 Tryz.f51 := ⟨by rfl, by kernel_rfl, by
  show okCode _ _ = true ∧ drawsOk _ = true
  exact ⟨by kernel_rfl, by kernel_rfl⟩⟩
def spAp : DSpec
  | [.lst (.st [.str, .str]) m, .lst (.st [.int .i64, .str, .str, .str]) l] => some (m.length ≤ 4611686018427387904 ∧ l.length ≤ 4611686018427387904, .tup [.lst pairT (apR m l).1, .int .i64 (apR m l).2.1, .int .i64 (apR m l).2.2])
  | _ => none
noncomputable def cxuk : Cx := ⟨tb, [(40, Tryz.f40), (47, Tryz.f47), (49, Tryz.f49), (50, Tryz.f50), (51, Tryz.f51)], [(46, spMC), (14, spIC), (64, spFd), (48, spClP)]⟩
theorem specsuk : SpecsOk Tryz.prog cxuk.specs := .cons modelCheck_ok (.cons diffCheck_ok (.cons dFind_ok (.consF cloneP_ok .nil)))
theorem fnsuk : FnsOk Tryz.prog cxuk.fns := .cons fnOk_caught (.cons fnOk_dApply1 (.cons fnOk_dFresh (.cons fnOk_dGone (.cons fnOk_dOther .nil))))
def ruk : List (FuncId × RawA) := [(65, insA), (66, delA)]
theorem ruk_ok : RawsOk Tryz.prog ruk := .cons insPr_ok (.cons delPr_ok .nil)
theorem calluk (n : Nat) : CallOk Tryz.prog (callR ruk cxuk n) := callR_ok (C := cxuk) mixed tbOk specsuk fnsuk ruk_ok n
noncomputable def cduk : CallDA := callDf cxuk (callR ruk cxuk 2) [40]
theorem cduk_ok : CallDOk Tryz.prog cduk := callDf_ok (C := cxuk) mixed tbOk specsuk fnsuk (calluk 2) _
theorem ap_heap {a b c e : AObj} {T T2 : TypeId} {L L' : List pairT.El} {g n n' : Nat} (hL : L = L') (hn : n = n') : [a, b, c, .arr T pairT L false g, .cells T2 [.own 3 g n], e] = [a, b, c, AObj.arr T pairT L' false g, .cells T2 [.own 3 g n'], e] := by rw [hL, hn]
theorem chS_len {c : List pairT.El} {i : Nat} {x : itemT.El} (h : c.length ≤ 4000 + i) : (chS c x).length ≤ 4000 + (i + 1) := by
  have : (chS c x).length ≤ c.length + 1 := chT_len _ _
  omega
set_option maxRecDepth 100000 in
set_option maxHeartbeats 4000000 in
theorem dApply_ok : SpecOk Tryz.prog 24 spAp := by
  refine spec_bodyE (C := cxuk) mixed tbOk specsuk (calluk 3) psub_ok cduk_ok fnOk_dApply ?_
  intro ys p r h hp
  unfold spAp at h
  split at h
  · rename_i m l
    cases h
    obtain ⟨hp1, hp2⟩ := hp
    by_cases hm : (mcL m).2 = 0
    · by_cases hl : (icL l).2 = 0
      · have hml := mcL_zero hm
        have hll := icL_zero hl
        conv => whnf
        repeat' first
          | ((first | refine auIk ?_ | refine auIi ?_ | refine auT ?_ | refine auF ?_ | with_reducible first | refine auKt ?_ | refine auKf ?_ | refine auNt ?_ | refine auNf ?_ | refine auEt ?_ | refine auEf ?_); conv => whnf)
          | ((with_reducible first | refine br_dec (fun h => ?_) (fun h => ?_) | refine br_ndec (fun h => ?_) (fun h => ?_) | refine br_ne (fun h => ?_) (fun h => ?_) | refine br_eq (fun h => ?_) (fun h => ?_)) <;> first | (exfalso; omega) | conv => whnf)
          | (refine br_intro (fun h => ?_) (fun h => ?_) <;> conv => whnf)
          | ((first | refine auNd ?_ | refine idx_nat (by omega) (fun x hx => ?_) | refine frz_auto ?_ | refine draw_plain ?_ | refine auIx (fun x hx => ?_)); conv => whnf)
        refine loop_inv [] [47] (fun vs h => ∃ (i g : Nat) (c : List pairT.El), vs = [.int .i64 (i : Int)] ∧ h = [.cells 34 [.zsl pairT], .cells 3 [.int .i64 0], .cells 29 [.int .i64 0], .arr 60 pairT c false g, .cells 86 [.own 3 g c.length], .cells 88 [.nilfn, .fn (.func 49) [.ptr 4 0] [], .fn (.func 50) [.ptr 4 0] [], .fn (.func 51) [.ptr 4 0] []]] ∧ i ≤ l.length ∧ apGo 0 l m = apGo (i : Int) (l.drop i) c ∧ ascP c ∧ c.length ≤ 4000 + i) (fun vs _ => match vs with | [.int _ k] => l.length - k.toNat | _ => 0) ?_
        conv => whnf
        refine ⟨⟨0, 0, m, rfl, rfl, Nat.zero_le _, rfl, hml.2.2, hml.1⟩, ?_⟩
        rintro vs h' - ⟨i, g, c, rfl, rfl, hi, hap, hac, hcl⟩
        have hl8 := hll.1
        have hc1 : c.length ≤ 100000 := by omega
        by_cases hil : i < l.length
        · obtain ⟨y, hy⟩ : ∃ y, l[i]? = some y := ⟨_, List.getElem?_eq_getElem hil⟩
          obtain ⟨k, key, old, new, u⟩ := y
          have hyE := hll.2.1 _ (List.mem_of_getElem? hy)
          have hct : List.take c.length c = c := List.take_length
          have hle := lbP_le key c
          rcases itE_kind hyE with rfl | rfl | rfl
          · cases hk : lkV c key with
            | none =>
              have hks : (lkV c key).isSome = false := by rw [hk]; rfl
              conv => whnf
              repeat' first
                | ((first | refine auIk ?_ | refine auIi ?_ | refine auT ?_ | refine auF ?_ | with_reducible first | refine auKt ?_ | refine auKf ?_ | refine auNt ?_ | refine auNf ?_ | refine auEt ?_ | refine auEf ?_); conv => whnf)
                | ((with_reducible first | refine br_dec (fun h => ?_) (fun h => ?_) | refine br_ndec (fun h => ?_) (fun h => ?_) | refine br_ne (fun h => ?_) (fun h => ?_) | refine br_eq (fun h => ?_) (fun h => ?_)) <;> first | (exfalso; omega) | conv => whnf)
                | (refine br_intro (fun h => ?_) (fun h => ?_) <;> conv => whnf)
                | ((first | refine auNd ?_ | refine idx_nat (by omega) (fun x hx => ?_) | refine frz_auto ?_ | refine draw_plain ?_ | refine auIx (fun x hx => ?_)); conv => whnf)
              rw [hct]
              repeat' first
                | ((first | refine auIk ?_ | refine auIi ?_ | refine auT ?_ | refine auF ?_ | with_reducible first | refine auKt ?_ | refine auKf ?_ | refine auNt ?_ | refine auNf ?_ | refine auEt ?_ | refine auEf ?_); conv => whnf)
                | ((with_reducible first | refine br_dec (fun h => ?_) (fun h => ?_) | refine br_ndec (fun h => ?_) (fun h => ?_) | refine br_ne (fun h => ?_) (fun h => ?_) | refine br_eq (fun h => ?_) (fun h => ?_)) <;> first | (exfalso; omega) | conv => whnf)
                | (refine br_intro (fun h => ?_) (fun h => ?_) <;> conv => whnf)
                | ((first | refine auNd ?_ | refine idx_nat (by omega) (fun x hx => ?_) | refine frz_auto ?_ | refine draw_plain ?_ | refine auIx (fun x hx => ?_)); conv => whnf)
              refine ⟨rfl, back_intro (by conv => whnf) rfl ⟨i + 1, g + 1, chS c (mkI 1 key old new), rfl, ap_heap (L := c.take (lbP key c) ++ ([mkP key new] ++ (c.take c.length).drop (lbP key c))) ?_ ?_, by omega, ap_next hap hy (fit_new.trans (if_neg (by rw [hks]; decide))), chT_asc hac _ _, chS_len hcl⟩ ?_⟩
              · rw [hct]; exact chS_new hac hk
              · rw [← chS_new hac hk]; simp only [List.length_append, List.length_take, List.length_drop, List.length_cons, List.length_nil]; omega
              · show l.length - ((i : Int) + 1).toNat < l.length - (i : Int).toNat
                omega
            | some v =>
              have hks : (lkV c key).isSome = true := by rw [hk]; rfl
              conv => whnf
              repeat' first
                | ((first | refine auIk ?_ | refine auIi ?_ | refine auT ?_ | refine auF ?_ | with_reducible first | refine auKt ?_ | refine auKf ?_ | refine auNt ?_ | refine auNf ?_ | refine auEt ?_ | refine auEf ?_); conv => whnf)
                | ((with_reducible first | refine br_dec (fun h => ?_) (fun h => ?_) | refine br_ndec (fun h => ?_) (fun h => ?_) | refine br_ne (fun h => ?_) (fun h => ?_) | refine br_eq (fun h => ?_) (fun h => ?_)) <;> first | (exfalso; omega) | conv => whnf)
                | (refine br_intro (fun h => ?_) (fun h => ?_) <;> conv => whnf)
                | ((first | refine auNd ?_ | refine idx_nat (by omega) (fun x hx => ?_) | refine frz_auto ?_ | refine draw_plain ?_ | refine auIx (fun x hx => ?_)); conv => whnf)
              rw [hct]
              repeat' first
                | ((first | refine auIk ?_ | refine auIi ?_ | refine auT ?_ | refine auF ?_ | with_reducible first | refine auKt ?_ | refine auKf ?_ | refine auNt ?_ | refine auNf ?_ | refine auEt ?_ | refine auEf ?_); conv => whnf)
                | ((with_reducible first | refine br_dec (fun h => ?_) (fun h => ?_) | refine br_ndec (fun h => ?_) (fun h => ?_) | refine br_ne (fun h => ?_) (fun h => ?_) | refine br_eq (fun h => ?_) (fun h => ?_)) <;> first | (exfalso; omega) | conv => whnf)
                | (refine br_intro (fun h => ?_) (fun h => ?_) <;> conv => whnf)
                | ((first | refine auNd ?_ | refine idx_nat (by omega) (fun x hx => ?_) | refine frz_auto ?_ | refine draw_plain ?_ | refine auIx (fun x hx => ?_)); conv => whnf)
              exact ap_err hm hl hap hy (fit_new.trans (if_pos hks)) (by decide)
          · cases hk : lkV c key with
            | none =>
              have hks : (lkV c key).isSome = false := by rw [hk]; rfl
              conv => whnf
              repeat' first
                | ((first | refine auIk ?_ | refine auIi ?_ | refine auT ?_ | refine auF ?_ | with_reducible first | refine auKt ?_ | refine auKf ?_ | refine auNt ?_ | refine auNf ?_ | refine auEt ?_ | refine auEf ?_); conv => whnf)
                | ((with_reducible first | refine br_dec (fun h => ?_) (fun h => ?_) | refine br_ndec (fun h => ?_) (fun h => ?_) | refine br_ne (fun h => ?_) (fun h => ?_) | refine br_eq (fun h => ?_) (fun h => ?_)) <;> first | (exfalso; omega) | conv => whnf)
                | (refine br_intro (fun h => ?_) (fun h => ?_) <;> conv => whnf)
                | ((first | refine auNd ?_ | refine idx_nat (by omega) (fun x hx => ?_) | refine frz_auto ?_ | refine draw_plain ?_ | refine auIx (fun x hx => ?_)); conv => whnf)
              rw [hct]
              repeat' first
                | ((first | refine auIk ?_ | refine auIi ?_ | refine auT ?_ | refine auF ?_ | with_reducible first | refine auKt ?_ | refine auKf ?_ | refine auNt ?_ | refine auNf ?_ | refine auEt ?_ | refine auEf ?_); conv => whnf)
                | ((with_reducible first | refine br_dec (fun h => ?_) (fun h => ?_) | refine br_ndec (fun h => ?_) (fun h => ?_) | refine br_ne (fun h => ?_) (fun h => ?_) | refine br_eq (fun h => ?_) (fun h => ?_)) <;> first | (exfalso; omega) | conv => whnf)
                | (refine br_intro (fun h => ?_) (fun h => ?_) <;> conv => whnf)
                | ((first | refine auNd ?_ | refine idx_nat (by omega) (fun x hx => ?_) | refine frz_auto ?_ | refine draw_plain ?_ | refine auIx (fun x hx => ?_)); conv => whnf)
              · exact ap_err hm hl hap hy (fit_gone.trans (by rw [hk])) (by decide)
              · have h : (!(lkV c key).isSome) = false := h
                rw [hks] at h
                cases h
            | some v =>
              have hks : (lkV c key).isSome = true := by rw [hk]; rfl
              have hat := lkV_at hac hk
              have hlt := (List.getElem?_eq_some_iff.1 hat).1
              conv => whnf
              repeat' first
                | ((first | refine auIk ?_ | refine auIi ?_ | refine auT ?_ | refine auF ?_ | with_reducible first | refine auKt ?_ | refine auKf ?_ | refine auNt ?_ | refine auNf ?_ | refine auEt ?_ | refine auEf ?_); conv => whnf)
                | ((with_reducible first | refine br_dec (fun h => ?_) (fun h => ?_) | refine br_ndec (fun h => ?_) (fun h => ?_) | refine br_ne (fun h => ?_) (fun h => ?_) | refine br_eq (fun h => ?_) (fun h => ?_)) <;> first | (exfalso; omega) | conv => whnf)
                | (refine br_intro (fun h => ?_) (fun h => ?_) <;> conv => whnf)
                | ((first | refine auNd ?_ | refine idx_nat (by omega) (fun x hx => ?_) | refine frz_auto ?_ | refine draw_plain ?_ | refine auIx (fun x hx => ?_)); conv => whnf)
              rw [hct]
              repeat' first
                | ((first | refine auIk ?_ | refine auIi ?_ | refine auT ?_ | refine auF ?_ | with_reducible first | refine auKt ?_ | refine auKf ?_ | refine auNt ?_ | refine auNf ?_ | refine auEt ?_ | refine auEf ?_); conv => whnf)
                | ((with_reducible first | refine br_dec (fun h => ?_) (fun h => ?_) | refine br_ndec (fun h => ?_) (fun h => ?_) | refine br_ne (fun h => ?_) (fun h => ?_) | refine br_eq (fun h => ?_) (fun h => ?_)) <;> first | (exfalso; omega) | conv => whnf)
                | (refine br_intro (fun h => ?_) (fun h => ?_) <;> conv => whnf)
                | ((first | refine auNd ?_ | refine idx_nat (by omega) (fun x hx => ?_) | refine frz_auto ?_ | refine draw_plain ?_ | refine auIx (fun x hx => ?_)); conv => whnf)
              · have h : (!(lkV c key).isSome) = true := h
                rw [hks] at h
                cases h
              · refine ap_err hm hl hap hy (fit_gone.trans ?_) (by decide)
                rw [hk]
                exact if_neg (by have h : (!sEq v old) = true := h; simpa using h)
              · refine ⟨rfl, back_intro (by conv => whnf) rfl ⟨i + 1, g + 1, chS c (mkI 2 key old new), rfl, ap_heap (L := c.take (lbP key c) ++ (c.take c.length).drop ((lbP key c : Int) + 1).toNat) ?_ ?_, by omega, ap_next hap hy (fit_gone.trans (by rw [hk]; exact if_pos (by have h : (!sEq v old) = false := h; simpa using h))), chT_asc hac _ _, chS_len hcl⟩ ?_⟩
                · rw [hct, show ((lbP key c : Int) + 1).toNat = lbP key c + 1 by omega]; exact chS_gone hac hk
                · show c.length - (((lbP key c : Int) + 1).toNat - (lbP key c : Int).toNat) = _
                  rw [← chS_gone hac hk]; simp only [List.length_append, List.length_take, List.length_drop]; omega
                · show l.length - ((i : Int) + 1).toNat < l.length - (i : Int).toNat
                  omega
          · cases hk : lkV c key with
            | none =>
              have hks : (lkV c key).isSome = false := by rw [hk]; rfl
              conv => whnf
              repeat' first
                | ((first | refine auIk ?_ | refine auIi ?_ | refine auT ?_ | refine auF ?_ | with_reducible first | refine auKt ?_ | refine auKf ?_ | refine auNt ?_ | refine auNf ?_ | refine auEt ?_ | refine auEf ?_); conv => whnf)
                | ((with_reducible first | refine br_dec (fun h => ?_) (fun h => ?_) | refine br_ndec (fun h => ?_) (fun h => ?_) | refine br_ne (fun h => ?_) (fun h => ?_) | refine br_eq (fun h => ?_) (fun h => ?_)) <;> first | (exfalso; omega) | conv => whnf)
                | (refine br_intro (fun h => ?_) (fun h => ?_) <;> conv => whnf)
                | ((first | refine auNd ?_ | refine idx_nat (by omega) (fun x hx => ?_) | refine frz_auto ?_ | refine draw_plain ?_ | refine auIx (fun x hx => ?_)); conv => whnf)
              rw [hct]
              repeat' first
                | ((first | refine auIk ?_ | refine auIi ?_ | refine auT ?_ | refine auF ?_ | with_reducible first | refine auKt ?_ | refine auKf ?_ | refine auNt ?_ | refine auNf ?_ | refine auEt ?_ | refine auEf ?_); conv => whnf)
                | ((with_reducible first | refine br_dec (fun h => ?_) (fun h => ?_) | refine br_ndec (fun h => ?_) (fun h => ?_) | refine br_ne (fun h => ?_) (fun h => ?_) | refine br_eq (fun h => ?_) (fun h => ?_)) <;> first | (exfalso; omega) | conv => whnf)
                | (refine br_intro (fun h => ?_) (fun h => ?_) <;> conv => whnf)
                | ((first | refine auNd ?_ | refine idx_nat (by omega) (fun x hx => ?_) | refine frz_auto ?_ | refine draw_plain ?_ | refine auIx (fun x hx => ?_)); conv => whnf)
              · exact ap_err hm hl hap hy (fit_other.trans (by rw [hk])) (by decide)
              · have h : (!(lkV c key).isSome) = false := h
                rw [hks] at h
                cases h
            | some v =>
              have hks : (lkV c key).isSome = true := by rw [hk]; rfl
              have hat := lkV_at hac hk
              have hlt := (List.getElem?_eq_some_iff.1 hat).1
              conv => whnf
              repeat' first
                | ((first | refine auIk ?_ | refine auIi ?_ | refine auT ?_ | refine auF ?_ | with_reducible first | refine auKt ?_ | refine auKf ?_ | refine auNt ?_ | refine auNf ?_ | refine auEt ?_ | refine auEf ?_); conv => whnf)
                | ((with_reducible first | refine br_dec (fun h => ?_) (fun h => ?_) | refine br_ndec (fun h => ?_) (fun h => ?_) | refine br_ne (fun h => ?_) (fun h => ?_) | refine br_eq (fun h => ?_) (fun h => ?_)) <;> first | (exfalso; omega) | conv => whnf)
                | (refine br_intro (fun h => ?_) (fun h => ?_) <;> conv => whnf)
                | ((first | refine auNd ?_ | refine idx_nat (by omega) (fun x hx => ?_) | refine frz_auto ?_ | refine draw_plain ?_ | refine auIx (fun x hx => ?_)); conv => whnf)
              rw [hct]
              repeat' first
                | ((first | refine auIk ?_ | refine auIi ?_ | refine auT ?_ | refine auF ?_ | with_reducible first | refine auKt ?_ | refine auKf ?_ | refine auNt ?_ | refine auNf ?_ | refine auEt ?_ | refine auEf ?_); conv => whnf)
                | ((with_reducible first | refine br_dec (fun h => ?_) (fun h => ?_) | refine br_ndec (fun h => ?_) (fun h => ?_) | refine br_ne (fun h => ?_) (fun h => ?_) | refine br_eq (fun h => ?_) (fun h => ?_)) <;> first | (exfalso; omega) | conv => whnf)
                | (refine br_intro (fun h => ?_) (fun h => ?_) <;> conv => whnf)
                | ((first | refine auNd ?_ | refine idx_nat (by omega) (fun x hx => ?_) | refine frz_auto ?_ | refine draw_plain ?_ | refine auIx (fun x hx => ?_)); conv => whnf)
              · have h : (!(lkV c key).isSome) = true := h
                rw [hks] at h
                cases h
              · refine ap_err hm hl hap hy (fit_other.trans ?_) (by decide)
                rw [hk]
                exact if_neg (by have h : (!sEq v old) = true := h; simpa using h)
              · refine ⟨rfl, back_intro (by conv => whnf) rfl ⟨i + 1, g, chS c (mkI 3 key old new), rfl, ap_heap (L := c.set (lbP key c) (mkP key new)) ?_ ?_, by omega, ap_next hap hy (fit_other.trans (by rw [hk]; exact if_pos (by have h : (!sEq v old) = false := h; simpa using h))), chT_asc hac _ _, chS_len hcl⟩ ?_⟩
                · exact chS_other hac hk
                · rw [← chS_other hac hk, List.length_set]
                · show l.length - ((i : Int) + 1).toNat < l.length - (i : Int).toNat
                  omega
        · conv => whnf
          repeat' first
            | ((first | refine auIk ?_ | refine auIi ?_ | refine auT ?_ | refine auF ?_ | with_reducible first | refine auKt ?_ | refine auKf ?_ | refine auNt ?_ | refine auNf ?_ | refine auEt ?_ | refine auEf ?_); conv => whnf)
            | ((with_reducible first | refine br_dec (fun h => ?_) (fun h => ?_) | refine br_ndec (fun h => ?_) (fun h => ?_) | refine br_ne (fun h => ?_) (fun h => ?_) | refine br_eq (fun h => ?_) (fun h => ?_)) <;> first | (exfalso; omega) | conv => whnf)
            | (refine br_intro (fun h => ?_) (fun h => ?_) <;> conv => whnf)
            | ((first | refine auNd ?_ | refine idx_nat (by omega) (fun x hx => ?_) | refine frz_auto ?_ | refine draw_plain ?_ | refine auIx (fun x hx => ?_)); conv => whnf)
          · exact ap_full hm hl hap hil h
          · exact ap_done hm hl hap hil h
      · conv => whnf
        repeat' first
          | ((first | refine auIk ?_ | refine auIi ?_ | refine auT ?_ | refine auF ?_ | with_reducible first | refine auKt ?_ | refine auKf ?_ | refine auNt ?_ | refine auNf ?_ | refine auEt ?_ | refine auEf ?_); conv => whnf)
          | ((with_reducible first | refine br_dec (fun h => ?_) (fun h => ?_) | refine br_ndec (fun h => ?_) (fun h => ?_) | refine br_ne (fun h => ?_) (fun h => ?_) | refine br_eq (fun h => ?_) (fun h => ?_)) <;> first | (exfalso; omega) | conv => whnf)
          | (refine br_intro (fun h => ?_) (fun h => ?_) <;> conv => whnf)
          | ((first | refine auNd ?_ | refine idx_nat (by omega) (fun x hx => ?_) | refine frz_auto ?_ | refine draw_plain ?_ | refine auIx (fun x hx => ?_)); conv => whnf)
        rw [apR, if_neg (by simp [hm]), if_pos hl]
    · conv => whnf
      repeat' first
        | ((first | refine auIk ?_ | refine auIi ?_ | refine auT ?_ | refine auF ?_ | with_reducible first | refine auKt ?_ | refine auKf ?_ | refine auNt ?_ | refine auNf ?_ | refine auEt ?_ | refine auEf ?_); conv => whnf)
        | ((with_reducible first | refine br_dec (fun h => ?_) (fun h => ?_) | refine br_ndec (fun h => ?_) (fun h => ?_) | refine br_ne (fun h => ?_) (fun h => ?_) | refine br_eq (fun h => ?_) (fun h => ?_)) <;> first | (exfalso; omega) | conv => whnf)
        | (refine br_intro (fun h => ?_) (fun h => ?_) <;> conv => whnf)
        | ((first | refine auNd ?_ | refine idx_nat (by omega) (fun x hx => ?_) | refine frz_auto ?_ | refine draw_plain ?_ | refine auIx (fun x hx => ?_)); conv => whnf)
      rw [apR, if_pos hm]
  · cases h
end Go.Proofs.YtdbnohpolknbbaaGreat
namespace Go.Proofs.YtdbnohpolknbbaaGreat
open Av Bk

set_option maxRecDepth 100000 in
theorem fnOk_dThen : FnOk Tryz.prog 29 Tryz.f29 := ⟨by rfl, by kernel_rfl, by
  show okCode _ _ = true ∧ drawsOk _ = true
  exact ⟨by kernel_rfl, by kernel_rfl⟩⟩
set_option maxRecDepth 100000 in
theorem fnOk_dThen1 : FnOk Tryz.prog 55 Tryz.f55 := ⟨by rfl, by kernel_rfl, by
  show okCode _ _ = true ∧ drawsOk _ = true
  exact ⟨by kernel_rfl, by kernel_rfl⟩⟩
set_option maxRecDepth 100000 in
theorem fnOk_dEnds : FnOk Tryz.prog 56 Tryz.f56 := ⟨by rfl, by kernel_rfl, by
  show okCode _ _ = true ∧ drawsOk _ = true
  exact ⟨by kernel_rfl, by kernel_rfl⟩⟩
set_option maxRecDepth 100000 in
theorem fnOk_dItem : FnOk Tryz.prog 57 Tryz.f57 := ⟨by rfl, by kernel_rfl, by
  show okCode _ _ = true ∧ drawsOk _ = true
  exact ⟨by kernel_rfl, by kernel_rfl⟩⟩
set_option maxRecDepth 100000 in
set_option maxHeartbeats 4000000 in
theorem dItem_ok : SpecOk Tryz.prog 57 spItm := by
  refine spec_body (C := cx0) mixed tbOk SpecsOk.nil (callN_ok (C := cx0) mixed tbOk SpecsOk.nil FnsOk.nil 0) fnOk_dItem ?_
  intro ys p r h hp
  unfold spItm at h
  split at h
  · rename_i k a av b bv
    cases h
    conv => whnf
    repeat' first
      | ((first | refine auIk ?_ | refine auIi ?_ | refine auT ?_ | refine auF ?_ | with_reducible first | refine auKt ?_ | refine auKf ?_ | refine auNt ?_ | refine auNf ?_ | refine auEt ?_ | refine auEf ?_); conv => whnf)
      | ((with_reducible first | refine br_dec (fun h => ?_) (fun h => ?_) | refine br_ndec (fun h => ?_) (fun h => ?_) | refine br_ne (fun h => ?_) (fun h => ?_) | refine br_eq (fun h => ?_) (fun h => ?_)) <;> first | (exfalso; omega) | conv => whnf)
      | (refine br_intro (fun h => ?_) (fun h => ?_) <;> conv => whnf)
      | ((first | refine auNd ?_ | refine idx_nat (by omega) (fun x hx => ?_) | refine frz_auto ?_ | refine draw_plain ?_ | refine auIx (fun x hx => ?_)); conv => whnf)
    · rw [itmR, if_pos h]
    · rename_i h'
      rw [itmR, if_neg (by rw [h']; decide)]
      have ha : a = false := by simpa using h
      subst ha
      rfl
    · rename_i h'' h'
      rw [itmR, if_neg (by rw [h'']; decide)]
      have ha : a = true := by simpa using h'
      have hb : b = false := by simpa using h
      subst ha hb
      rfl
    · rename_i h'' h'
      rw [itmR, if_neg (by rw [h'']; decide)]
      have ha : a = true := by simpa using h'
      have hb : b = true := by simpa using h
      subst ha hb
      rfl
  · cases h
noncomputable def cxum : Cx := ⟨tb, [(40, Tryz.f40), (55, Tryz.f55), (56, Tryz.f56)], [(14, spIC), (57, spItm)]⟩
theorem specsum : SpecsOk Tryz.prog cxum.specs := .cons diffCheck_ok (.cons dItem_ok .nil)
theorem fnsum : FnsOk Tryz.prog cxum.fns := .cons fnOk_caught (.cons fnOk_dThen1 (.cons fnOk_dEnds .nil))
theorem callum (n : Nat) : CallOk Tryz.prog (callR [] cxum n) := callR_ok (C := cxum) mixed tbOk specsum fnsum RawsOk.nil n
noncomputable def cdum : CallDA := callDf cxum (callR [] cxum 2) [40]
theorem cdum_ok : CallDOk Tryz.prog cdum := callDf_ok (C := cxum) mixed tbOk specsum fnsum (callum 2) _
set_option maxRecDepth 100000 in
set_option maxHeartbeats 4000000 in
theorem dThen_ok : SpecOk Tryz.prog 29 spTh := by
  refine spec_bodyE (C := cxum) mixed tbOk specsum (callum 3) psub_ok cdum_ok fnOk_dThen ?_
  intro ys p r h hp
  unfold spTh at h
  split at h
  · rename_i l m
    cases h
    obtain ⟨hp1, hp2⟩ := hp
    by_cases hl : (icL l).2 = 0
    · by_cases hm : (icL m).2 = 0
      · have hll := icL_zero hl
        have hmm := icL_zero hm
        have q0 : ([l, m] : List (Ty.sl itemT).El)[Int.toNat 0]? = some l := rfl
        have q1 : ([l, m] : List (Ty.sl itemT).El)[Int.toNat (0 + 1)]? = some m := rfl
        conv => whnf
        repeat' first
          | ((first | refine auIk ?_ | refine auIi ?_ | refine auT ?_ | refine auF ?_ | with_reducible first | refine auKt ?_ | refine auKf ?_ | refine auNt ?_ | refine auNf ?_ | refine auEt ?_ | refine auEf ?_); conv => whnf)
          | ((with_reducible first | refine br_dec (fun h => ?_) (fun h => ?_) | refine br_ndec (fun h => ?_) (fun h => ?_) | refine br_ne (fun h => ?_) (fun h => ?_) | refine br_eq (fun h => ?_) (fun h => ?_)) <;> first | (exfalso; omega) | conv => whnf)
          | (refine br_intro (fun h => ?_) (fun h => ?_) <;> conv => whnf)
          | ((first | refine auNd ?_ | refine idx_nat (by omega) (fun x hx => ?_) | refine frz_auto ?_ | refine draw_plain ?_ | refine auIx (fun x hx => ?_)); conv => whnf)
        refine loop_turns 3 ?_
        conv => whnf
        repeat' first
          | ((first | refine auIk ?_ | refine auIi ?_ | refine auT ?_ | refine auF ?_ | with_reducible first | refine auKt ?_ | refine auKf ?_ | refine auNt ?_ | refine auNf ?_ | refine auEt ?_ | refine auEf ?_); conv => whnf)
          | ((with_reducible first | refine br_dec (fun h => ?_) (fun h => ?_) | refine br_ndec (fun h => ?_) (fun h => ?_) | refine br_ne (fun h => ?_) (fun h => ?_) | refine br_eq (fun h => ?_) (fun h => ?_)) <;> first | (exfalso; omega) | conv => whnf)
          | (refine br_intro (fun h => ?_) (fun h => ?_) <;> conv => whnf)
          | ((first | refine auNd ?_ | refine idx_nat (by omega) (fun x hx => ?_) | refine frz_auto ?_ | refine draw_plain ?_ | refine auIx (fun x hx => ?_)); conv => whnf)
        refine ⟨rfl, ?_⟩
        conv => whnf
        repeat' first
          | ((first | refine auIk ?_ | refine auIi ?_ | refine auT ?_ | refine auF ?_ | with_reducible first | refine auKt ?_ | refine auKf ?_ | refine auNt ?_ | refine auNf ?_ | refine auEt ?_ | refine auEf ?_); conv => whnf)
          | ((with_reducible first | refine br_dec (fun h => ?_) (fun h => ?_) | refine br_ndec (fun h => ?_) (fun h => ?_) | refine br_ne (fun h => ?_) (fun h => ?_) | refine br_eq (fun h => ?_) (fun h => ?_)) <;> first | (exfalso; omega) | conv => whnf)
          | (refine br_intro (fun h => ?_) (fun h => ?_) <;> conv => whnf)
          | ((first | refine auNd ?_ | refine idx_nat (by omega) (fun x hx => ?_) | refine frz_auto ?_ | refine draw_plain ?_ | refine auIx (fun x hx => ?_)); conv => whnf)
        refine ⟨rfl, ?_⟩
        conv => whnf
        repeat' first
          | ((first | refine auIk ?_ | refine auIi ?_ | refine auT ?_ | refine auF ?_ | with_reducible first | refine auKt ?_ | refine auKf ?_ | refine auNt ?_ | refine auNf ?_ | refine auEt ?_ | refine auEf ?_); conv => whnf)
          | ((with_reducible first | refine br_dec (fun h => ?_) (fun h => ?_) | refine br_ndec (fun h => ?_) (fun h => ?_) | refine br_ne (fun h => ?_) (fun h => ?_) | refine br_eq (fun h => ?_) (fun h => ?_)) <;> first | (exfalso; omega) | conv => whnf)
          | (refine br_intro (fun h => ?_) (fun h => ?_) <;> conv => whnf)
          | ((first | refine auNd ?_ | refine idx_nat (by omega) (fun x hx => ?_) | refine frz_auto ?_ | refine draw_plain ?_ | refine auIx (fun x hx => ?_)); conv => whnf)
        refine loop_inv [.cell 0 0 64 itemT] [0, 11] (fun vs h => ∃ (l' out : List itemT.El) (n g : Nat), vs = [.lst itemT l', .int .i64 (n : Int)] ∧ h = [.cells 28 [.own 4 g out.length], .cells 3 [.int .i64 0], .cells 29 [.int .i64 0], .arr 28 (.sl itemT) [l, m] false 0, .arr 64 itemT out false g] ∧ thGo [] l m 0 = thGo out l' (m.drop n) (n : Int) ∧ n ≤ m.length ∧ l'.length ≤ 8000 ∧ out.length + l'.length + (m.length - n) ≤ 16000 ∧ ∀ x ∈ l', itE x = 0) (fun vs _ => match vs with | [.lst _ l', .int _ n] => l'.length + (m.length - n.toNat) | _ => 0) ?_
        conv => whnf
        refine ⟨⟨l, [], 0, 0, rfl, rfl, rfl, Nat.zero_le _, hll.1, by have := hll.1; have := hmm.1; simp; omega, hll.2.1⟩, ?_⟩
        clear q0 q1
        rintro vs h' - ⟨l', out, n, g, rfl, rfl, hth, hn, hl8, hle, hval⟩
        have hm8 := hmm.1
        have hn0 : ([] : List itemT.El).length = 0 := rfl
        by_cases hnm : n < m.length
        · obtain ⟨y, hy⟩ : ∃ y, m[n]? = some y := ⟨_, List.getElem?_eq_getElem hnm⟩
          rw [th_drop hy] at hth
          rcases l' with _ | ⟨x, l'⟩
          · rw [th_ny] at hth
            simp only [List.length_nil] at hle
            conv => whnf
            repeat' first
              | ((first | refine auIk ?_ | refine auIi ?_ | refine auT ?_ | refine auF ?_ | with_reducible first | refine auKt ?_ | refine auKf ?_ | refine auNt ?_ | refine auNf ?_ | refine auEt ?_ | refine auEf ?_); conv => whnf)
              | ((with_reducible first | refine br_dec (fun h => ?_) (fun h => ?_) | refine br_ndec (fun h => ?_) (fun h => ?_) | refine br_ne (fun h => ?_) (fun h => ?_) | refine br_eq (fun h => ?_) (fun h => ?_)) <;> first | (exfalso; omega) | conv => whnf)
              | (refine br_intro (fun h => ?_) (fun h => ?_) <;> conv => whnf)
              | ((first | refine auNd ?_ | refine idx_nat (by omega) (fun x hx => ?_) | refine frz_auto ?_ | refine draw_plain ?_ | refine auIx (fun x hx => ?_)); conv => whnf)
            refine ⟨rfl, back_intro (by conv => whnf) rfl ⟨[], out ++ [y], n + 1, g + 1, rfl, th_heap ?_ ?_, hth, by omega, by simp, ?_, by simp⟩ ?_⟩
            · simp only [cast_self, List.take_length]; rfl
            · rw [List.length_append]; rfl
            · rw [List.length_append]; simp only [List.length_cons, List.length_nil] at hle ⊢; omega
            · show ([] : List itemT.El).length + (m.length - ((n : Int) + 1).toNat) < ([] : List itemT.El).length + (m.length - (n : Int).toNat)
              omega
          · have hx0 : (x :: l')[Int.toNat 0]? = some x := rfl
            have hlx : (x :: l').length = l'.length + 1 := rfl
            have hlx2 : 0 < (x :: l').length := Nat.succ_pos _
            by_cases h1 : sLt x.2.1 y.2.1 = true
            · rw [th_lt h1] at hth
              conv => whnf
              repeat' first
                | ((first | refine auIk ?_ | refine auIi ?_ | refine auT ?_ | refine auF ?_ | with_reducible first | refine auKt ?_ | refine auKf ?_ | refine auNt ?_ | refine auNf ?_ | refine auEt ?_ | refine auEf ?_); conv => whnf)
                | ((with_reducible first | refine br_dec (fun h => ?_) (fun h => ?_) | refine br_ndec (fun h => ?_) (fun h => ?_) | refine br_ne (fun h => ?_) (fun h => ?_) | refine br_eq (fun h => ?_) (fun h => ?_)) <;> first | (exfalso; omega) | conv => whnf)
                | (refine br_intro (fun h => ?_) (fun h => ?_) <;> conv => whnf)
                | ((first | refine auNd ?_ | refine idx_nat (by omega) (fun x hx => ?_) | refine frz_auto ?_ | refine draw_plain ?_ | refine auIx (fun x hx => ?_)); conv => whnf)
              refine ⟨rfl, back_intro (by conv => whnf) rfl ⟨l', out ++ [x], n, g + 1, th_vs tail_take rfl, th_heap ?_ ?_, by rw [th_drop hy]; exact hth, by omega, by omega, ?_, fun z hz => hval z (List.mem_cons_of_mem _ hz)⟩ ?_⟩
              · simp only [cast_self, List.take_length]; rfl
              · rw [List.length_append]; rfl
              · rw [List.length_append]; simp only [List.length_cons, List.length_nil] at hle ⊢; omega
              · show (List.take (((x :: l').length : Int).toNat - Int.toNat 1) (List.drop (Int.toNat 1) (x :: l'))).length + (m.length - (n : Int).toNat) < (x :: l').length + (m.length - (n : Int).toNat)
                rw [tail_take]
                simp only [List.length_cons]; omega
            · have h1 : sLt x.2.1 y.2.1 = false := by simpa using h1
              by_cases h2 : sLt y.2.1 x.2.1 = true
              · rw [th_gt h2] at hth
                conv => whnf
                repeat' first
                  | ((first | refine auIk ?_ | refine auIi ?_ | refine auT ?_ | refine auF ?_ | with_reducible first | refine auKt ?_ | refine auKf ?_ | refine auNt ?_ | refine auNf ?_ | refine auEt ?_ | refine auEf ?_); conv => whnf)
                  | ((with_reducible first | refine br_dec (fun h => ?_) (fun h => ?_) | refine br_ndec (fun h => ?_) (fun h => ?_) | refine br_ne (fun h => ?_) (fun h => ?_) | refine br_eq (fun h => ?_) (fun h => ?_)) <;> first | (exfalso; omega) | conv => whnf)
                  | (refine br_intro (fun h => ?_) (fun h => ?_) <;> conv => whnf)
                  | ((first | refine auNd ?_ | refine idx_nat (by omega) (fun x hx => ?_) | refine frz_auto ?_ | refine draw_plain ?_ | refine auIx (fun x hx => ?_)); conv => whnf)
                refine ⟨rfl, back_intro (by conv => whnf) rfl ⟨x :: l', out ++ [y], n + 1, g + 1, th_vs rfl rfl, th_heap ?_ ?_, hth, by omega, by omega, ?_, hval⟩ ?_⟩
                · simp only [cast_self, List.take_length]; rfl
                · rw [List.length_append]; rfl
                · rw [List.length_append]; simp only [List.length_cons, List.length_nil] at hle ⊢; omega
                · show (x :: l').length + (m.length - ((n : Int) + 1).toNat) < (x :: l').length + (m.length - (n : Int).toNat)
                  omega
              · have h2 : sLt y.2.1 x.2.1 = false := by simpa using h2
                have hvx := hval x List.mem_cons_self
                have hvy := hmm.2.1 y (List.mem_of_getElem? hy)
                have hee := ends_eq hvx hvy
                have hji := join_itm hvx hvy
                conv => whnf
                repeat' first
                  | ((first | refine auIk ?_ | refine auIi ?_ | refine auT ?_ | refine auF ?_ | with_reducible first | refine auKt ?_ | refine auKf ?_ | refine auNt ?_ | refine auNf ?_ | refine auEt ?_ | refine auEf ?_); conv => whnf)
                  | ((with_reducible first | refine br_dec (fun h => ?_) (fun h => ?_) | refine br_ndec (fun h => ?_) (fun h => ?_) | refine br_ne (fun h => ?_) (fun h => ?_) | refine br_eq (fun h => ?_) (fun h => ?_)) <;> first | (exfalso; omega) | conv => whnf)
                  | (refine br_intro (fun h => ?_) (fun h => ?_) <;> conv => whnf)
                  | ((first | refine auNd ?_ | refine idx_nat (by omega) (fun x hx => ?_) | refine frz_auto ?_ | refine draw_plain ?_ | refine auIx (fun x hx => ?_)); conv => whnf)
                · have h : (!eqT (.st [.bool, .str]) (x.1 != 2, x.2.2.2.1, ()) (y.1 != 1, y.2.2.1, ())) = true := h
                  refine th_tup hl hm (hth.trans (th_ne h1 h2 (fun e => ?_))) rfl
                  rw [hee.2 e] at h
                  cases h
                · rename_i h'
                  have h' : (!eqT (.st [.bool, .str]) (x.1 != 2, x.2.2.2.1, ()) (y.1 != 1, y.2.2.1, ())) = false := h'
                  rw [th_eq h1 h2 (hee.1 (by simpa using h')), hji, if_pos h] at hth
                  refine ⟨rfl, back_intro (by conv => whnf) rfl ⟨l', _, n + 1, g + 1, th_vs tail_take rfl, th_heap ?_ ?_, hth, by omega, by omega, ?_, fun z hz => hval z (List.mem_cons_of_mem _ hz)⟩ ?_⟩
                  · simp only [cast_self, List.take_length]; rfl
                  · rw [List.length_append]; rfl
                  · rw [List.length_append]; simp only [List.length_cons, List.length_nil] at hle ⊢; omega
                  · show (List.take (((x :: l').length : Int).toNat - Int.toNat 1) (List.drop (Int.toNat 1) (x :: l'))).length + (m.length - ((n : Int) + 1).toNat) < (x :: l').length + (m.length - (n : Int).toNat)
                    rw [tail_take]
                    simp only [List.length_cons]; omega
                · rename_i h'
                  have h' : (!eqT (.st [.bool, .str]) (x.1 != 2, x.2.2.2.1, ()) (y.1 != 1, y.2.2.1, ())) = false := h'
                  rw [th_eq h1 h2 (hee.1 (by simpa using h')), hji, if_neg (by rw [h]; decide), List.append_nil] at hth
                  refine ⟨rfl, back_intro (by conv => whnf) rfl ⟨l', out, n + 1, g, th_vs tail_take rfl, rfl, hth, by omega, by omega, ?_, fun z hz => hval z (List.mem_cons_of_mem _ hz)⟩ ?_⟩
                  · simp only [List.length_cons] at hle ⊢; omega
                  · show (List.take (((x :: l').length : Int).toNat - Int.toNat 1) (List.drop (Int.toNat 1) (x :: l'))).length + (m.length - ((n : Int) + 1).toNat) < (x :: l').length + (m.length - (n : Int).toNat)
                    rw [tail_take]
                    simp only [List.length_cons]; omega
        · have hnm : n = m.length := by omega
          subst hnm
          rw [List.drop_length] at hth
          rcases l' with _ | ⟨x, l'⟩
          · rw [th_nn] at hth
            conv => whnf
            repeat' first
              | ((first | refine auIk ?_ | refine auIi ?_ | refine auT ?_ | refine auF ?_ | with_reducible first | refine auKt ?_ | refine auKf ?_ | refine auNt ?_ | refine auNf ?_ | refine auEt ?_ | refine auEf ?_); conv => whnf)
              | ((with_reducible first | refine br_dec (fun h => ?_) (fun h => ?_) | refine br_ndec (fun h => ?_) (fun h => ?_) | refine br_ne (fun h => ?_) (fun h => ?_) | refine br_eq (fun h => ?_) (fun h => ?_)) <;> first | (exfalso; omega) | conv => whnf)
              | (refine br_intro (fun h => ?_) (fun h => ?_) <;> conv => whnf)
              | ((first | refine auNd ?_ | refine idx_nat (by omega) (fun x hx => ?_) | refine frz_auto ?_ | refine draw_plain ?_ | refine auIx (fun x hx => ?_)); conv => whnf)
            exact th_tup hl hm hth (by simp)
          · have hx0 : (x :: l')[Int.toNat 0]? = some x := rfl
            have hlx : (x :: l').length = l'.length + 1 := rfl
            rw [th_xn] at hth
            conv => whnf
            repeat' first
              | ((first | refine auIk ?_ | refine auIi ?_ | refine auT ?_ | refine auF ?_ | with_reducible first | refine auKt ?_ | refine auKf ?_ | refine auNt ?_ | refine auNf ?_ | refine auEt ?_ | refine auEf ?_); conv => whnf)
              | ((with_reducible first | refine br_dec (fun h => ?_) (fun h => ?_) | refine br_ndec (fun h => ?_) (fun h => ?_) | refine br_ne (fun h => ?_) (fun h => ?_) | refine br_eq (fun h => ?_) (fun h => ?_)) <;> first | (exfalso; omega) | conv => whnf)
              | (refine br_intro (fun h => ?_) (fun h => ?_) <;> conv => whnf)
              | ((first | refine auNd ?_ | refine idx_nat (by omega) (fun x hx => ?_) | refine frz_auto ?_ | refine draw_plain ?_ | refine auIx (fun x hx => ?_)); conv => whnf)
            refine ⟨rfl, back_intro (by conv => whnf) rfl ⟨l', out ++ [x], m.length, g + 1, th_vs tail_take rfl, th_heap ?_ ?_, by rw [List.drop_length]; exact hth, by omega, by omega, ?_, fun z hz => hval z (List.mem_cons_of_mem _ hz)⟩ ?_⟩
            · simp only [cast_self, List.take_length]; rfl
            · rw [List.length_append]; rfl
            · rw [List.length_append]; simp only [List.length_cons, List.length_nil] at hle ⊢; omega
            · show (List.take (((x :: l').length : Int).toNat - Int.toNat 1) (List.drop (Int.toNat 1) (x :: l'))).length + (m.length - (m.length : Int).toNat) < (x :: l').length + (m.length - (m.length : Int).toNat)
              rw [tail_take]
              simp only [List.length_cons]; omega
      · have q0 : ([l, m] : List (Ty.sl itemT).El)[Int.toNat 0]? = some l := rfl
        have q1 : ([l, m] : List (Ty.sl itemT).El)[Int.toNat (0 + 1)]? = some m := rfl
        conv => whnf
        repeat' first
          | ((first | refine auIk ?_ | refine auIi ?_ | refine auT ?_ | refine auF ?_ | with_reducible first | refine auKt ?_ | refine auKf ?_ | refine auNt ?_ | refine auNf ?_ | refine auEt ?_ | refine auEf ?_); conv => whnf)
          | ((with_reducible first | refine br_dec (fun h => ?_) (fun h => ?_) | refine br_ndec (fun h => ?_) (fun h => ?_) | refine br_ne (fun h => ?_) (fun h => ?_) | refine br_eq (fun h => ?_) (fun h => ?_)) <;> first | (exfalso; omega) | conv => whnf)
          | (refine br_intro (fun h => ?_) (fun h => ?_) <;> conv => whnf)
          | ((first | refine auNd ?_ | refine idx_nat (by omega) (fun x hx => ?_) | refine frz_auto ?_ | refine draw_plain ?_ | refine auIx (fun x hx => ?_)); conv => whnf)
        refine loop_turns 3 ?_
        conv => whnf
        repeat' first
          | ((first | refine auIk ?_ | refine auIi ?_ | refine auT ?_ | refine auF ?_ | with_reducible first | refine auKt ?_ | refine auKf ?_ | refine auNt ?_ | refine auNf ?_ | refine auEt ?_ | refine auEf ?_); conv => whnf)
          | ((with_reducible first | refine br_dec (fun h => ?_) (fun h => ?_) | refine br_ndec (fun h => ?_) (fun h => ?_) | refine br_ne (fun h => ?_) (fun h => ?_) | refine br_eq (fun h => ?_) (fun h => ?_)) <;> first | (exfalso; omega) | conv => whnf)
          | (refine br_intro (fun h => ?_) (fun h => ?_) <;> conv => whnf)
          | ((first | refine auNd ?_ | refine idx_nat (by omega) (fun x hx => ?_) | refine frz_auto ?_ | refine draw_plain ?_ | refine auIx (fun x hx => ?_)); conv => whnf)
        refine ⟨rfl, ?_⟩
        conv => whnf
        repeat' first
          | ((first | refine auIk ?_ | refine auIi ?_ | refine auT ?_ | refine auF ?_ | with_reducible first | refine auKt ?_ | refine auKf ?_ | refine auNt ?_ | refine auNf ?_ | refine auEt ?_ | refine auEf ?_); conv => whnf)
          | ((with_reducible first | refine br_dec (fun h => ?_) (fun h => ?_) | refine br_ndec (fun h => ?_) (fun h => ?_) | refine br_ne (fun h => ?_) (fun h => ?_) | refine br_eq (fun h => ?_) (fun h => ?_)) <;> first | (exfalso; omega) | conv => whnf)
          | (refine br_intro (fun h => ?_) (fun h => ?_) <;> conv => whnf)
          | ((first | refine auNd ?_ | refine idx_nat (by omega) (fun x hx => ?_) | refine frz_auto ?_ | refine draw_plain ?_ | refine auIx (fun x hx => ?_)); conv => whnf)
        rw [thR, if_neg (by simp [hl]), if_pos hm]
    · have q0 : ([l, m] : List (Ty.sl itemT).El)[Int.toNat 0]? = some l := rfl
      conv => whnf
      repeat' first
        | ((first | refine auIk ?_ | refine auIi ?_ | refine auT ?_ | refine auF ?_ | with_reducible first | refine auKt ?_ | refine auKf ?_ | refine auNt ?_ | refine auNf ?_ | refine auEt ?_ | refine auEf ?_); conv => whnf)
        | ((with_reducible first | refine br_dec (fun h => ?_) (fun h => ?_) | refine br_ndec (fun h => ?_) (fun h => ?_) | refine br_ne (fun h => ?_) (fun h => ?_) | refine br_eq (fun h => ?_) (fun h => ?_)) <;> first | (exfalso; omega) | conv => whnf)
        | (refine br_intro (fun h => ?_) (fun h => ?_) <;> conv => whnf)
        | ((first | refine auNd ?_ | refine idx_nat (by omega) (fun x hx => ?_) | refine frz_auto ?_ | refine draw_plain ?_ | refine auIx (fun x hx => ?_)); conv => whnf)
      refine loop_turns 3 ?_
      conv => whnf
      repeat' first
        | ((first | refine auIk ?_ | refine auIi ?_ | refine auT ?_ | refine auF ?_ | with_reducible first | refine auKt ?_ | refine auKf ?_ | refine auNt ?_ | refine auNf ?_ | refine auEt ?_ | refine auEf ?_); conv => whnf)
        | ((with_reducible first | refine br_dec (fun h => ?_) (fun h => ?_) | refine br_ndec (fun h => ?_) (fun h => ?_) | refine br_ne (fun h => ?_) (fun h => ?_) | refine br_eq (fun h => ?_) (fun h => ?_)) <;> first | (exfalso; omega) | conv => whnf)
        | (refine br_intro (fun h => ?_) (fun h => ?_) <;> conv => whnf)
        | ((first | refine auNd ?_ | refine idx_nat (by omega) (fun x hx => ?_) | refine frz_auto ?_ | refine draw_plain ?_ | refine auIx (fun x hx => ?_)); conv => whnf)
      rw [thR, if_pos hl]
  · cases h
end Go.Proofs.YtdbnohpolknbbaaGreat
namespace Go.Proofs.YtdbnohpolknbbaaGreat
open Av Bk

def exUR : List runT.El := [(1, [mkE ⟨#[97]⟩ ⟨#[49]⟩ false 1, mkE ⟨#[98]⟩ ⟨#[50]⟩ false 2], ())]
def exUB : List entT.El := [mkE ⟨#[98]⟩ ⟨#[]⟩ true 3, mkE ⟨#[99]⟩ ⟨#[51]⟩ false 4]
def spExU : DSpec
  | [] => some (True, .tup [.agg [.lst entT [], .lst runT exUR], .agg [.lst entT exUB, .lst runT exUR]])
  | _ => none
set_option maxRecDepth 100000 in
theorem fnOk_exampleU : FnOk Tryz.prog 28 Tryz.f28 := ⟨by rfl, by kernel_rfl, by
  show okCode _ _ = true ∧ drawsOk _ = true
  exact ⟨by kernel_rfl, by kernel_rfl⟩⟩
set_option maxRecDepth 100000 in
theorem exampleU_ok : SpecOk Tryz.prog 28 spExU := by
  refine spec_body (C := cx0) mixed tbOk SpecsOk.nil (callN_ok (C := cx0) mixed tbOk SpecsOk.nil FnsOk.nil 0) fnOk_exampleU ?_
  intro ys p r h hp
  unfold spExU at h
  split at h
  · cases h
    conv => whnf
    repeat' first
      | (refine br_true (by first | with_reducible exact rfl | decide | rfl) ?_; conv => whnf)
      | (refine br_false (by first | with_reducible exact rfl | decide | rfl) ?_; conv => whnf)
      | (refine need_in (by first | exact trivial | exact ⟨rfl, Nat.le_refl _⟩ | decide | (simp only [inR]; omega) | omega) ?_; conv => whnf)
      | (refine frz_auto ?_; conv => whnf)
      | (refine draw_plain ?_; conv => whnf)
      | (refine idx_cl ?_; (conv => whnf); refine ⟨by decide, ?_⟩; conv => whnf)
      | fail
    rfl
  · cases h
def spAwU : DSpec
  | [] => some (True, .bool true)
  | _ => none
set_option maxRecDepth 100000 in
theorem fnOk_awakeU : FnOk Tryz.prog 8 Tryz.f8 := ⟨by rfl, by kernel_rfl, by
  show okCode _ _ = true ∧ drawsOk _ = true
  exact ⟨by kernel_rfl, by kernel_rfl⟩⟩
noncomputable def cxuu : Cx := ⟨tb, [], [(28, spExU), (9, spDv), (13, spSh), (10, spSv), (24, spAp), (29, spTh), (15, spSameI), (20, spInts), (16, spSameP)]⟩
theorem specsuu : SpecsOk Tryz.prog cxuu.specs := .cons exampleU_ok (.cons dDiff_ok (.cons dShared_ok (.cons dSame_ok (.cons dApply_ok (.cons dThen_ok (.cons sameIt_ok (.cons rInts_ok (.cons same05_ok .nil))))))))
set_option maxRecDepth 100000 in
set_option maxHeartbeats 4000000 in
theorem awakeU_ok : SpecOk Tryz.prog 8 spAwU := by
  refine spec_body (C := cxuu) mixed tbOk specsuu (callN_ok (C := cxuu) mixed tbOk specsuu FnsOk.nil 3) fnOk_awakeU ?_
  intro ys p r h hp
  unfold spAwU at h
  split at h
  · cases h
    have hdh : dhR [] exUR exUB exUR = ([1], 0) := by
      unfold dhR
      rw [if_neg (by decide), show shL exUR exUR = [1] by decide]
      simp [sortedI]
    conv => whnf
    repeat' first
      | (refine br_true (by first | with_reducible exact rfl | decide | rfl) ?_; conv => whnf)
      | (refine br_false (by first | with_reducible exact rfl | decide | rfl) ?_; conv => whnf)
      | (refine need_in (by first | exact trivial | exact ⟨rfl, Nat.le_refl _⟩ | decide | (simp only [inR]; omega) | omega) ?_; conv => whnf)
      | (refine frz_auto ?_; conv => whnf)
      | (refine draw_plain ?_; conv => whnf)
      | (refine idx_cl ?_; (conv => whnf); refine ⟨by decide, ?_⟩; conv => whnf)
      | fail
    rw [hdh]
    repeat' first
      | (refine br_true (by first | with_reducible exact rfl | decide | rfl) ?_; conv => whnf)
      | (refine br_false (by first | with_reducible exact rfl | decide | rfl) ?_; conv => whnf)
      | (refine need_in (by first | exact trivial | exact ⟨rfl, Nat.le_refl _⟩ | decide | (simp only [inR]; omega) | omega) ?_; conv => whnf)
      | (refine frz_auto ?_; conv => whnf)
      | (refine draw_plain ?_; conv => whnf)
      | (refine idx_cl ?_; (conv => whnf); refine ⟨by decide, ?_⟩; conv => whnf)
      | fail
    exact congrArg AV.bool (by decide)
  · cases h
end Go.Proofs.YtdbnohpolknbbaaGreat
