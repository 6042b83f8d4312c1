/-
  Differences applied to a map, by the code.
  Differences behind others, by the code.
  Whether differences are awake.
  The law of buffers.
-/
import Derived.Test.YtdbnohpolknbbaaUj
import Derived.Test.YtdbnohpolknbbaaSo1
import Derived.Test.YtdbnohpolknbbaaE4
import Derived.Test.YtdbnohpolknbbaaIa
namespace Go.Proofs.Ytdbnohpolknbbaa
open Av Bk

set_option maxRecDepth 100000 in
theorem fnOk_dApply : FnOk Try.prog 17 Try.f17 := ⟨by rfl, by kernel_rfl, by
  show okCode _ _ = true ∧ drawsOk _ = true
  exact ⟨by kernel_rfl, by kernel_rfl⟩⟩
set_option maxRecDepth 100000 in
theorem fnOk_dApply1 : FnOk Try.prog 36 Try.f36 := ⟨by rfl, by kernel_rfl, by
  show okCode _ _ = true ∧ drawsOk _ = true
  exact ⟨by kernel_rfl, by kernel_rfl⟩⟩
set_option maxRecDepth 100000 in
theorem fnOk_dFresh : FnOk Try.prog 38 Try.f38 := ⟨by rfl, by kernel_rfl, by
  show okCode _ _ = true ∧ drawsOk _ = true
  exact ⟨by kernel_rfl, by kernel_rfl⟩⟩
set_option maxRecDepth 100000 in
theorem fnOk_dGone : FnOk Try.prog 39 Try.f39 := ⟨by rfl, by kernel_rfl, by
  show okCode _ _ = true ∧ drawsOk _ = true
  exact ⟨by kernel_rfl, by kernel_rfl⟩⟩
set_option maxRecDepth 100000 in
theorem fnOk_dOther : FnOk Try.prog 40 Try.f40 := ⟨by rfl, by kernel_rfl, by
  show okCode _ _ = true ∧ drawsOk _ = true
  exact ⟨by kernel_rfl, by kernel_rfl⟩⟩
def spAp : DSpec
  | [.lst (.st [.str, .str]) m, .lst (.st [.int .i64, .str, .str, .str]) l] => some (m.length ≤ 4611686018427387904 ∧ l.length ≤ 4611686018427387904, .tup [.lst pairT (apR m l).1, .int .i64 (apR m l).2.1, .int .i64 (apR m l).2.2])
  | _ => none
noncomputable def cxuk : Cx := ⟨tb, [(28, Try.f28), (36, Try.f36), (38, Try.f38), (39, Try.f39), (40, Try.f40)], [(35, spMC), (26, spIC), (48, spFd), (37, spClP)]⟩
theorem specsuk : SpecsOk Try.prog cxuk.specs := .cons modelCheck_ok (.cons diffCheck_ok (.cons dFind_ok (.consF cloneP_ok .nil)))
theorem fnsuk : FnsOk Try.prog cxuk.fns := .cons fnOk_caught (.cons fnOk_dApply1 (.cons fnOk_dFresh (.cons fnOk_dGone (.cons fnOk_dOther .nil))))
def ruk : List (FuncId × RawA) := [(49, insA), (50, delA)]
theorem ruk_ok : RawsOk Try.prog ruk := .cons insPr_ok (.cons delPr_ok .nil)
theorem calluk (n : Nat) : CallOk Try.prog (callR ruk cxuk n) := callR_ok (C := cxuk) mixed tbOk specsuk fnsuk ruk_ok n
noncomputable def cduk : CallDA := callDf cxuk (callR ruk cxuk 2) [28]
theorem cduk_ok : CallDOk Try.prog cduk := callDf_ok (C := cxuk) mixed tbOk specsuk fnsuk (calluk 2) _
theorem ap_heap {a b c e : AObj} {T T2 : TypeId} {L L' : List pairT.El} {g n n' : Nat} (hL : L = L') (hn : n = n') : [a, b, c, .arr T pairT L false g, .cells T2 [.own 3 g n], e] = [a, b, c, AObj.arr T pairT L' false g, .cells T2 [.own 3 g n'], e] := by rw [hL, hn]
theorem chS_len {c : List pairT.El} {i : Nat} {x : itemT.El} (h : c.length ≤ 4000 + i) : (chS c x).length ≤ 4000 + (i + 1) := by
  have : (chS c x).length ≤ c.length + 1 := chT_len _ _
  omega
set_option maxRecDepth 100000 in
set_option maxHeartbeats 4000000 in
theorem dApply_ok : SpecOk Try.prog 17 spAp := by
  refine spec_bodyE (C := cxuk) mixed tbOk specsuk (calluk 3) psub_ok cduk_ok fnOk_dApply ?_
  intro ys p r h hp
  unfold spAp at h
  split at h
  · rename_i m l
    cases h
    obtain ⟨hp1, hp2⟩ := hp
    by_cases hm : (mcL m).2 = 0
    · by_cases hl : (icL l).2 = 0
      · have hml := mcL_zero hm
        have hll := icL_zero hl
        conv => whnf
        repeat' first
          | ((first | refine auIk ?_ | refine auIi ?_ | refine auT ?_ | refine auF ?_ | with_reducible first | refine auKt ?_ | refine auKf ?_ | refine auNt ?_ | refine auNf ?_ | refine auEt ?_ | refine auEf ?_); conv => whnf)
          | ((with_reducible first | refine br_dec (fun h => ?_) (fun h => ?_) | refine br_ndec (fun h => ?_) (fun h => ?_) | refine br_ne (fun h => ?_) (fun h => ?_) | refine br_eq (fun h => ?_) (fun h => ?_)) <;> first | (exfalso; omega) | conv => whnf)
          | (refine br_intro (fun h => ?_) (fun h => ?_) <;> conv => whnf)
          | ((first | refine auNd ?_ | refine idx_nat (by omega) (fun x hx => ?_) | refine frz_auto ?_ | refine draw_plain ?_ | refine auIx (fun x hx => ?_)); conv => whnf)
        refine loop_inv [] [47] (fun vs h => ∃ (i g : Nat) (c : List pairT.El), vs = [.int .i64 (i : Int)] ∧ h = [.cells 52 [.zsl pairT], .cells 3 [.int .i64 0], .cells 29 [.int .i64 0], .arr 56 pairT c false g, .cells 85 [.own 3 g c.length], .cells 88 [.nilfn, .fn (.func 38) [.ptr 4 0] [], .fn (.func 39) [.ptr 4 0] [], .fn (.func 40) [.ptr 4 0] []]] ∧ i ≤ l.length ∧ apGo 0 l m = apGo (i : Int) (l.drop i) c ∧ ascP c ∧ c.length ≤ 4000 + i) (fun vs _ => match vs with | [.int _ k] => l.length - k.toNat | _ => 0) ?_
        conv => whnf
        refine ⟨⟨0, 0, m, rfl, rfl, Nat.zero_le _, rfl, hml.2.2, hml.1⟩, ?_⟩
        rintro vs h' - ⟨i, g, c, rfl, rfl, hi, hap, hac, hcl⟩
        have hl8 := hll.1
        have hc1 : c.length ≤ 100000 := by omega
        by_cases hil : i < l.length
        · obtain ⟨y, hy⟩ : ∃ y, l[i]? = some y := ⟨_, List.getElem?_eq_getElem hil⟩
          obtain ⟨k, key, old, new, u⟩ := y
          have hyE := hll.2.1 _ (List.mem_of_getElem? hy)
          have hct : List.take c.length c = c := List.take_length
          have hle := lbP_le key c
          rcases itE_kind hyE with rfl | rfl | rfl
          · cases hk : lkV c key with
            | none =>
              have hks : (lkV c key).isSome = false := by rw [hk]; rfl
              conv => whnf
              repeat' first
                | ((first | refine auIk ?_ | refine auIi ?_ | refine auT ?_ | refine auF ?_ | with_reducible first | refine auKt ?_ | refine auKf ?_ | refine auNt ?_ | refine auNf ?_ | refine auEt ?_ | refine auEf ?_); conv => whnf)
                | ((with_reducible first | refine br_dec (fun h => ?_) (fun h => ?_) | refine br_ndec (fun h => ?_) (fun h => ?_) | refine br_ne (fun h => ?_) (fun h => ?_) | refine br_eq (fun h => ?_) (fun h => ?_)) <;> first | (exfalso; omega) | conv => whnf)
                | (refine br_intro (fun h => ?_) (fun h => ?_) <;> conv => whnf)
                | ((first | refine auNd ?_ | refine idx_nat (by omega) (fun x hx => ?_) | refine frz_auto ?_ | refine draw_plain ?_ | refine auIx (fun x hx => ?_)); conv => whnf)
              rw [hct]
              repeat' first
                | ((first | refine auIk ?_ | refine auIi ?_ | refine auT ?_ | refine auF ?_ | with_reducible first | refine auKt ?_ | refine auKf ?_ | refine auNt ?_ | refine auNf ?_ | refine auEt ?_ | refine auEf ?_); conv => whnf)
                | ((with_reducible first | refine br_dec (fun h => ?_) (fun h => ?_) | refine br_ndec (fun h => ?_) (fun h => ?_) | refine br_ne (fun h => ?_) (fun h => ?_) | refine br_eq (fun h => ?_) (fun h => ?_)) <;> first | (exfalso; omega) | conv => whnf)
                | (refine br_intro (fun h => ?_) (fun h => ?_) <;> conv => whnf)
                | ((first | refine auNd ?_ | refine idx_nat (by omega) (fun x hx => ?_) | refine frz_auto ?_ | refine draw_plain ?_ | refine auIx (fun x hx => ?_)); conv => whnf)
              refine ⟨rfl, back_intro (by conv => whnf) rfl ⟨i + 1, g + 1, chS c (mkI 1 key old new), rfl, ap_heap (L := c.take (lbP key c) ++ ([mkP key new] ++ (c.take c.length).drop (lbP key c))) ?_ ?_, by omega, ap_next hap hy (fit_new.trans (if_neg (by rw [hks]; decide))), chT_asc hac _ _, chS_len hcl⟩ ?_⟩
              · rw [hct]; exact chS_new hac hk
              · rw [← chS_new hac hk]; simp only [List.length_append, List.length_take, List.length_drop, List.length_cons, List.length_nil]; omega
              · show l.length - ((i : Int) + 1).toNat < l.length - (i : Int).toNat
                omega
            | some v =>
              have hks : (lkV c key).isSome = true := by rw [hk]; rfl
              conv => whnf
              repeat' first
                | ((first | refine auIk ?_ | refine auIi ?_ | refine auT ?_ | refine auF ?_ | with_reducible first | refine auKt ?_ | refine auKf ?_ | refine auNt ?_ | refine auNf ?_ | refine auEt ?_ | refine auEf ?_); conv => whnf)
                | ((with_reducible first | refine br_dec (fun h => ?_) (fun h => ?_) | refine br_ndec (fun h => ?_) (fun h => ?_) | refine br_ne (fun h => ?_) (fun h => ?_) | refine br_eq (fun h => ?_) (fun h => ?_)) <;> first | (exfalso; omega) | conv => whnf)
                | (refine br_intro (fun h => ?_) (fun h => ?_) <;> conv => whnf)
                | ((first | refine auNd ?_ | refine idx_nat (by omega) (fun x hx => ?_) | refine frz_auto ?_ | refine draw_plain ?_ | refine auIx (fun x hx => ?_)); conv => whnf)
              rw [hct]
              repeat' first
                | ((first | refine auIk ?_ | refine auIi ?_ | refine auT ?_ | refine auF ?_ | with_reducible first | refine auKt ?_ | refine auKf ?_ | refine auNt ?_ | refine auNf ?_ | refine auEt ?_ | refine auEf ?_); conv => whnf)
                | ((with_reducible first | refine br_dec (fun h => ?_) (fun h => ?_) | refine br_ndec (fun h => ?_) (fun h => ?_) | refine br_ne (fun h => ?_) (fun h => ?_) | refine br_eq (fun h => ?_) (fun h => ?_)) <;> first | (exfalso; omega) | conv => whnf)
                | (refine br_intro (fun h => ?_) (fun h => ?_) <;> conv => whnf)
                | ((first | refine auNd ?_ | refine idx_nat (by omega) (fun x hx => ?_) | refine frz_auto ?_ | refine draw_plain ?_ | refine auIx (fun x hx => ?_)); conv => whnf)
              exact ap_err hm hl hap hy (fit_new.trans (if_pos hks)) (by decide)
          · cases hk : lkV c key with
            | none =>
              have hks : (lkV c key).isSome = false := by rw [hk]; rfl
              conv => whnf
              repeat' first
                | ((first | refine auIk ?_ | refine auIi ?_ | refine auT ?_ | refine auF ?_ | with_reducible first | refine auKt ?_ | refine auKf ?_ | refine auNt ?_ | refine auNf ?_ | refine auEt ?_ | refine auEf ?_); conv => whnf)
                | ((with_reducible first | refine br_dec (fun h => ?_) (fun h => ?_) | refine br_ndec (fun h => ?_) (fun h => ?_) | refine br_ne (fun h => ?_) (fun h => ?_) | refine br_eq (fun h => ?_) (fun h => ?_)) <;> first | (exfalso; omega) | conv => whnf)
                | (refine br_intro (fun h => ?_) (fun h => ?_) <;> conv => whnf)
                | ((first | refine auNd ?_ | refine idx_nat (by omega) (fun x hx => ?_) | refine frz_auto ?_ | refine draw_plain ?_ | refine auIx (fun x hx => ?_)); conv => whnf)
              rw [hct]
              repeat' first
                | ((first | refine auIk ?_ | refine auIi ?_ | refine auT ?_ | refine auF ?_ | with_reducible first | refine auKt ?_ | refine auKf ?_ | refine auNt ?_ | refine auNf ?_ | refine auEt ?_ | refine auEf ?_); conv => whnf)
                | ((with_reducible first | refine br_dec (fun h => ?_) (fun h => ?_) | refine br_ndec (fun h => ?_) (fun h => ?_) | refine br_ne (fun h => ?_) (fun h => ?_) | refine br_eq (fun h => ?_) (fun h => ?_)) <;> first | (exfalso; omega) | conv => whnf)
                | (refine br_intro (fun h => ?_) (fun h => ?_) <;> conv => whnf)
                | ((first | refine auNd ?_ | refine idx_nat (by omega) (fun x hx => ?_) | refine frz_auto ?_ | refine draw_plain ?_ | refine auIx (fun x hx => ?_)); conv => whnf)
              · exact ap_err hm hl hap hy (fit_gone.trans (by rw [hk])) (by decide)
              · have h : (!(lkV c key).isSome) = false := h
                rw [hks] at h
                cases h
            | some v =>
              have hks : (lkV c key).isSome = true := by rw [hk]; rfl
              have hat := lkV_at hac hk
              have hlt := (List.getElem?_eq_some_iff.1 hat).1
              conv => whnf
              repeat' first
                | ((first | refine auIk ?_ | refine auIi ?_ | refine auT ?_ | refine auF ?_ | with_reducible first | refine auKt ?_ | refine auKf ?_ | refine auNt ?_ | refine auNf ?_ | refine auEt ?_ | refine auEf ?_); conv => whnf)
                | ((with_reducible first | refine br_dec (fun h => ?_) (fun h => ?_) | refine br_ndec (fun h => ?_) (fun h => ?_) | refine br_ne (fun h => ?_) (fun h => ?_) | refine br_eq (fun h => ?_) (fun h => ?_)) <;> first | (exfalso; omega) | conv => whnf)
                | (refine br_intro (fun h => ?_) (fun h => ?_) <;> conv => whnf)
                | ((first | refine auNd ?_ | refine idx_nat (by omega) (fun x hx => ?_) | refine frz_auto ?_ | refine draw_plain ?_ | refine auIx (fun x hx => ?_)); conv => whnf)
              rw [hct]
              repeat' first
                | ((first | refine auIk ?_ | refine auIi ?_ | refine auT ?_ | refine auF ?_ | with_reducible first | refine auKt ?_ | refine auKf ?_ | refine auNt ?_ | refine auNf ?_ | refine auEt ?_ | refine auEf ?_); conv => whnf)
                | ((with_reducible first | refine br_dec (fun h => ?_) (fun h => ?_) | refine br_ndec (fun h => ?_) (fun h => ?_) | refine br_ne (fun h => ?_) (fun h => ?_) | refine br_eq (fun h => ?_) (fun h => ?_)) <;> first | (exfalso; omega) | conv => whnf)
                | (refine br_intro (fun h => ?_) (fun h => ?_) <;> conv => whnf)
                | ((first | refine auNd ?_ | refine idx_nat (by omega) (fun x hx => ?_) | refine frz_auto ?_ | refine draw_plain ?_ | refine auIx (fun x hx => ?_)); conv => whnf)
              · have h : (!(lkV c key).isSome) = true := h
                rw [hks] at h
                cases h
              · refine ap_err hm hl hap hy (fit_gone.trans ?_) (by decide)
                rw [hk]
                exact if_neg (by have h : (!sEq v old) = true := h; simpa using h)
              · refine ⟨rfl, back_intro (by conv => whnf) rfl ⟨i + 1, g + 1, chS c (mkI 2 key old new), rfl, ap_heap (L := c.take (lbP key c) ++ (c.take c.length).drop ((lbP key c : Int) + 1).toNat) ?_ ?_, by omega, ap_next hap hy (fit_gone.trans (by rw [hk]; exact if_pos (by have h : (!sEq v old) = false := h; simpa using h))), chT_asc hac _ _, chS_len hcl⟩ ?_⟩
                · rw [hct, show ((lbP key c : Int) + 1).toNat = lbP key c + 1 by omega]; exact chS_gone hac hk
                · show c.length - (((lbP key c : Int) + 1).toNat - (lbP key c : Int).toNat) = _
                  rw [← chS_gone hac hk]; simp only [List.length_append, List.length_take, List.length_drop]; omega
                · show l.length - ((i : Int) + 1).toNat < l.length - (i : Int).toNat
                  omega
          · cases hk : lkV c key with
            | none =>
              have hks : (lkV c key).isSome = false := by rw [hk]; rfl
              conv => whnf
              repeat' first
                | ((first | refine auIk ?_ | refine auIi ?_ | refine auT ?_ | refine auF ?_ | with_reducible first | refine auKt ?_ | refine auKf ?_ | refine auNt ?_ | refine auNf ?_ | refine auEt ?_ | refine auEf ?_); conv => whnf)
                | ((with_reducible first | refine br_dec (fun h => ?_) (fun h => ?_) | refine br_ndec (fun h => ?_) (fun h => ?_) | refine br_ne (fun h => ?_) (fun h => ?_) | refine br_eq (fun h => ?_) (fun h => ?_)) <;> first | (exfalso; omega) | conv => whnf)
                | (refine br_intro (fun h => ?_) (fun h => ?_) <;> conv => whnf)
                | ((first | refine auNd ?_ | refine idx_nat (by omega) (fun x hx => ?_) | refine frz_auto ?_ | refine draw_plain ?_ | refine auIx (fun x hx => ?_)); conv => whnf)
              rw [hct]
              repeat' first
                | ((first | refine auIk ?_ | refine auIi ?_ | refine auT ?_ | refine auF ?_ | with_reducible first | refine auKt ?_ | refine auKf ?_ | refine auNt ?_ | refine auNf ?_ | refine auEt ?_ | refine auEf ?_); conv => whnf)
                | ((with_reducible first | refine br_dec (fun h => ?_) (fun h => ?_) | refine br_ndec (fun h => ?_) (fun h => ?_) | refine br_ne (fun h => ?_) (fun h => ?_) | refine br_eq (fun h => ?_) (fun h => ?_)) <;> first | (exfalso; omega) | conv => whnf)
                | (refine br_intro (fun h => ?_) (fun h => ?_) <;> conv => whnf)
                | ((first | refine auNd ?_ | refine idx_nat (by omega) (fun x hx => ?_) | refine frz_auto ?_ | refine draw_plain ?_ | refine auIx (fun x hx => ?_)); conv => whnf)
              · exact ap_err hm hl hap hy (fit_other.trans (by rw [hk])) (by decide)
              · have h : (!(lkV c key).isSome) = false := h
                rw [hks] at h
                cases h
            | some v =>
              have hks : (lkV c key).isSome = true := by rw [hk]; rfl
              have hat := lkV_at hac hk
              have hlt := (List.getElem?_eq_some_iff.1 hat).1
              conv => whnf
              repeat' first
                | ((first | refine auIk ?_ | refine auIi ?_ | refine auT ?_ | refine auF ?_ | with_reducible first | refine auKt ?_ | refine auKf ?_ | refine auNt ?_ | refine auNf ?_ | refine auEt ?_ | refine auEf ?_); conv => whnf)
                | ((with_reducible first | refine br_dec (fun h => ?_) (fun h => ?_) | refine br_ndec (fun h => ?_) (fun h => ?_) | refine br_ne (fun h => ?_) (fun h => ?_) | refine br_eq (fun h => ?_) (fun h => ?_)) <;> first | (exfalso; omega) | conv => whnf)
                | (refine br_intro (fun h => ?_) (fun h => ?_) <;> conv => whnf)
                | ((first | refine auNd ?_ | refine idx_nat (by omega) (fun x hx => ?_) | refine frz_auto ?_ | refine draw_plain ?_ | refine auIx (fun x hx => ?_)); conv => whnf)
              rw [hct]
              repeat' first
                | ((first | refine auIk ?_ | refine auIi ?_ | refine auT ?_ | refine auF ?_ | with_reducible first | refine auKt ?_ | refine auKf ?_ | refine auNt ?_ | refine auNf ?_ | refine auEt ?_ | refine auEf ?_); conv => whnf)
                | ((with_reducible first | refine br_dec (fun h => ?_) (fun h => ?_) | refine br_ndec (fun h => ?_) (fun h => ?_) | refine br_ne (fun h => ?_) (fun h => ?_) | refine br_eq (fun h => ?_) (fun h => ?_)) <;> first | (exfalso; omega) | conv => whnf)
                | (refine br_intro (fun h => ?_) (fun h => ?_) <;> conv => whnf)
                | ((first | refine auNd ?_ | refine idx_nat (by omega) (fun x hx => ?_) | refine frz_auto ?_ | refine draw_plain ?_ | refine auIx (fun x hx => ?_)); conv => whnf)
              · have h : (!(lkV c key).isSome) = true := h
                rw [hks] at h
                cases h
              · refine ap_err hm hl hap hy (fit_other.trans ?_) (by decide)
                rw [hk]
                exact if_neg (by have h : (!sEq v old) = true := h; simpa using h)
              · refine ⟨rfl, back_intro (by conv => whnf) rfl ⟨i + 1, g, chS c (mkI 3 key old new), rfl, ap_heap (L := c.set (lbP key c) (mkP key new)) ?_ ?_, by omega, ap_next hap hy (fit_other.trans (by rw [hk]; exact if_pos (by have h : (!sEq v old) = false := h; simpa using h))), chT_asc hac _ _, chS_len hcl⟩ ?_⟩
                · exact chS_other hac hk
                · rw [← chS_other hac hk, List.length_set]
                · show l.length - ((i : Int) + 1).toNat < l.length - (i : Int).toNat
                  omega
        · conv => whnf
          repeat' first
            | ((first | refine auIk ?_ | refine auIi ?_ | refine auT ?_ | refine auF ?_ | with_reducible first | refine auKt ?_ | refine auKf ?_ | refine auNt ?_ | refine auNf ?_ | refine auEt ?_ | refine auEf ?_); conv => whnf)
            | ((with_reducible first | refine br_dec (fun h => ?_) (fun h => ?_) | refine br_ndec (fun h => ?_) (fun h => ?_) | refine br_ne (fun h => ?_) (fun h => ?_) | refine br_eq (fun h => ?_) (fun h => ?_)) <;> first | (exfalso; omega) | conv => whnf)
            | (refine br_intro (fun h => ?_) (fun h => ?_) <;> conv => whnf)
            | ((first | refine auNd ?_ | refine idx_nat (by omega) (fun x hx => ?_) | refine frz_auto ?_ | refine draw_plain ?_ | refine auIx (fun x hx => ?_)); conv => whnf)
          · exact ap_full hm hl hap hil h
          · exact ap_done hm hl hap hil h
      · conv => whnf
        repeat' first
          | ((first | refine auIk ?_ | refine auIi ?_ | refine auT ?_ | refine auF ?_ | with_reducible first | refine auKt ?_ | refine auKf ?_ | refine auNt ?_ | refine auNf ?_ | refine auEt ?_ | refine auEf ?_); conv => whnf)
          | ((with_reducible first | refine br_dec (fun h => ?_) (fun h => ?_) | refine br_ndec (fun h => ?_) (fun h => ?_) | refine br_ne (fun h => ?_) (fun h => ?_) | refine br_eq (fun h => ?_) (fun h => ?_)) <;> first | (exfalso; omega) | conv => whnf)
          | (refine br_intro (fun h => ?_) (fun h => ?_) <;> conv => whnf)
          | ((first | refine auNd ?_ | refine idx_nat (by omega) (fun x hx => ?_) | refine frz_auto ?_ | refine draw_plain ?_ | refine auIx (fun x hx => ?_)); conv => whnf)
        rw [apR, if_neg (by simp [hm]), if_pos hl]
    · conv => whnf
      repeat' first
        | ((first | refine auIk ?_ | refine auIi ?_ | refine auT ?_ | refine auF ?_ | with_reducible first | refine auKt ?_ | refine auKf ?_ | refine auNt ?_ | refine auNf ?_ | refine auEt ?_ | refine auEf ?_); conv => whnf)
        | ((with_reducible first | refine br_dec (fun h => ?_) (fun h => ?_) | refine br_ndec (fun h => ?_) (fun h => ?_) | refine br_ne (fun h => ?_) (fun h => ?_) | refine br_eq (fun h => ?_) (fun h => ?_)) <;> first | (exfalso; omega) | conv => whnf)
        | (refine br_intro (fun h => ?_) (fun h => ?_) <;> conv => whnf)
        | ((first | refine auNd ?_ | refine idx_nat (by omega) (fun x hx => ?_) | refine frz_auto ?_ | refine draw_plain ?_ | refine auIx (fun x hx => ?_)); conv => whnf)
      rw [apR, if_pos hm]
  · cases h
end Go.Proofs.Ytdbnohpolknbbaa
namespace Go.Proofs.Ytdbnohpolknbbaa
open Av Bk

set_option maxRecDepth 100000 in
theorem fnOk_dThen : FnOk Try.prog 12 Try.f12 := ⟨by rfl, by kernel_rfl, by
  show okCode _ _ = true ∧ drawsOk _ = true
  exact ⟨by kernel_rfl, by kernel_rfl⟩⟩
set_option maxRecDepth 100000 in
theorem fnOk_dThen1 : FnOk Try.prog 27 Try.f27 := ⟨by rfl, by kernel_rfl, by
  show okCode _ _ = true ∧ drawsOk _ = true
  exact ⟨by kernel_rfl, by kernel_rfl⟩⟩
set_option maxRecDepth 100000 in
theorem fnOk_dEnds : FnOk Try.prog 29 Try.f29 := ⟨by rfl, by kernel_rfl, by
  show okCode _ _ = true ∧ drawsOk _ = true
  exact ⟨by kernel_rfl, by kernel_rfl⟩⟩
set_option maxRecDepth 100000 in
theorem fnOk_dItem : FnOk Try.prog 31 Try.f31 := ⟨by rfl, by kernel_rfl, by
  show okCode _ _ = true ∧ drawsOk _ = true
  exact ⟨by kernel_rfl, by kernel_rfl⟩⟩
set_option maxRecDepth 100000 in
set_option maxHeartbeats 4000000 in
theorem dItem_ok : SpecOk Try.prog 31 spItm := by
  refine spec_body (C := cx0) mixed tbOk SpecsOk.nil (callN_ok (C := cx0) mixed tbOk SpecsOk.nil FnsOk.nil 0) fnOk_dItem ?_
  intro ys p r h hp
  unfold spItm at h
  split at h
  · rename_i k a av b bv
    cases h
    conv => whnf
    repeat' first
      | ((first | refine auIk ?_ | refine auIi ?_ | refine auT ?_ | refine auF ?_ | with_reducible first | refine auKt ?_ | refine auKf ?_ | refine auNt ?_ | refine auNf ?_ | refine auEt ?_ | refine auEf ?_); conv => whnf)
      | ((with_reducible first | refine br_dec (fun h => ?_) (fun h => ?_) | refine br_ndec (fun h => ?_) (fun h => ?_) | refine br_ne (fun h => ?_) (fun h => ?_) | refine br_eq (fun h => ?_) (fun h => ?_)) <;> first | (exfalso; omega) | conv => whnf)
      | (refine br_intro (fun h => ?_) (fun h => ?_) <;> conv => whnf)
      | ((first | refine auNd ?_ | refine idx_nat (by omega) (fun x hx => ?_) | refine frz_auto ?_ | refine draw_plain ?_ | refine auIx (fun x hx => ?_)); conv => whnf)
    · rw [itmR, if_pos h]
    · rename_i h'
      rw [itmR, if_neg (by rw [h']; decide)]
      have ha : a = false := by simpa using h
      subst ha
      rfl
    · rename_i h'' h'
      rw [itmR, if_neg (by rw [h'']; decide)]
      have ha : a = true := by simpa using h'
      have hb : b = false := by simpa using h
      subst ha hb
      rfl
    · rename_i h'' h'
      rw [itmR, if_neg (by rw [h'']; decide)]
      have ha : a = true := by simpa using h'
      have hb : b = true := by simpa using h
      subst ha hb
      rfl
  · cases h
noncomputable def cxum : Cx := ⟨tb, [(28, Try.f28), (27, Try.f27), (29, Try.f29)], [(26, spIC), (31, spItm)]⟩
theorem specsum : SpecsOk Try.prog cxum.specs := .cons diffCheck_ok (.cons dItem_ok .nil)
theorem fnsum : FnsOk Try.prog cxum.fns := .cons fnOk_caught (.cons fnOk_dThen1 (.cons fnOk_dEnds .nil))
theorem callum (n : Nat) : CallOk Try.prog (callR [] cxum n) := callR_ok (C := cxum) mixed tbOk specsum fnsum RawsOk.nil n
noncomputable def cdum : CallDA := callDf cxum (callR [] cxum 2) [28]
theorem cdum_ok : CallDOk Try.prog cdum := callDf_ok (C := cxum) mixed tbOk specsum fnsum (callum 2) _
set_option maxRecDepth 100000 in
set_option maxHeartbeats 4000000 in
theorem dThen_ok : SpecOk Try.prog 12 spTh := by
  refine spec_bodyE (C := cxum) mixed tbOk specsum (callum 3) psub_ok cdum_ok fnOk_dThen ?_
  intro ys p r h hp
  unfold spTh at h
  split at h
  · rename_i l m
    cases h
    obtain ⟨hp1, hp2⟩ := hp
    by_cases hl : (icL l).2 = 0
    · by_cases hm : (icL m).2 = 0
      · have hll := icL_zero hl
        have hmm := icL_zero hm
        have q0 : ([l, m] : List (Ty.sl itemT).El)[Int.toNat 0]? = some l := rfl
        have q1 : ([l, m] : List (Ty.sl itemT).El)[Int.toNat (0 + 1)]? = some m := rfl
        conv => whnf
        repeat' first
          | ((first | refine auIk ?_ | refine auIi ?_ | refine auT ?_ | refine auF ?_ | with_reducible first | refine auKt ?_ | refine auKf ?_ | refine auNt ?_ | refine auNf ?_ | refine auEt ?_ | refine auEf ?_); conv => whnf)
          | ((with_reducible first | refine br_dec (fun h => ?_) (fun h => ?_) | refine br_ndec (fun h => ?_) (fun h => ?_) | refine br_ne (fun h => ?_) (fun h => ?_) | refine br_eq (fun h => ?_) (fun h => ?_)) <;> first | (exfalso; omega) | conv => whnf)
          | (refine br_intro (fun h => ?_) (fun h => ?_) <;> conv => whnf)
          | ((first | refine auNd ?_ | refine idx_nat (by omega) (fun x hx => ?_) | refine frz_auto ?_ | refine draw_plain ?_ | refine auIx (fun x hx => ?_)); conv => whnf)
        refine loop_turns 3 ?_
        conv => whnf
        repeat' first
          | ((first | refine auIk ?_ | refine auIi ?_ | refine auT ?_ | refine auF ?_ | with_reducible first | refine auKt ?_ | refine auKf ?_ | refine auNt ?_ | refine auNf ?_ | refine auEt ?_ | refine auEf ?_); conv => whnf)
          | ((with_reducible first | refine br_dec (fun h => ?_) (fun h => ?_) | refine br_ndec (fun h => ?_) (fun h => ?_) | refine br_ne (fun h => ?_) (fun h => ?_) | refine br_eq (fun h => ?_) (fun h => ?_)) <;> first | (exfalso; omega) | conv => whnf)
          | (refine br_intro (fun h => ?_) (fun h => ?_) <;> conv => whnf)
          | ((first | refine auNd ?_ | refine idx_nat (by omega) (fun x hx => ?_) | refine frz_auto ?_ | refine draw_plain ?_ | refine auIx (fun x hx => ?_)); conv => whnf)
        refine ⟨rfl, ?_⟩
        conv => whnf
        repeat' first
          | ((first | refine auIk ?_ | refine auIi ?_ | refine auT ?_ | refine auF ?_ | with_reducible first | refine auKt ?_ | refine auKf ?_ | refine auNt ?_ | refine auNf ?_ | refine auEt ?_ | refine auEf ?_); conv => whnf)
          | ((with_reducible first | refine br_dec (fun h => ?_) (fun h => ?_) | refine br_ndec (fun h => ?_) (fun h => ?_) | refine br_ne (fun h => ?_) (fun h => ?_) | refine br_eq (fun h => ?_) (fun h => ?_)) <;> first | (exfalso; omega) | conv => whnf)
          | (refine br_intro (fun h => ?_) (fun h => ?_) <;> conv => whnf)
          | ((first | refine auNd ?_ | refine idx_nat (by omega) (fun x hx => ?_) | refine frz_auto ?_ | refine draw_plain ?_ | refine auIx (fun x hx => ?_)); conv => whnf)
        refine ⟨rfl, ?_⟩
        conv => whnf
        repeat' first
          | ((first | refine auIk ?_ | refine auIi ?_ | refine auT ?_ | refine auF ?_ | with_reducible first | refine auKt ?_ | refine auKf ?_ | refine auNt ?_ | refine auNf ?_ | refine auEt ?_ | refine auEf ?_); conv => whnf)
          | ((with_reducible first | refine br_dec (fun h => ?_) (fun h => ?_) | refine br_ndec (fun h => ?_) (fun h => ?_) | refine br_ne (fun h => ?_) (fun h => ?_) | refine br_eq (fun h => ?_) (fun h => ?_)) <;> first | (exfalso; omega) | conv => whnf)
          | (refine br_intro (fun h => ?_) (fun h => ?_) <;> conv => whnf)
          | ((first | refine auNd ?_ | refine idx_nat (by omega) (fun x hx => ?_) | refine frz_auto ?_ | refine draw_plain ?_ | refine auIx (fun x hx => ?_)); conv => whnf)
        refine loop_inv [.cell 0 0 37 itemT] [0, 11] (fun vs h => ∃ (l' out : List itemT.El) (n g : Nat), vs = [.lst itemT l', .int .i64 (n : Int)] ∧ h = [.cells 28 [.own 4 g out.length], .cells 3 [.int .i64 0], .cells 29 [.int .i64 0], .arr 28 (.sl itemT) [l, m] false 0, .arr 37 itemT out false g] ∧ thGo [] l m 0 = thGo out l' (m.drop n) (n : Int) ∧ n ≤ m.length ∧ l'.length ≤ 8000 ∧ out.length + l'.length + (m.length - n) ≤ 16000 ∧ ∀ x ∈ l', itE x = 0) (fun vs _ => match vs with | [.lst _ l', .int _ n] => l'.length + (m.length - n.toNat) | _ => 0) ?_
        conv => whnf
        refine ⟨⟨l, [], 0, 0, rfl, rfl, rfl, Nat.zero_le _, hll.1, by have := hll.1; have := hmm.1; simp; omega, hll.2.1⟩, ?_⟩
        clear q0 q1
        rintro vs h' - ⟨l', out, n, g, rfl, rfl, hth, hn, hl8, hle, hval⟩
        have hm8 := hmm.1
        have hn0 : ([] : List itemT.El).length = 0 := rfl
        by_cases hnm : n < m.length
        · obtain ⟨y, hy⟩ : ∃ y, m[n]? = some y := ⟨_, List.getElem?_eq_getElem hnm⟩
          rw [th_drop hy] at hth
          rcases l' with _ | ⟨x, l'⟩
          · rw [th_ny] at hth
            simp only [List.length_nil] at hle
            conv => whnf
            repeat' first
              | ((first | refine auIk ?_ | refine auIi ?_ | refine auT ?_ | refine auF ?_ | with_reducible first | refine auKt ?_ | refine auKf ?_ | refine auNt ?_ | refine auNf ?_ | refine auEt ?_ | refine auEf ?_); conv => whnf)
              | ((with_reducible first | refine br_dec (fun h => ?_) (fun h => ?_) | refine br_ndec (fun h => ?_) (fun h => ?_) | refine br_ne (fun h => ?_) (fun h => ?_) | refine br_eq (fun h => ?_) (fun h => ?_)) <;> first | (exfalso; omega) | conv => whnf)
              | (refine br_intro (fun h => ?_) (fun h => ?_) <;> conv => whnf)
              | ((first | refine auNd ?_ | refine idx_nat (by omega) (fun x hx => ?_) | refine frz_auto ?_ | refine draw_plain ?_ | refine auIx (fun x hx => ?_)); conv => whnf)
            refine ⟨rfl, back_intro (by conv => whnf) rfl ⟨[], out ++ [y], n + 1, g + 1, rfl, th_heap ?_ ?_, hth, by omega, by simp, ?_, by simp⟩ ?_⟩
            · simp only [cast_self, List.take_length]; rfl
            · rw [List.length_append]; rfl
            · rw [List.length_append]; simp only [List.length_cons, List.length_nil] at hle ⊢; omega
            · show ([] : List itemT.El).length + (m.length - ((n : Int) + 1).toNat) < ([] : List itemT.El).length + (m.length - (n : Int).toNat)
              omega
          · have hx0 : (x :: l')[Int.toNat 0]? = some x := rfl
            have hlx : (x :: l').length = l'.length + 1 := rfl
            have hlx2 : 0 < (x :: l').length := Nat.succ_pos _
            by_cases h1 : sLt x.2.1 y.2.1 = true
            · rw [th_lt h1] at hth
              conv => whnf
              repeat' first
                | ((first | refine auIk ?_ | refine auIi ?_ | refine auT ?_ | refine auF ?_ | with_reducible first | refine auKt ?_ | refine auKf ?_ | refine auNt ?_ | refine auNf ?_ | refine auEt ?_ | refine auEf ?_); conv => whnf)
                | ((with_reducible first | refine br_dec (fun h => ?_) (fun h => ?_) | refine br_ndec (fun h => ?_) (fun h => ?_) | refine br_ne (fun h => ?_) (fun h => ?_) | refine br_eq (fun h => ?_) (fun h => ?_)) <;> first | (exfalso; omega) | conv => whnf)
                | (refine br_intro (fun h => ?_) (fun h => ?_) <;> conv => whnf)
                | ((first | refine auNd ?_ | refine idx_nat (by omega) (fun x hx => ?_) | refine frz_auto ?_ | refine draw_plain ?_ | refine auIx (fun x hx => ?_)); conv => whnf)
              refine ⟨rfl, back_intro (by conv => whnf) rfl ⟨l', out ++ [x], n, g + 1, th_vs tail_take rfl, th_heap ?_ ?_, by rw [th_drop hy]; exact hth, by omega, by omega, ?_, fun z hz => hval z (List.mem_cons_of_mem _ hz)⟩ ?_⟩
              · simp only [cast_self, List.take_length]; rfl
              · rw [List.length_append]; rfl
              · rw [List.length_append]; simp only [List.length_cons, List.length_nil] at hle ⊢; omega
              · show (List.take (((x :: l').length : Int).toNat - Int.toNat 1) (List.drop (Int.toNat 1) (x :: l'))).length + (m.length - (n : Int).toNat) < (x :: l').length + (m.length - (n : Int).toNat)
                rw [tail_take]
                simp only [List.length_cons]; omega
            · have h1 : sLt x.2.1 y.2.1 = false := by simpa using h1
              by_cases h2 : sLt y.2.1 x.2.1 = true
              · rw [th_gt h2] at hth
                conv => whnf
                repeat' first
                  | ((first | refine auIk ?_ | refine auIi ?_ | refine auT ?_ | refine auF ?_ | with_reducible first | refine auKt ?_ | refine auKf ?_ | refine auNt ?_ | refine auNf ?_ | refine auEt ?_ | refine auEf ?_); conv => whnf)
                  | ((with_reducible first | refine br_dec (fun h => ?_) (fun h => ?_) | refine br_ndec (fun h => ?_) (fun h => ?_) | refine br_ne (fun h => ?_) (fun h => ?_) | refine br_eq (fun h => ?_) (fun h => ?_)) <;> first | (exfalso; omega) | conv => whnf)
                  | (refine br_intro (fun h => ?_) (fun h => ?_) <;> conv => whnf)
                  | ((first | refine auNd ?_ | refine idx_nat (by omega) (fun x hx => ?_) | refine frz_auto ?_ | refine draw_plain ?_ | refine auIx (fun x hx => ?_)); conv => whnf)
                refine ⟨rfl, back_intro (by conv => whnf) rfl ⟨x :: l', out ++ [y], n + 1, g + 1, th_vs rfl rfl, th_heap ?_ ?_, hth, by omega, by omega, ?_, hval⟩ ?_⟩
                · simp only [cast_self, List.take_length]; rfl
                · rw [List.length_append]; rfl
                · rw [List.length_append]; simp only [List.length_cons, List.length_nil] at hle ⊢; omega
                · show (x :: l').length + (m.length - ((n : Int) + 1).toNat) < (x :: l').length + (m.length - (n : Int).toNat)
                  omega
              · have h2 : sLt y.2.1 x.2.1 = false := by simpa using h2
                have hvx := hval x List.mem_cons_self
                have hvy := hmm.2.1 y (List.mem_of_getElem? hy)
                have hee := ends_eq hvx hvy
                have hji := join_itm hvx hvy
                conv => whnf
                repeat' first
                  | ((first | refine auIk ?_ | refine auIi ?_ | refine auT ?_ | refine auF ?_ | with_reducible first | refine auKt ?_ | refine auKf ?_ | refine auNt ?_ | refine auNf ?_ | refine auEt ?_ | refine auEf ?_); conv => whnf)
                  | ((with_reducible first | refine br_dec (fun h => ?_) (fun h => ?_) | refine br_ndec (fun h => ?_) (fun h => ?_) | refine br_ne (fun h => ?_) (fun h => ?_) | refine br_eq (fun h => ?_) (fun h => ?_)) <;> first | (exfalso; omega) | conv => whnf)
                  | (refine br_intro (fun h => ?_) (fun h => ?_) <;> conv => whnf)
                  | ((first | refine auNd ?_ | refine idx_nat (by omega) (fun x hx => ?_) | refine frz_auto ?_ | refine draw_plain ?_ | refine auIx (fun x hx => ?_)); conv => whnf)
                · have h : (!eqT (.st [.bool, .str]) (x.1 != 2, x.2.2.2.1, ()) (y.1 != 1, y.2.2.1, ())) = true := h
                  refine th_tup hl hm (hth.trans (th_ne h1 h2 (fun e => ?_))) rfl
                  rw [hee.2 e] at h
                  cases h
                · rename_i h'
                  have h' : (!eqT (.st [.bool, .str]) (x.1 != 2, x.2.2.2.1, ()) (y.1 != 1, y.2.2.1, ())) = false := h'
                  rw [th_eq h1 h2 (hee.1 (by simpa using h')), hji, if_pos h] at hth
                  refine ⟨rfl, back_intro (by conv => whnf) rfl ⟨l', _, n + 1, g + 1, th_vs tail_take rfl, th_heap ?_ ?_, hth, by omega, by omega, ?_, fun z hz => hval z (List.mem_cons_of_mem _ hz)⟩ ?_⟩
                  · simp only [cast_self, List.take_length]; rfl
                  · rw [List.length_append]; rfl
                  · rw [List.length_append]; simp only [List.length_cons, List.length_nil] at hle ⊢; omega
                  · show (List.take (((x :: l').length : Int).toNat - Int.toNat 1) (List.drop (Int.toNat 1) (x :: l'))).length + (m.length - ((n : Int) + 1).toNat) < (x :: l').length + (m.length - (n : Int).toNat)
                    rw [tail_take]
                    simp only [List.length_cons]; omega
                · rename_i h'
                  have h' : (!eqT (.st [.bool, .str]) (x.1 != 2, x.2.2.2.1, ()) (y.1 != 1, y.2.2.1, ())) = false := h'
                  rw [th_eq h1 h2 (hee.1 (by simpa using h')), hji, if_neg (by rw [h]; decide), List.append_nil] at hth
                  refine ⟨rfl, back_intro (by conv => whnf) rfl ⟨l', out, n + 1, g, th_vs tail_take rfl, rfl, hth, by omega, by omega, ?_, fun z hz => hval z (List.mem_cons_of_mem _ hz)⟩ ?_⟩
                  · simp only [List.length_cons] at hle ⊢; omega
                  · show (List.take (((x :: l').length : Int).toNat - Int.toNat 1) (List.drop (Int.toNat 1) (x :: l'))).length + (m.length - ((n : Int) + 1).toNat) < (x :: l').length + (m.length - (n : Int).toNat)
                    rw [tail_take]
                    simp only [List.length_cons]; omega
        · have hnm : n = m.length := by omega
          subst hnm
          rw [List.drop_length] at hth
          rcases l' with _ | ⟨x, l'⟩
          · rw [th_nn] at hth
            conv => whnf
            repeat' first
              | ((first | refine auIk ?_ | refine auIi ?_ | refine auT ?_ | refine auF ?_ | with_reducible first | refine auKt ?_ | refine auKf ?_ | refine auNt ?_ | refine auNf ?_ | refine auEt ?_ | refine auEf ?_); conv => whnf)
              | ((with_reducible first | refine br_dec (fun h => ?_) (fun h => ?_) | refine br_ndec (fun h => ?_) (fun h => ?_) | refine br_ne (fun h => ?_) (fun h => ?_) | refine br_eq (fun h => ?_) (fun h => ?_)) <;> first | (exfalso; omega) | conv => whnf)
              | (refine br_intro (fun h => ?_) (fun h => ?_) <;> conv => whnf)
              | ((first | refine auNd ?_ | refine idx_nat (by omega) (fun x hx => ?_) | refine frz_auto ?_ | refine draw_plain ?_ | refine auIx (fun x hx => ?_)); conv => whnf)
            exact th_tup hl hm hth (by simp)
          · have hx0 : (x :: l')[Int.toNat 0]? = some x := rfl
            have hlx : (x :: l').length = l'.length + 1 := rfl
            rw [th_xn] at hth
            conv => whnf
            repeat' first
              | ((first | refine auIk ?_ | refine auIi ?_ | refine auT ?_ | refine auF ?_ | with_reducible first | refine auKt ?_ | refine auKf ?_ | refine auNt ?_ | refine auNf ?_ | refine auEt ?_ | refine auEf ?_); conv => whnf)
              | ((with_reducible first | refine br_dec (fun h => ?_) (fun h => ?_) | refine br_ndec (fun h => ?_) (fun h => ?_) | refine br_ne (fun h => ?_) (fun h => ?_) | refine br_eq (fun h => ?_) (fun h => ?_)) <;> first | (exfalso; omega) | conv => whnf)
              | (refine br_intro (fun h => ?_) (fun h => ?_) <;> conv => whnf)
              | ((first | refine auNd ?_ | refine idx_nat (by omega) (fun x hx => ?_) | refine frz_auto ?_ | refine draw_plain ?_ | refine auIx (fun x hx => ?_)); conv => whnf)
            refine ⟨rfl, back_intro (by conv => whnf) rfl ⟨l', out ++ [x], m.length, g + 1, th_vs tail_take rfl, th_heap ?_ ?_, by rw [List.drop_length]; exact hth, by omega, by omega, ?_, fun z hz => hval z (List.mem_cons_of_mem _ hz)⟩ ?_⟩
            · simp only [cast_self, List.take_length]; rfl
            · rw [List.length_append]; rfl
            · rw [List.length_append]; simp only [List.length_cons, List.length_nil] at hle ⊢; omega
            · show (List.take (((x :: l').length : Int).toNat - Int.toNat 1) (List.drop (Int.toNat 1) (x :: l'))).length + (m.length - (m.length : Int).toNat) < (x :: l').length + (m.length - (m.length : Int).toNat)
              rw [tail_take]
              simp only [List.length_cons]; omega
      · have q0 : ([l, m] : List (Ty.sl itemT).El)[Int.toNat 0]? = some l := rfl
        have q1 : ([l, m] : List (Ty.sl itemT).El)[Int.toNat (0 + 1)]? = some m := rfl
        conv => whnf
        repeat' first
          | ((first | refine auIk ?_ | refine auIi ?_ | refine auT ?_ | refine auF ?_ | with_reducible first | refine auKt ?_ | refine auKf ?_ | refine auNt ?_ | refine auNf ?_ | refine auEt ?_ | refine auEf ?_); conv => whnf)
          | ((with_reducible first | refine br_dec (fun h => ?_) (fun h => ?_) | refine br_ndec (fun h => ?_) (fun h => ?_) | refine br_ne (fun h => ?_) (fun h => ?_) | refine br_eq (fun h => ?_) (fun h => ?_)) <;> first | (exfalso; omega) | conv => whnf)
          | (refine br_intro (fun h => ?_) (fun h => ?_) <;> conv => whnf)
          | ((first | refine auNd ?_ | refine idx_nat (by omega) (fun x hx => ?_) | refine frz_auto ?_ | refine draw_plain ?_ | refine auIx (fun x hx => ?_)); conv => whnf)
        refine loop_turns 3 ?_
        conv => whnf
        repeat' first
          | ((first | refine auIk ?_ | refine auIi ?_ | refine auT ?_ | refine auF ?_ | with_reducible first | refine auKt ?_ | refine auKf ?_ | refine auNt ?_ | refine auNf ?_ | refine auEt ?_ | refine auEf ?_); conv => whnf)
          | ((with_reducible first | refine br_dec (fun h => ?_) (fun h => ?_) | refine br_ndec (fun h => ?_) (fun h => ?_) | refine br_ne (fun h => ?_) (fun h => ?_) | refine br_eq (fun h => ?_) (fun h => ?_)) <;> first | (exfalso; omega) | conv => whnf)
          | (refine br_intro (fun h => ?_) (fun h => ?_) <;> conv => whnf)
          | ((first | refine auNd ?_ | refine idx_nat (by omega) (fun x hx => ?_) | refine frz_auto ?_ | refine draw_plain ?_ | refine auIx (fun x hx => ?_)); conv => whnf)
        refine ⟨rfl, ?_⟩
        conv => whnf
        repeat' first
          | ((first | refine auIk ?_ | refine auIi ?_ | refine auT ?_ | refine auF ?_ | with_reducible first | refine auKt ?_ | refine auKf ?_ | refine auNt ?_ | refine auNf ?_ | refine auEt ?_ | refine auEf ?_); conv => whnf)
          | ((with_reducible first | refine br_dec (fun h => ?_) (fun h => ?_) | refine br_ndec (fun h => ?_) (fun h => ?_) | refine br_ne (fun h => ?_) (fun h => ?_) | refine br_eq (fun h => ?_) (fun h => ?_)) <;> first | (exfalso; omega) | conv => whnf)
          | (refine br_intro (fun h => ?_) (fun h => ?_) <;> conv => whnf)
          | ((first | refine auNd ?_ | refine idx_nat (by omega) (fun x hx => ?_) | refine frz_auto ?_ | refine draw_plain ?_ | refine auIx (fun x hx => ?_)); conv => whnf)
        rw [thR, if_neg (by simp [hl]), if_pos hm]
    · have q0 : ([l, m] : List (Ty.sl itemT).El)[Int.toNat 0]? = some l := rfl
      conv => whnf
      repeat' first
        | ((first | refine auIk ?_ | refine auIi ?_ | refine auT ?_ | refine auF ?_ | with_reducible first | refine auKt ?_ | refine auKf ?_ | refine auNt ?_ | refine auNf ?_ | refine auEt ?_ | refine auEf ?_); conv => whnf)
        | ((with_reducible first | refine br_dec (fun h => ?_) (fun h => ?_) | refine br_ndec (fun h => ?_) (fun h => ?_) | refine br_ne (fun h => ?_) (fun h => ?_) | refine br_eq (fun h => ?_) (fun h => ?_)) <;> first | (exfalso; omega) | conv => whnf)
        | (refine br_intro (fun h => ?_) (fun h => ?_) <;> conv => whnf)
        | ((first | refine auNd ?_ | refine idx_nat (by omega) (fun x hx => ?_) | refine frz_auto ?_ | refine draw_plain ?_ | refine auIx (fun x hx => ?_)); conv => whnf)
      refine loop_turns 3 ?_
      conv => whnf
      repeat' first
        | ((first | refine auIk ?_ | refine auIi ?_ | refine auT ?_ | refine auF ?_ | with_reducible first | refine auKt ?_ | refine auKf ?_ | refine auNt ?_ | refine auNf ?_ | refine auEt ?_ | refine auEf ?_); conv => whnf)
        | ((with_reducible first | refine br_dec (fun h => ?_) (fun h => ?_) | refine br_ndec (fun h => ?_) (fun h => ?_) | refine br_ne (fun h => ?_) (fun h => ?_) | refine br_eq (fun h => ?_) (fun h => ?_)) <;> first | (exfalso; omega) | conv => whnf)
        | (refine br_intro (fun h => ?_) (fun h => ?_) <;> conv => whnf)
        | ((first | refine auNd ?_ | refine idx_nat (by omega) (fun x hx => ?_) | refine frz_auto ?_ | refine draw_plain ?_ | refine auIx (fun x hx => ?_)); conv => whnf)
      rw [thR, if_pos hl]
  · cases h
end Go.Proofs.Ytdbnohpolknbbaa
namespace Go.Proofs.Ytdbnohpolknbbaa
open Av Bk

def exUR : List runT.El := [(1, [mkE ⟨#[97]⟩ ⟨#[49]⟩ false 1, mkE ⟨#[98]⟩ ⟨#[50]⟩ false 2], ())]
def exUB : List entT.El := [mkE ⟨#[98]⟩ ⟨#[]⟩ true 3, mkE ⟨#[99]⟩ ⟨#[51]⟩ false 4]
def spExU : DSpec
  | [] => some (True, .tup [.agg [.lst entT [], .lst runT exUR], .agg [.lst entT exUB, .lst runT exUR]])
  | _ => none
set_option maxRecDepth 100000 in
theorem fnOk_exampleU : FnOk Try.prog 15 Try.f15 := ⟨by rfl, by kernel_rfl, by
  show okCode _ _ = true ∧ drawsOk _ = true
  exact ⟨by kernel_rfl, by kernel_rfl⟩⟩
set_option maxRecDepth 100000 in
theorem exampleU_ok : SpecOk Try.prog 15 spExU := by
  refine spec_body (C := cx0) mixed tbOk SpecsOk.nil (callN_ok (C := cx0) mixed tbOk SpecsOk.nil FnsOk.nil 0) fnOk_exampleU ?_
  intro ys p r h hp
  unfold spExU at h
  split at h
  · cases h
    conv => whnf
    repeat' first
      | (refine br_true (by first | with_reducible exact rfl | decide | rfl) ?_; conv => whnf)
      | (refine br_false (by first | with_reducible exact rfl | decide | rfl) ?_; conv => whnf)
      | (refine need_in (by first | exact trivial | exact ⟨rfl, Nat.le_refl _⟩ | decide | (simp only [inR]; omega) | omega) ?_; conv => whnf)
      | (refine frz_auto ?_; conv => whnf)
      | (refine draw_plain ?_; conv => whnf)
      | (refine idx_cl ?_; (conv => whnf); refine ⟨by decide, ?_⟩; conv => whnf)
      | fail
    rfl
  · cases h
def spAwU : DSpec
  | [] => some (True, .bool true)
  | _ => none
set_option maxRecDepth 100000 in
theorem fnOk_awakeU : FnOk Try.prog 7 Try.f7 := ⟨by rfl, by kernel_rfl, by
  show okCode _ _ = true ∧ drawsOk _ = true
  exact ⟨by kernel_rfl, by kernel_rfl⟩⟩
noncomputable def cxuu : Cx := ⟨tb, [], [(15, spExU), (8, spDv), (9, spSh), (16, spSv), (17, spAp), (12, spTh), (14, spSameI), (18, spInts), (19, spSameP)]⟩
theorem specsuu : SpecsOk Try.prog cxuu.specs := .cons exampleU_ok (.cons dDiff_ok (.cons dShared_ok (.cons dSame_ok (.cons dApply_ok (.cons dThen_ok (.cons sameIt_ok (.cons rInts_ok (.cons same05_ok .nil))))))))
set_option maxRecDepth 100000 in
set_option maxHeartbeats 4000000 in
theorem awakeU_ok : SpecOk Try.prog 7 spAwU := by
  refine spec_body (C := cxuu) mixed tbOk specsuu (callN_ok (C := cxuu) mixed tbOk specsuu FnsOk.nil 3) fnOk_awakeU ?_
  intro ys p r h hp
  unfold spAwU at h
  split at h
  · cases h
    have hdh : dhR [] exUR exUB exUR = ([1], 0) := by
      unfold dhR
      rw [if_neg (by decide), show shL exUR exUR = [1] by decide]
      simp [sortedI]
    conv => whnf
    repeat' first
      | (refine br_true (by first | with_reducible exact rfl | decide | rfl) ?_; conv => whnf)
      | (refine br_false (by first | with_reducible exact rfl | decide | rfl) ?_; conv => whnf)
      | (refine need_in (by first | exact trivial | exact ⟨rfl, Nat.le_refl _⟩ | decide | (simp only [inR]; omega) | omega) ?_; conv => whnf)
      | (refine frz_auto ?_; conv => whnf)
      | (refine draw_plain ?_; conv => whnf)
      | (refine idx_cl ?_; (conv => whnf); refine ⟨by decide, ?_⟩; conv => whnf)
      | fail
    rw [hdh]
    repeat' first
      | (refine br_true (by first | with_reducible exact rfl | decide | rfl) ?_; conv => whnf)
      | (refine br_false (by first | with_reducible exact rfl | decide | rfl) ?_; conv => whnf)
      | (refine need_in (by first | exact trivial | exact ⟨rfl, Nat.le_refl _⟩ | decide | (simp only [inR]; omega) | omega) ?_; conv => whnf)
      | (refine frz_auto ?_; conv => whnf)
      | (refine draw_plain ?_; conv => whnf)
      | (refine idx_cl ?_; (conv => whnf); refine ⟨by decide, ?_⟩; conv => whnf)
      | fail
    exact congrArg AV.bool (by decide)
  · cases h
end Go.Proofs.Ytdbnohpolknbbaa
namespace Go.Proofs.Ytdbnohpolknbbaa
open Av Bk

def hasE (l : List entT.El) (k : ByteArray) : Bool := l.any (fun x => sEq x.1 k)
def spHasU : DSpec
  | [.lst (.st [.str, .str, .bool, .int .i64]) l, .str k] => some (l.length ≤ 4611686018427387904, .bool (hasE l k))
  | _ => none
set_option maxRecDepth 100000 in
theorem fnOk_hasU : FnOk Try.prog 10 Try.f10 := ⟨by rfl, by kernel_rfl, by
  show okCode _ _ = true ∧ drawsOk _ = true
  exact ⟨by kernel_rfl, by kernel_rfl⟩⟩
set_option maxRecDepth 100000 in
set_option maxHeartbeats 4000000 in
theorem hasU_ok : SpecOk Try.prog 10 spHasU := by
  refine spec_body (C := cx0) mixed tbOk SpecsOk.nil (callN_ok (C := cx0) mixed tbOk SpecsOk.nil FnsOk.nil 0) fnOk_hasU ?_
  intro ys p r h hp
  unfold spHasU at h
  split at h
  · rename_i l k
    cases h
    conv => whnf
    repeat' first
      | ((first | refine auIk ?_ | refine auIi ?_ | refine auT ?_ | refine auF ?_ | with_reducible first | refine auKt ?_ | refine auKf ?_ | refine auNt ?_ | refine auNf ?_ | refine auEt ?_ | refine auEf ?_); conv => whnf)
      | ((with_reducible first | refine br_dec (fun h => ?_) (fun h => ?_) | refine br_ndec (fun h => ?_) (fun h => ?_) | refine br_ne (fun h => ?_) (fun h => ?_) | refine br_eq (fun h => ?_) (fun h => ?_)) <;> first | (exfalso; omega) | conv => whnf)
      | (refine br_intro (fun h => ?_) (fun h => ?_) <;> conv => whnf)
      | ((first | refine auNd ?_ | refine idx_nat (by omega) (fun x hx => ?_) | refine frz_auto ?_ | refine draw_plain ?_ | refine auIx (fun x hx => ?_)); conv => whnf)
    refine loop_inv [] [5] (fun vs h => ∃ i : Nat, vs = [.int .i64 (i : Int)] ∧ h = [] ∧ i ≤ l.length ∧ ∀ y ∈ l.take i, (fun x : entT.El => sEq x.1 k) y = false) (fun vs _ => match vs with | [.int _ k] => l.length - k.toNat | _ => 0) ?_
    conv => whnf
    refine ⟨⟨0, rfl, rfl, Nat.zero_le _, by simp⟩, ?_⟩
    rintro vs h' - ⟨i, rfl, rfl, hi, hall⟩
    by_cases hil : i < l.length
    · obtain ⟨x, hx⟩ : ∃ x, l[i]? = some x := ⟨_, List.getElem?_eq_getElem hil⟩
      by_cases hk : sEq x.1 k = true
      · conv => whnf
        repeat' first
          | ((first | refine auIk ?_ | refine auIi ?_ | refine auT ?_ | refine auF ?_ | with_reducible first | refine auKt ?_ | refine auKf ?_ | refine auNt ?_ | refine auNf ?_ | refine auEt ?_ | refine auEf ?_); conv => whnf)
          | ((with_reducible first | refine br_dec (fun h => ?_) (fun h => ?_) | refine br_ndec (fun h => ?_) (fun h => ?_) | refine br_ne (fun h => ?_) (fun h => ?_) | refine br_eq (fun h => ?_) (fun h => ?_)) <;> first | (exfalso; omega) | conv => whnf)
          | (refine br_intro (fun h => ?_) (fun h => ?_) <;> conv => whnf)
          | ((first | refine auNd ?_ | refine idx_nat (by omega) (fun x hx => ?_) | refine frz_auto ?_ | refine draw_plain ?_ | refine auIx (fun x hx => ?_)); conv => whnf)
        rw [show hasE l k = true from any_at (p := fun x : entT.El => sEq x.1 k) hx hk]
      · have hk : sEq x.1 k = false := by simpa using hk
        conv => whnf
        repeat' first
          | ((first | refine auIk ?_ | refine auIi ?_ | refine auT ?_ | refine auF ?_ | with_reducible first | refine auKt ?_ | refine auKf ?_ | refine auNt ?_ | refine auNf ?_ | refine auEt ?_ | refine auEf ?_); conv => whnf)
          | ((with_reducible first | refine br_dec (fun h => ?_) (fun h => ?_) | refine br_ndec (fun h => ?_) (fun h => ?_) | refine br_ne (fun h => ?_) (fun h => ?_) | refine br_eq (fun h => ?_) (fun h => ?_)) <;> first | (exfalso; omega) | conv => whnf)
          | (refine br_intro (fun h => ?_) (fun h => ?_) <;> conv => whnf)
          | ((first | refine auNd ?_ | refine idx_nat (by omega) (fun x hx => ?_) | refine frz_auto ?_ | refine draw_plain ?_ | refine auIx (fun x hx => ?_)); conv => whnf)
        refine back_intro (by conv => whnf) rfl ⟨i + 1, rfl, rfl, by omega, take_succ_all hall hx hk⟩ ?_
        show l.length - ((i : Int) + 1).toNat < l.length - (i : Int).toNat
        omega
    · conv => whnf
      repeat' first
        | ((first | refine auIk ?_ | refine auIi ?_ | refine auT ?_ | refine auF ?_ | with_reducible first | refine auKt ?_ | refine auKf ?_ | refine auNt ?_ | refine auNf ?_ | refine auEt ?_ | refine auEf ?_); conv => whnf)
        | ((with_reducible first | refine br_dec (fun h => ?_) (fun h => ?_) | refine br_ndec (fun h => ?_) (fun h => ?_) | refine br_ne (fun h => ?_) (fun h => ?_) | refine br_eq (fun h => ?_) (fun h => ?_)) <;> first | (exfalso; omega) | conv => whnf)
        | (refine br_intro (fun h => ?_) (fun h => ?_) <;> conv => whnf)
        | ((first | refine auNd ?_ | refine idx_nat (by omega) (fun x hx => ?_) | refine frz_auto ?_ | refine draw_plain ?_ | refine auIx (fun x hx => ?_)); conv => whnf)
      rw [show hasE l k = false from any_end (p := fun x : entT.El => sEq x.1 k) hall (by omega)]
  · cases h
/-! ### Plain -/
theorem lk_map (l : List entT.El) (k : ByteArray) : lkV (mapL l) k = getM l k := by
  refine opt_ext (fun v => ?_)
  rw [lkV_mem (mapL_asc l), mapL_mem]
theorem has_first {l : List entT.El} {k : ByteArray} (h : hasE l k = false) : firstK l k = none := by
  rw [firstK_none]
  intro x hx e
  unfold hasE at h
  rw [List.any_eq_false] at h
  exact h x hx (by rw [sEq_iff]; exact e)
theorem has_some {l : List entT.El} {k : ByteArray} (h : hasE l k = true) : ∃ x, firstK l k = some x := by
  cases hf : firstK l k with
  | some x => exact ⟨x, rfl⟩
  | none =>
    obtain ⟨x, hx, he⟩ := List.any_eq_true.1 h
    exact absurd (sEq_iff.1 he) (firstK_none.1 hf x hx)
theorem all_cons (b : List entT.El) (rs : List runT.El) : allE b rs = b ++ (rs.map (fun r => r.2.1)).flatten := rfl
/-- A key at which two views differ that have the same runs is in one of their buffers. -/
theorem buf_key {b b2 : List entT.El} {rs : List runT.El} {x : itemT.El} (h : x ∈ diffL (mV b rs) (mV b2 rs)) : hasE b x.2.1 = true ∨ hasE b2 x.2.1 = true := by
  have hne := (dfI_eq (diff_mem (mapL_asc _) (mapL_asc _) h)).1
  rw [lk_map, lk_map, all_cons, all_cons] at hne
  cases h1 : hasE b x.2.1 with
  | true => exact .inl rfl
  | false =>
    cases h2 : hasE b2 x.2.1 with
    | true => exact .inr rfl
    | false =>
      exfalso
      apply hne
      unfold getM
      rw [firstK_append, firstK_append, has_first h1, has_first h2]
/-- A key at which a view differs from that with one run more. -/
theorem run_key {b : List entT.El} {r : runT.El} {rs : List runT.El} {x : itemT.El} (h : x ∈ diffL (mV b rs) (mV b (r :: rs))) : hasE r.2.1 x.2.1 = true ∧ hasE b x.2.1 = false := by
  have hne := (dfI_eq (diff_mem (mapL_asc _) (mapL_asc _) h)).1
  rw [lk_map, lk_map, all_cons, all_cons] at hne
  have hc : ((r :: rs).map (fun r => r.2.1)).flatten = r.2.1 ++ (rs.map (fun r => r.2.1)).flatten := rfl
  rw [hc] at hne
  unfold getM at hne
  rw [firstK_append, firstK_append, firstK_append] at hne
  constructor
  · cases h1 : hasE r.2.1 x.2.1 with
    | true => rfl
    | false => rw [has_first h1] at hne; exact absurd rfl hne
  · cases h1 : hasE b x.2.1 with
    | false => rfl
    | true =>
      obtain ⟨y, hy⟩ := has_some h1
      rw [hy] at hne
      exact absurd rfl hne
theorem vcGo_sub : ∀ {rs p q : List runT.El}, (∀ y ∈ q, y ∈ p) → (vcGo p rs).2 = 0 → (vcGo q rs).2 = 0
  | [], _, _, _, _ => rfl
  | x :: l, p, q, hs, h => by
    rw [vcGo] at h ⊢
    by_cases h1 : (rcL x).2 ≠ 0
    · rw [if_pos h1] at h; exact absurd h h1
    · rw [if_neg h1] at h ⊢
      by_cases h2 : p.any (fun y => y.1 == x.1) = true
      · rw [if_pos h2] at h; cases h
      · rw [if_neg h2] at h
        have h3 : ¬ q.any (fun y => y.1 == x.1) = true := fun e => by
          obtain ⟨y, hy, he⟩ := List.any_eq_true.1 e
          exact h2 (List.any_eq_true.2 ⟨y, hs y hy, he⟩)
        rw [if_neg h3]
        refine vcGo_sub (fun y hy => ?_) h
        rcases List.mem_append.1 hy with hy | hy
        · exact List.mem_append_left _ (hs y hy)
        · exact List.mem_append_right _ hy
theorem vc_tail {b : List entT.El} {r : runT.El} {rs : List runT.El} (h : (vcL b (r :: rs)).2 = 0) : (vcL b rs).2 = 0 := by
  unfold vcL at h ⊢
  split at h
  · cases h
  · rename_i h1
    rw [if_neg h1]
    split at h
    · rename_i h2; exact absurd h h2
    · rename_i h2
      rw [if_neg h2]
      split at h
      · cases h
      · rename_i h3
        rw [if_neg (by simp only [List.length_cons] at h3; omega)]
        rw [vcGo] at h
        split at h
        · rename_i h4; exact absurd h h4
        · split at h
          · cases h
          · exact vcGo_sub (by simp) h
theorem mV_few {b : List entT.El} {rs : List runT.El} (h : (vcL b rs).2 = 0) (hl : (allE b rs).length ≤ 4000) : mcL (mV b rs) = (0, 0) := by
  refine mcL_good ?_ (fun p hp => ?_) (mapL_asc _)
  · have h1 := mapL_len (allE b rs)
    show (mapL (allE b rs)).length ≤ 4000
    omega
  · obtain ⟨h1, h2⟩ := map_szU (vcL_zero h) hp
    exact prE_zero h1 h2
theorem dvR_few {b : List entT.El} {rs : List runT.El} {b2 : List entT.El} {rs2 : List runT.El} (h1 : (vcL b rs).2 = 0) (h2 : (vcL b2 rs2).2 = 0) (l1 : (allE b rs).length ≤ 4000) (l2 : (allE b2 rs2).length ≤ 4000) : dvR b rs b2 rs2 = (diffL (mV b rs) (mV b2 rs2), 0) := by
  unfold dvR
  rw [if_neg (by simp [dv_good h1 h2])]
  unfold dfR
  rw [if_neg (by rw [mV_few h1 l1]; decide), if_neg (by rw [mV_few h2 l2]; decide)]
end Go.Proofs.Ytdbnohpolknbbaa
