/-
  Tables: the place of a key, by the code.
  slices.Clone at pairs: an array of the caller's own.
  Differences applied to a map, by the code.
  Differences behind others, by the code.
-/
import Derived.Test.YtdbnohpolknbbaaGreatE4
import Derived.Test.YtdbnohpolknbbaaGreatIc
import Derived.Test.YtdbnohpolknbbaaGreatLg
import Derived.Test.YtdbnohpolknbbaaGreatUt
namespace Go.Proofs.YtdbnohpolknbbaaGreat
open Av Bk

def spFd : DSpec
  | [.lst (.st [.str, .str]) m, .str k] => some (ascP m ∧ m.length ≤ 100000, .tup [.int .i64 (lbP k m), .bool (lkV m k).isSome])
  | _ => none
set_option maxRecDepth 100000 in
theorem fnOk_dFind : FnOk Tryz.prog 64 Tryz.f64 := ⟨by rfl, by kernel_rfl, by
  show okCode _ _ = true ∧ drawsOk _ = true
  exact ⟨by kernel_rfl, by kernel_rfl⟩⟩
set_option maxRecDepth 100000 in
theorem fnOk_dFind1 : FnOk Tryz.prog 91 Tryz.f91 := ⟨by rfl, by kernel_rfl, by
  show okCode _ _ = true ∧ drawsOk _ = true
  exact ⟨by kernel_rfl, by kernel_rfl⟩⟩
set_option maxRecDepth 100000 in
theorem fnOk_bSrP : FnOk Tryz.prog 90 Tryz.f90 := ⟨by rfl, by kernel_rfl, by
  show okCode _ _ = true ∧ drawsOk _ = true
  exact ⟨by kernel_rfl, by kernel_rfl⟩⟩
noncomputable def cxui : Cx := ⟨tb, [(91, Tryz.f91), (90, Tryz.f90)], [(60, spCmp)]⟩
theorem specsui : SpecsOk Tryz.prog cxui.specs := .cons cmpStr_ok .nil
theorem fnsui : FnsOk Tryz.prog cxui.fns := .cons fnOk_dFind1 (.cons fnOk_bSrP .nil)
set_option maxRecDepth 100000 in
set_option maxHeartbeats 2000000 in
theorem dFind_ok : SpecOk Tryz.prog 64 spFd := by
  refine spec_body (C := cxui) mixed tbOk specsui (callN_ok (C := cxui) mixed tbOk specsui fnsui 3) fnOk_dFind ?_
  intro ys p r h hp
  unfold spFd at h
  split at h
  · rename_i l key
    cases h
    obtain ⟨ha, hl⟩ := hp
    have hle := lbP_le key l
    have hf := lkV_lb ha key
    conv => whnf
    refine loop_inv [] [9, 10] (fun vs h => ∃ i j : Nat, vs = [.int .i64 (i : Int), .int .i64 (j : Int)] ∧ h = [] ∧ i ≤ lbP key l ∧ lbP key l ≤ j ∧ j ≤ l.length) (fun vs _ => match vs with | [.int _ i, .int _ j] => j.toNat - i.toNat | _ => 0) ?_
    conv => whnf
    refine ⟨⟨0, l.length, rfl, rfl, Nat.zero_le _, hle, Nat.le_refl _⟩, ?_⟩
    rintro vs h' - ⟨i, j, rfl, rfl, hi, hj, hjl⟩
    have hm : ((i : Int) + j) / 2 ^ Int.toNat 1 = (((i + j) / 2 : Nat) : Int) := by
      show ((i : Int) + j) / 2 = _
      omega
    conv => whnf
    repeat' first
      | ((first | refine auT ?_ | refine auF ?_ | with_reducible first | refine auKt ?_ | refine auKf ?_ | refine auNt ?_ | refine auNf ?_ | refine auEt ?_ | refine auEf ?_); conv => whnf)
      | ((with_reducible first | refine br_dec (fun h => ?_) (fun h => ?_) | refine br_ndec (fun h => ?_) (fun h => ?_) | refine br_ne (fun h => ?_) (fun h => ?_) | refine br_eq (fun h => ?_) (fun h => ?_)) <;> first | (exfalso; omega) | conv => whnf)
      | (refine br_intro (fun h => ?_) (fun h => ?_) <;> conv => whnf)
      | ((first | refine auNd ?_ | refine idx_nat (by omega) (fun x hx => ?_) | refine frz_auto ?_ | refine draw_plain ?_ | refine auIx (fun x hx => ?_)); conv => whnf)
    · rw [hm] at hx
      have hx : l[(i + j) / 2]? = some x := hx
      have hlt : (i + j) / 2 < lbP key l := by
        rcases Nat.lt_or_ge ((i + j) / 2) (lbP key l) with h1 | h1
        · exact h1
        · have h2 := ordS_lt.1 h
          rw [lbP_ge ha h1 hx] at h2; cases h2
      refine back_intro (by conv => whnf) rfl ⟨(i + j) / 2 + 1, j, ?_, rfl, by omega, hj, hjl⟩ ?_
      · exact two_int (by rw [hm]; rfl) rfl
      · show (j : Int).toNat - (((i : Int) + j) / 2 ^ Int.toNat 1 + 1).toNat < (j : Int).toNat - (i : Int).toNat
        rw [hm]
        omega
    · rw [hm] at hx
      have hx : l[(i + j) / 2]? = some x := hx
      have hge : lbP key l ≤ (i + j) / 2 := by
        rcases Nat.lt_or_ge ((i + j) / 2) (lbP key l) with h1 | h1
        · exact absurd (ordS_lt.2 (lbP_lt ha h1 hx)) h
        · exact h1
      refine back_intro (by conv => whnf) rfl ⟨i, (i + j) / 2, ?_, rfl, hi, hge, by omega⟩ ?_
      · exact two_int rfl hm
      · show (((i : Int) + j) / 2 ^ Int.toNat 1).toNat - (i : Int).toNat < (j : Int).toNat - (i : Int).toNat
        rw [hm]
        omega
    · have e : i = lbP key l := by omega
      subst e
      have hb : (ordS x.1 key == 0) = sEq x.1 key := by
        rw [Bool.eq_iff_iff, beq_iff_eq]
        exact ordS_eq
      rw [hf, hx, hb]
      cases h3 : sEq x.1 key <;> simp [h3]
    · have e : i = lbP key l := by omega
      subst e
      rw [hf, List.getElem?_eq_none (by omega)]
      rfl
  · cases h
end Go.Proofs.YtdbnohpolknbbaaGreat
namespace Go.Proofs.YtdbnohpolknbbaaGreat
open Av Go.Proofs Go.Lib

set_option maxRecDepth 100000 in
theorem fnOk_cloneP : FnOk Tryz.prog 48 Tryz.f48 := ⟨by rfl, by kernel_rfl, by
  show okCode _ _ = true ∧ drawsOk _ = true
  exact ⟨by kernel_rfl, by kernel_rfl⟩⟩
theorem eq_run (w : World) (a : Option Addr) (cap : Nat) : (Go.binOp BinOp.eql 34 (.slice a 0 cap) (.slice none 0 0)).run Tryz.prog w = .ok (.bool a.isNone) w := by
  have h : (Op.equal 34 (.slice a 0 cap) (.slice none 0 0)).run Tryz.prog w = .ok a.isNone w := sliceEq_run 9999 _ _ Tryz.underlying34 a 0 cap w
  have hb : Go.binOp BinOp.eql 34 (.slice a 0 cap) (.slice none 0 0) = (do pure (.bool (← Op.equal 34 (.slice a 0 cap) (.slice none 0 0)))) := rfl
  rw [hb]
  simp only [Sem.run_bind, h, Result.andThen_ok, Sem.run_pure]
theorem bs_run (w : World) : (Instr.buildSlice 34 0 #[]).run Tryz.prog w = .ok (.slice (some ⟨w.heap.size, 0, none⟩) 0 0) (w.alloc (.cells #[] 60)) := by
  obtain ⟨ie, z, hie, hzs, hzb, hz0, hzc⟩ := prInfo
  simp [Instr.buildSlice, run_underlying Tryz.underlying34, sizeOf, typeInfo, zeroValue, hie, hz0, newRow, Instr.fill]
  have h0 : (Array.range 0).map (fun _ => (default : Value)) = #[] := by simp
  first | rw [h0] | simp
theorem ap_run (w : World) (ty : TypeId) (b : Nat) (a : Option Addr) (cap : Nat) : (Builtin.append_ #[34, 34] ty #[.slice (some ⟨b, 0, none⟩) 0 0, .slice a 0 cap]).run Tryz.prog w = .ok (.slice (some ⟨b, 0, none⟩) 0 0) w := by
  obtain ⟨ie, z, hie, hzs, hzb, hz0, hzc⟩ := prInfo
  cases a <;> simp [Builtin.append_, run_underlying Tryz.underlying34, Builtin.lenOf, Builtin.firstCells, sizeOf, typeInfo, hie, loadCells, storeCells, loadCellsFrom]
set_option maxHeartbeats 4000000 in
set_option maxRecDepth 100000 in
theorem clone_none (w : World) (a : Option Addr) (cap : Nat) :
    Calls Tryz.prog 48 #[.slice a 0 cap] w fun e w' => (e = .returned (.slice none 0 0) ∧ w' = w) ∨ (e = .returned (.slice (some ⟨w.heap.size, 0, none⟩) 0 0) ∧ w' = w.alloc (.cells #[] 60)) := by
  have mixed := mixed
  go_enter Tryz.func48, Tryz.ntmps48
  cases a with
  | none =>
    go_wp2_with (simp only [eq_run])
    go_ret
    exact .inl ⟨rfl, rfl⟩
  | some a =>
    go_wp2_with (first | simp only [eq_run] | simp only [bs_run] | (at_builtin; refine Lib.wpList_append_run _ rfl _ _ _ _ rfl _ _ rfl rfl _ _ (ap_run _ _ _ _ _) ?_))
    go_ret
    exact .inr ⟨rfl, rfl⟩
def spClP : FSpec
  | [.lst (.st [.str, .str]) m] => some (m.length ≤ 100000, ⟨60, pairT, m⟩)
  | _ => none
def spClP1 : FSpec
  | [.lst (.st [.str, .str]) m] => some (1 ≤ m.length ∧ m.length ≤ 100000, ⟨60, pairT, m⟩)
  | _ => none
set_option maxRecDepth 100000 in
set_option maxHeartbeats 2000000 in
theorem cloneP1_ok : FreshOk Tryz.prog 48 spClP1 := by
  refine fresh_body (C := cx0) mixed tbOk SpecsOk.nil (callN_ok (C := cx0) mixed tbOk SpecsOk.nil FnsOk.nil 0) fnOk_cloneP ?_
  intro ys p r h hp
  unfold spClP1 at h
  split at h
  · rename_i ks
    cases h
    obtain ⟨h1, h2⟩ := hp
    conv => whnf
    repeat' first
      | ((first | refine auT ?_ | refine auF ?_ | with_reducible first | refine auKt ?_ | refine auKf ?_ | refine auNt ?_ | refine auNf ?_ | refine auEt ?_ | refine auEf ?_); conv => whnf)
      | ((with_reducible first | refine br_dec (fun h => ?_) (fun h => ?_) | refine br_ndec (fun h => ?_) (fun h => ?_) | refine br_ne (fun h => ?_) (fun h => ?_) | refine br_eq (fun h => ?_) (fun h => ?_)) <;> first | (exfalso; omega) | conv => whnf)
      | (refine br_intro (fun h => ?_) (fun h => ?_) <;> conv => whnf)
      | ((first | refine auNd ?_ | refine idx_nat (by omega) (fun x hx => ?_) | refine frz_auto ?_ | refine draw_plain ?_ | refine auIx (fun x hx => ?_)); conv => whnf)
    exact ⟨1, 1, false, by simp only [cast_self, Nat.zero_add], by simp only [cast_self, List.take_zero, List.nil_append]; rfl⟩
  · cases h
theorem cloneP_ok : FreshOk Tryz.prog 48 spClP := by
  refine ⟨cloneP1_ok.1, fun ys p r hsp hp s hok hh cs hr => ?_⟩
  unfold spClP at hsp
  split at hsp
  · rename_i m
    cases hsp
    rcases m with _ | ⟨x, m⟩
    · simp only [RL, R] at hr
      obtain ⟨v, _, rfl, ⟨a, cap, rfl, _, _⟩, rfl⟩ := hr
      have hf : Free s.h 0 := by rw [hh]; exact .inl rfl
      refine Calls.mono (clone_none s.w a cap) ?_
      have key : ∀ (v : Value) (w' : World), Grew s.w w' → (∀ b, blkOf v = some b → s.w.heap.size ≤ b) → w'.ownsRow 0 60 (Ty.size pairT) v 0 [] → (∃ base cap, v = .slice base 0 cap) →
          ∃ s' cr g' f', Ending.returned v = .returned cr ∧ s'.w = w' ∧ Step s s' ∧ Ok s' ∧ s'.h = [.arr 60 pairT [] f' g'] ∧ R s' (.own 0 g' 0) cr := by
        intro v w' hg hb hrow hv
        have hhp : put s.h 0 (.arr 60 pairT [] false 0) = [.arr 60 pairT [] false 0] := by rw [hh]; rfl
        refine ⟨s.new 0 (.arr 60 pairT [] false 0) v w', v, 0, false, rfl, rfl, St.new_step hf hg hb, St.new_ok hok hf hg hb ⟨[], ?_, by simp, fun i x hi => by simp at hi, fun h => by cases h⟩, hhp, ?_⟩
        · simp only [St.new, upd_same]
          exact hrow
        · obtain ⟨base, cap, rfl⟩ := hv
          simp only [R]
          refine ⟨by unfold Av.kn; simp only [St.new]; rw [hhp]; rfl, base, cap, rfl, fun T t l f g0 ho => ?_⟩
          simp only [St.new] at ho
          rw [hhp] at ho
          cases ho
          exact ⟨Nat.le_refl _, fun _ => ⟨Nat.le_refl _, 0, by simp only [St.new, upd_same]⟩⟩
      rintro e w' (⟨rfl, rfl⟩ | ⟨rfl, rfl⟩)
      · exact key _ _ (Grew.refl _) (fun b hb => by cases hb) ⟨rfl, .inl ⟨rfl, rfl⟩⟩ ⟨_, _, rfl⟩
      · exact key _ _ (Grew.alloc _ _) (fun b hb => by cases hb; exact Nat.le_refl _) ⟨rfl, .inr ⟨_, 0, #[], rfl, Nat.zero_le _, Go.heap_alloc_new _ _, Nat.le_refl _, by decide, rfl, rfl⟩⟩ ⟨_, _, rfl⟩
    · exact cloneP1_ok.2 _ _ _ (show spClP1 [.lst (.st [.str, .str]) (x :: m)] = some (_, _) from rfl) ⟨by simp, hp⟩ s hok hh cs hr
  · cases hsp
end Go.Proofs.YtdbnohpolknbbaaGreat
namespace Go.Proofs.YtdbnohpolknbbaaGreat
open Av Bk

set_option maxRecDepth 100000 in
theorem fnOk_dApply : FnOk Tryz.prog 24 Tryz.f24 := ⟨by rfl, by kernel_rfl, by
  show okCode _ _ = true ∧ drawsOk _ = true
  exact ⟨by kernel_rfl, by kernel_rfl⟩⟩
set_option maxRecDepth 100000 in
theorem fnOk_dApply1 : FnOk Tryz.prog 47 Tryz.f47 := ⟨by rfl, by kernel_rfl, by
  show okCode _ _ = true ∧ drawsOk _ = true
  exact ⟨by kernel_rfl, by kernel_rfl⟩⟩
set_option maxRecDepth 100000 in
theorem fnOk_dFresh : FnOk Tryz.prog 49 Tryz.f49 := ⟨by rfl, by kernel_rfl, by
  show okCode _ _ = true ∧ drawsOk _ = true
  exact ⟨by kernel_rfl, by kernel_rfl⟩⟩
set_option maxRecDepth 100000 in
theorem fnOk_dGone : FnOk Tryz.prog 50 Tryz.f50 := ⟨by rfl, by kernel_rfl, by
  show okCode _ _ = true ∧ drawsOk _ = true
  exact ⟨by kernel_rfl, by kernel_rfl⟩⟩
set_option maxRecDepth 100000 in
theorem fnOk_dOther : FnOk Tryz.prog 51 Tryz.f51 := ⟨by rfl, by kernel_rfl, by
  show okCode _ _ = true ∧ drawsOk _ = true
  exact ⟨by kernel_rfl, by kernel_rfl⟩⟩
def spAp : DSpec
  | [.lst (.st [.str, .str]) m, .lst (.st [.int .i64, .str, .str, .str]) l] => some (m.length ≤ 4611686018427387904 ∧ l.length ≤ 4611686018427387904, .tup [.lst pairT (apR m l).1, .int .i64 (apR m l).2.1, .int .i64 (apR m l).2.2])
  | _ => none
noncomputable def cxuk : Cx := ⟨tb, [(40, Tryz.f40), (47, Tryz.f47), (49, Tryz.f49), (50, Tryz.f50), (51, Tryz.f51)], [(46, spMC), (14, spIC), (64, spFd), (48, spClP)]⟩
theorem specsuk : SpecsOk Tryz.prog cxuk.specs := .cons modelCheck_ok (.cons diffCheck_ok (.cons dFind_ok (.consF cloneP_ok .nil)))
theorem fnsuk : FnsOk Tryz.prog cxuk.fns := .cons fnOk_caught (.cons fnOk_dApply1 (.cons fnOk_dFresh (.cons fnOk_dGone (.cons fnOk_dOther .nil))))
def ruk : List (FuncId × RawA) := [(65, insA), (66, delA)]
theorem ruk_ok : RawsOk Tryz.prog ruk := .cons insPr_ok (.cons delPr_ok .nil)
theorem calluk (n : Nat) : CallOk Tryz.prog (callR ruk cxuk n) := callR_ok (C := cxuk) mixed tbOk specsuk fnsuk ruk_ok n
noncomputable def cduk : CallDA := callDf cxuk (callR ruk cxuk 2) [40]
theorem cduk_ok : CallDOk Tryz.prog cduk := callDf_ok (C := cxuk) mixed tbOk specsuk fnsuk (calluk 2) _
theorem ap_heap {a b c e : AObj} {T T2 : TypeId} {L L' : List pairT.El} {g n n' : Nat} (hL : L = L') (hn : n = n') : [a, b, c, .arr T pairT L false g, .cells T2 [.own 3 g n], e] = [a, b, c, AObj.arr T pairT L' false g, .cells T2 [.own 3 g n'], e] := by rw [hL, hn]
theorem chS_len {c : List pairT.El} {i : Nat} {x : itemT.El} (h : c.length ≤ 4000 + i) : (chS c x).length ≤ 4000 + (i + 1) := by
  have : (chS c x).length ≤ c.length + 1 := chT_len _ _
  omega
set_option maxRecDepth 100000 in
set_option maxHeartbeats 4000000 in
theorem dApply_ok : SpecOk Tryz.prog 24 spAp := by
  refine spec_bodyE (C := cxuk) mixed tbOk specsuk (calluk 3) psub_ok cduk_ok fnOk_dApply ?_
  intro ys p r h hp
  unfold spAp at h
  split at h
  · rename_i m l
    cases h
    obtain ⟨hp1, hp2⟩ := hp
    by_cases hm : (mcL m).2 = 0
    · by_cases hl : (icL l).2 = 0
      · have hml := mcL_zero hm
        have hll := icL_zero hl
        conv => whnf
        repeat' first
          | ((first | refine auIk ?_ | refine auIi ?_ | refine auT ?_ | refine auF ?_ | with_reducible first | refine auKt ?_ | refine auKf ?_ | refine auNt ?_ | refine auNf ?_ | refine auEt ?_ | refine auEf ?_); conv => whnf)
          | ((with_reducible first | refine br_dec (fun h => ?_) (fun h => ?_) | refine br_ndec (fun h => ?_) (fun h => ?_) | refine br_ne (fun h => ?_) (fun h => ?_) | refine br_eq (fun h => ?_) (fun h => ?_)) <;> first | (exfalso; omega) | conv => whnf)
          | (refine br_intro (fun h => ?_) (fun h => ?_) <;> conv => whnf)
          | ((first | refine auNd ?_ | refine idx_nat (by omega) (fun x hx => ?_) | refine frz_auto ?_ | refine draw_plain ?_ | refine auIx (fun x hx => ?_)); conv => whnf)
        refine loop_inv [] [47] (fun vs h => ∃ (i g : Nat) (c : List pairT.El), vs = [.int .i64 (i : Int)] ∧ h = [.cells 34 [.zsl pairT], .cells 3 [.int .i64 0], .cells 29 [.int .i64 0], .arr 60 pairT c false g, .cells 86 [.own 3 g c.length], .cells 88 [.nilfn, .fn (.func 49) [.ptr 4 0] [], .fn (.func 50) [.ptr 4 0] [], .fn (.func 51) [.ptr 4 0] []]] ∧ i ≤ l.length ∧ apGo 0 l m = apGo (i : Int) (l.drop i) c ∧ ascP c ∧ c.length ≤ 4000 + i) (fun vs _ => match vs with | [.int _ k] => l.length - k.toNat | _ => 0) ?_
        conv => whnf
        refine ⟨⟨0, 0, m, rfl, rfl, Nat.zero_le _, rfl, hml.2.2, hml.1⟩, ?_⟩
        rintro vs h' - ⟨i, g, c, rfl, rfl, hi, hap, hac, hcl⟩
        have hl8 := hll.1
        have hc1 : c.length ≤ 100000 := by omega
        by_cases hil : i < l.length
        · obtain ⟨y, hy⟩ : ∃ y, l[i]? = some y := ⟨_, List.getElem?_eq_getElem hil⟩
          obtain ⟨k, key, old, new, u⟩ := y
          have hyE := hll.2.1 _ (List.mem_of_getElem? hy)
          have hct : List.take c.length c = c := List.take_length
          have hle := lbP_le key c
          rcases itE_kind hyE with rfl | rfl | rfl
          · cases hk : lkV c key with
            | none =>
              have hks : (lkV c key).isSome = false := by rw [hk]; rfl
              conv => whnf
              repeat' first
                | ((first | refine auIk ?_ | refine auIi ?_ | refine auT ?_ | refine auF ?_ | with_reducible first | refine auKt ?_ | refine auKf ?_ | refine auNt ?_ | refine auNf ?_ | refine auEt ?_ | refine auEf ?_); conv => whnf)
                | ((with_reducible first | refine br_dec (fun h => ?_) (fun h => ?_) | refine br_ndec (fun h => ?_) (fun h => ?_) | refine br_ne (fun h => ?_) (fun h => ?_) | refine br_eq (fun h => ?_) (fun h => ?_)) <;> first | (exfalso; omega) | conv => whnf)
                | (refine br_intro (fun h => ?_) (fun h => ?_) <;> conv => whnf)
                | ((first | refine auNd ?_ | refine idx_nat (by omega) (fun x hx => ?_) | refine frz_auto ?_ | refine draw_plain ?_ | refine auIx (fun x hx => ?_)); conv => whnf)
              rw [hct]
              repeat' first
                | ((first | refine auIk ?_ | refine auIi ?_ | refine auT ?_ | refine auF ?_ | with_reducible first | refine auKt ?_ | refine auKf ?_ | refine auNt ?_ | refine auNf ?_ | refine auEt ?_ | refine auEf ?_); conv => whnf)
                | ((with_reducible first | refine br_dec (fun h => ?_) (fun h => ?_) | refine br_ndec (fun h => ?_) (fun h => ?_) | refine br_ne (fun h => ?_) (fun h => ?_) | refine br_eq (fun h => ?_) (fun h => ?_)) <;> first | (exfalso; omega) | conv => whnf)
                | (refine br_intro (fun h => ?_) (fun h => ?_) <;> conv => whnf)
                | ((first | refine auNd ?_ | refine idx_nat (by omega) (fun x hx => ?_) | refine frz_auto ?_ | refine draw_plain ?_ | refine auIx (fun x hx => ?_)); conv => whnf)
              refine ⟨rfl, back_intro (by conv => whnf) rfl ⟨i + 1, g + 1, chS c (mkI 1 key old new), rfl, ap_heap (L := c.take (lbP key c) ++ ([mkP key new] ++ (c.take c.length).drop (lbP key c))) ?_ ?_, by omega, ap_next hap hy (fit_new.trans (if_neg (by rw [hks]; decide))), chT_asc hac _ _, chS_len hcl⟩ ?_⟩
              · rw [hct]; exact chS_new hac hk
              · rw [← chS_new hac hk]; simp only [List.length_append, List.length_take, List.length_drop, List.length_cons, List.length_nil]; omega
              · show l.length - ((i : Int) + 1).toNat < l.length - (i : Int).toNat
                omega
            | some v =>
              have hks : (lkV c key).isSome = true := by rw [hk]; rfl
              conv => whnf
              repeat' first
                | ((first | refine auIk ?_ | refine auIi ?_ | refine auT ?_ | refine auF ?_ | with_reducible first | refine auKt ?_ | refine auKf ?_ | refine auNt ?_ | refine auNf ?_ | refine auEt ?_ | refine auEf ?_); conv => whnf)
                | ((with_reducible first | refine br_dec (fun h => ?_) (fun h => ?_) | refine br_ndec (fun h => ?_) (fun h => ?_) | refine br_ne (fun h => ?_) (fun h => ?_) | refine br_eq (fun h => ?_) (fun h => ?_)) <;> first | (exfalso; omega) | conv => whnf)
                | (refine br_intro (fun h => ?_) (fun h => ?_) <;> conv => whnf)
                | ((first | refine auNd ?_ | refine idx_nat (by omega) (fun x hx => ?_) | refine frz_auto ?_ | refine draw_plain ?_ | refine auIx (fun x hx => ?_)); conv => whnf)
              rw [hct]
              repeat' first
                | ((first | refine auIk ?_ | refine auIi ?_ | refine auT ?_ | refine auF ?_ | with_reducible first | refine auKt ?_ | refine auKf ?_ | refine auNt ?_ | refine auNf ?_ | refine auEt ?_ | refine auEf ?_); conv => whnf)
                | ((with_reducible first | refine br_dec (fun h => ?_) (fun h => ?_) | refine br_ndec (fun h => ?_) (fun h => ?_) | refine br_ne (fun h => ?_) (fun h => ?_) | refine br_eq (fun h => ?_) (fun h => ?_)) <;> first | (exfalso; omega) | conv => whnf)
                | (refine br_intro (fun h => ?_) (fun h => ?_) <;> conv => whnf)
                | ((first | refine auNd ?_ | refine idx_nat (by omega) (fun x hx => ?_) | refine frz_auto ?_ | refine draw_plain ?_ | refine auIx (fun x hx => ?_)); conv => whnf)
              exact ap_err hm hl hap hy (fit_new.trans (if_pos hks)) (by decide)
          · cases hk : lkV c key with
            | none =>
              have hks : (lkV c key).isSome = false := by rw [hk]; rfl
              conv => whnf
              repeat' first
                | ((first | refine auIk ?_ | refine auIi ?_ | refine auT ?_ | refine auF ?_ | with_reducible first | refine auKt ?_ | refine auKf ?_ | refine auNt ?_ | refine auNf ?_ | refine auEt ?_ | refine auEf ?_); conv => whnf)
                | ((with_reducible first | refine br_dec (fun h => ?_) (fun h => ?_) | refine br_ndec (fun h => ?_) (fun h => ?_) | refine br_ne (fun h => ?_) (fun h => ?_) | refine br_eq (fun h => ?_) (fun h => ?_)) <;> first | (exfalso; omega) | conv => whnf)
                | (refine br_intro (fun h => ?_) (fun h => ?_) <;> conv => whnf)
                | ((first | refine auNd ?_ | refine idx_nat (by omega) (fun x hx => ?_) | refine frz_auto ?_ | refine draw_plain ?_ | refine auIx (fun x hx => ?_)); conv => whnf)
              rw [hct]
              repeat' first
                | ((first | refine auIk ?_ | refine auIi ?_ | refine auT ?_ | refine auF ?_ | with_reducible first | refine auKt ?_ | refine auKf ?_ | refine auNt ?_ | refine auNf ?_ | refine auEt ?_ | refine auEf ?_); conv => whnf)
                | ((with_reducible first | refine br_dec (fun h => ?_) (fun h => ?_) | refine br_ndec (fun h => ?_) (fun h => ?_) | refine br_ne (fun h => ?_) (fun h => ?_) | refine br_eq (fun h => ?_) (fun h => ?_)) <;> first | (exfalso; omega) | conv => whnf)
                | (refine br_intro (fun h => ?_) (fun h => ?_) <;> conv => whnf)
                | ((first | refine auNd ?_ | refine idx_nat (by omega) (fun x hx => ?_) | refine frz_auto ?_ | refine draw_plain ?_ | refine auIx (fun x hx => ?_)); conv => whnf)
              · exact ap_err hm hl hap hy (fit_gone.trans (by rw [hk])) (by decide)
              · have h : (!(lkV c key).isSome) = false := h
                rw [hks] at h
                cases h
            | some v =>
              have hks : (lkV c key).isSome = true := by rw [hk]; rfl
              have hat := lkV_at hac hk
              have hlt := (List.getElem?_eq_some_iff.1 hat).1
              conv => whnf
              repeat' first
                | ((first | refine auIk ?_ | refine auIi ?_ | refine auT ?_ | refine auF ?_ | with_reducible first | refine auKt ?_ | refine auKf ?_ | refine auNt ?_ | refine auNf ?_ | refine auEt ?_ | refine auEf ?_); conv => whnf)
                | ((with_reducible first | refine br_dec (fun h => ?_) (fun h => ?_) | refine br_ndec (fun h => ?_) (fun h => ?_) | refine br_ne (fun h => ?_) (fun h => ?_) | refine br_eq (fun h => ?_) (fun h => ?_)) <;> first | (exfalso; omega) | conv => whnf)
                | (refine br_intro (fun h => ?_) (fun h => ?_) <;> conv => whnf)
                | ((first | refine auNd ?_ | refine idx_nat (by omega) (fun x hx => ?_) | refine frz_auto ?_ | refine draw_plain ?_ | refine auIx (fun x hx => ?_)); conv => whnf)
              rw [hct]
              repeat' first
                | ((first | refine auIk ?_ | refine auIi ?_ | refine auT ?_ | refine auF ?_ | with_reducible first | refine auKt ?_ | refine auKf ?_ | refine auNt ?_ | refine auNf ?_ | refine auEt ?_ | refine auEf ?_); conv => whnf)
                | ((with_reducible first | refine br_dec (fun h => ?_) (fun h => ?_) | refine br_ndec (fun h => ?_) (fun h => ?_) | refine br_ne (fun h => ?_) (fun h => ?_) | refine br_eq (fun h => ?_) (fun h => ?_)) <;> first | (exfalso; omega) | conv => whnf)
                | (refine br_intro (fun h => ?_) (fun h => ?_) <;> conv => whnf)
                | ((first | refine auNd ?_ | refine idx_nat (by omega) (fun x hx => ?_) | refine frz_auto ?_ | refine draw_plain ?_ | refine auIx (fun x hx => ?_)); conv => whnf)
              · have h : (!(lkV c key).isSome) = true := h
                rw [hks] at h
                cases h
              · refine ap_err hm hl hap hy (fit_gone.trans ?_) (by decide)
                rw [hk]
                exact if_neg (by have h : (!sEq v old) = true := h; simpa using h)
              · refine ⟨rfl, back_intro (by conv => whnf) rfl ⟨i + 1, g + 1, chS c (mkI 2 key old new), rfl, ap_heap (L := c.take (lbP key c) ++ (c.take c.length).drop ((lbP key c : Int) + 1).toNat) ?_ ?_, by omega, ap_next hap hy (fit_gone.trans (by rw [hk]; exact if_pos (by have h : (!sEq v old) = false := h; simpa using h))), chT_asc hac _ _, chS_len hcl⟩ ?_⟩
                · rw [hct, show ((lbP key c : Int) + 1).toNat = lbP key c + 1 by omega]; exact chS_gone hac hk
                · show c.length - (((lbP key c : Int) + 1).toNat - (lbP key c : Int).toNat) = _
                  rw [← chS_gone hac hk]; simp only [List.length_append, List.length_take, List.length_drop]; omega
                · show l.length - ((i : Int) + 1).toNat < l.length - (i : Int).toNat
                  omega
          · cases hk : lkV c key with
            | none =>
              have hks : (lkV c key).isSome = false := by rw [hk]; rfl
              conv => whnf
              repeat' first
                | ((first | refine auIk ?_ | refine auIi ?_ | refine auT ?_ | refine auF ?_ | with_reducible first | refine auKt ?_ | refine auKf ?_ | refine auNt ?_ | refine auNf ?_ | refine auEt ?_ | refine auEf ?_); conv => whnf)
                | ((with_reducible first | refine br_dec (fun h => ?_) (fun h => ?_) | refine br_ndec (fun h => ?_) (fun h => ?_) | refine br_ne (fun h => ?_) (fun h => ?_) | refine br_eq (fun h => ?_) (fun h => ?_)) <;> first | (exfalso; omega) | conv => whnf)
                | (refine br_intro (fun h => ?_) (fun h => ?_) <;> conv => whnf)
                | ((first | refine auNd ?_ | refine idx_nat (by omega) (fun x hx => ?_) | refine frz_auto ?_ | refine draw_plain ?_ | refine auIx (fun x hx => ?_)); conv => whnf)
              rw [hct]
              repeat' first
                | ((first | refine auIk ?_ | refine auIi ?_ | refine auT ?_ | refine auF ?_ | with_reducible first | refine auKt ?_ | refine auKf ?_ | refine auNt ?_ | refine auNf ?_ | refine auEt ?_ | refine auEf ?_); conv => whnf)
                | ((with_reducible first | refine br_dec (fun h => ?_) (fun h => ?_) | refine br_ndec (fun h => ?_) (fun h => ?_) | refine br_ne (fun h => ?_) (fun h => ?_) | refine br_eq (fun h => ?_) (fun h => ?_)) <;> first | (exfalso; omega) | conv => whnf)
                | (refine br_intro (fun h => ?_) (fun h => ?_) <;> conv => whnf)
                | ((first | refine auNd ?_ | refine idx_nat (by omega) (fun x hx => ?_) | refine frz_auto ?_ | refine draw_plain ?_ | refine auIx (fun x hx => ?_)); conv => whnf)
              · exact ap_err hm hl hap hy (fit_other.trans (by rw [hk])) (by decide)
              · have h : (!(lkV c key).isSome) = false := h
                rw [hks] at h
                cases h
            | some v =>
              have hks : (lkV c key).isSome = true := by rw [hk]; rfl
              have hat := lkV_at hac hk
              have hlt := (List.getElem?_eq_some_iff.1 hat).1
              conv => whnf
              repeat' first
                | ((first | refine auIk ?_ | refine auIi ?_ | refine auT ?_ | refine auF ?_ | with_reducible first | refine auKt ?_ | refine auKf ?_ | refine auNt ?_ | refine auNf ?_ | refine auEt ?_ | refine auEf ?_); conv => whnf)
                | ((with_reducible first | refine br_dec (fun h => ?_) (fun h => ?_) | refine br_ndec (fun h => ?_) (fun h => ?_) | refine br_ne (fun h => ?_) (fun h => ?_) | refine br_eq (fun h => ?_) (fun h => ?_)) <;> first | (exfalso; omega) | conv => whnf)
                | (refine br_intro (fun h => ?_) (fun h => ?_) <;> conv => whnf)
                | ((first | refine auNd ?_ | refine idx_nat (by omega) (fun x hx => ?_) | refine frz_auto ?_ | refine draw_plain ?_ | refine auIx (fun x hx => ?_)); conv => whnf)
              rw [hct]
              repeat' first
                | ((first | refine auIk ?_ | refine auIi ?_ | refine auT ?_ | refine auF ?_ | with_reducible first | refine auKt ?_ | refine auKf ?_ | refine auNt ?_ | refine auNf ?_ | refine auEt ?_ | refine auEf ?_); conv => whnf)
                | ((with_reducible first | refine br_dec (fun h => ?_) (fun h => ?_) | refine br_ndec (fun h => ?_) (fun h => ?_) | refine br_ne (fun h => ?_) (fun h => ?_) | refine br_eq (fun h => ?_) (fun h => ?_)) <;> first | (exfalso; omega) | conv => whnf)
                | (refine br_intro (fun h => ?_) (fun h => ?_) <;> conv => whnf)
                | ((first | refine auNd ?_ | refine idx_nat (by omega) (fun x hx => ?_) | refine frz_auto ?_ | refine draw_plain ?_ | refine auIx (fun x hx => ?_)); conv => whnf)
              · have h : (!(lkV c key).isSome) = true := h
                rw [hks] at h
                cases h
              · refine ap_err hm hl hap hy (fit_other.trans ?_) (by decide)
                rw [hk]
                exact if_neg (by have h : (!sEq v old) = true := h; simpa using h)
              · refine ⟨rfl, back_intro (by conv => whnf) rfl ⟨i + 1, g, chS c (mkI 3 key old new), rfl, ap_heap (L := c.set (lbP key c) (mkP key new)) ?_ ?_, by omega, ap_next hap hy (fit_other.trans (by rw [hk]; exact if_pos (by have h : (!sEq v old) = false := h; simpa using h))), chT_asc hac _ _, chS_len hcl⟩ ?_⟩
                · exact chS_other hac hk
                · rw [← chS_other hac hk, List.length_set]
                · show l.length - ((i : Int) + 1).toNat < l.length - (i : Int).toNat
                  omega
        · conv => whnf
          repeat' first
            | ((first | refine auIk ?_ | refine auIi ?_ | refine auT ?_ | refine auF ?_ | with_reducible first | refine auKt ?_ | refine auKf ?_ | refine auNt ?_ | refine auNf ?_ | refine auEt ?_ | refine auEf ?_); conv => whnf)
            | ((with_reducible first | refine br_dec (fun h => ?_) (fun h => ?_) | refine br_ndec (fun h => ?_) (fun h => ?_) | refine br_ne (fun h => ?_) (fun h => ?_) | refine br_eq (fun h => ?_) (fun h => ?_)) <;> first | (exfalso; omega) | conv => whnf)
            | (refine br_intro (fun h => ?_) (fun h => ?_) <;> conv => whnf)
            | ((first | refine auNd ?_ | refine idx_nat (by omega) (fun x hx => ?_) | refine frz_auto ?_ | refine draw_plain ?_ | refine auIx (fun x hx => ?_)); conv => whnf)
          · exact ap_full hm hl hap hil h
          · exact ap_done hm hl hap hil h
      · conv => whnf
        repeat' first
          | ((first | refine auIk ?_ | refine auIi ?_ | refine auT ?_ | refine auF ?_ | with_reducible first | refine auKt ?_ | refine auKf ?_ | refine auNt ?_ | refine auNf ?_ | refine auEt ?_ | refine auEf ?_); conv => whnf)
          | ((with_reducible first | refine br_dec (fun h => ?_) (fun h => ?_) | refine br_ndec (fun h => ?_) (fun h => ?_) | refine br_ne (fun h => ?_) (fun h => ?_) | refine br_eq (fun h => ?_) (fun h => ?_)) <;> first | (exfalso; omega) | conv => whnf)
          | (refine br_intro (fun h => ?_) (fun h => ?_) <;> conv => whnf)
          | ((first | refine auNd ?_ | refine idx_nat (by omega) (fun x hx => ?_) | refine frz_auto ?_ | refine draw_plain ?_ | refine auIx (fun x hx => ?_)); conv => whnf)
        rw [apR, if_neg (by simp [hm]), if_pos hl]
    · conv => whnf
      repeat' first
        | ((first | refine auIk ?_ | refine auIi ?_ | refine auT ?_ | refine auF ?_ | with_reducible first | refine auKt ?_ | refine auKf ?_ | refine auNt ?_ | refine auNf ?_ | refine auEt ?_ | refine auEf ?_); conv => whnf)
        | ((with_reducible first | refine br_dec (fun h => ?_) (fun h => ?_) | refine br_ndec (fun h => ?_) (fun h => ?_) | refine br_ne (fun h => ?_) (fun h => ?_) | refine br_eq (fun h => ?_) (fun h => ?_)) <;> first | (exfalso; omega) | conv => whnf)
        | (refine br_intro (fun h => ?_) (fun h => ?_) <;> conv => whnf)
        | ((first | refine auNd ?_ | refine idx_nat (by omega) (fun x hx => ?_) | refine frz_auto ?_ | refine draw_plain ?_ | refine auIx (fun x hx => ?_)); conv => whnf)
      rw [apR, if_pos hm]
  · cases h
end Go.Proofs.YtdbnohpolknbbaaGreat
namespace Go.Proofs.YtdbnohpolknbbaaGreat
open Av Bk

set_option maxRecDepth 100000 in
theorem fnOk_dThen : FnOk Tryz.prog 29 Tryz.f29 := ⟨by rfl, by kernel_rfl, by
  show okCode _ _ = true ∧ drawsOk _ = true
  exact ⟨by kernel_rfl, by kernel_rfl⟩⟩
set_option maxRecDepth 100000 in
theorem fnOk_dThen1 : FnOk Tryz.prog 55 Tryz.f55 := ⟨by rfl, by kernel_rfl, by
  show okCode _ _ = true ∧ drawsOk _ = true
  exact ⟨by kernel_rfl, by kernel_rfl⟩⟩
set_option maxRecDepth 100000 in
theorem fnOk_dEnds : FnOk Tryz.prog 56 Tryz.f56 := ⟨by rfl, by kernel_rfl, by
  show okCode _ _ = true ∧ drawsOk _ = true
  exact ⟨by kernel_rfl, by kernel_rfl⟩⟩
set_option maxRecDepth 100000 in
theorem fnOk_dItem : FnOk Tryz.prog 57 Tryz.f57 := ⟨by rfl, by kernel_rfl, by
  show okCode _ _ = true ∧ drawsOk _ = true
  exact ⟨by kernel_rfl, by kernel_rfl⟩⟩
set_option maxRecDepth 100000 in
set_option maxHeartbeats 4000000 in
theorem dItem_ok : SpecOk Tryz.prog 57 spItm := by
  refine spec_body (C := cx0) mixed tbOk SpecsOk.nil (callN_ok (C := cx0) mixed tbOk SpecsOk.nil FnsOk.nil 0) fnOk_dItem ?_
  intro ys p r h hp
  unfold spItm at h
  split at h
  · rename_i k a av b bv
    cases h
    conv => whnf
    repeat' first
      | ((first | refine auIk ?_ | refine auIi ?_ | refine auT ?_ | refine auF ?_ | with_reducible first | refine auKt ?_ | refine auKf ?_ | refine auNt ?_ | refine auNf ?_ | refine auEt ?_ | refine auEf ?_); conv => whnf)
      | ((with_reducible first | refine br_dec (fun h => ?_) (fun h => ?_) | refine br_ndec (fun h => ?_) (fun h => ?_) | refine br_ne (fun h => ?_) (fun h => ?_) | refine br_eq (fun h => ?_) (fun h => ?_)) <;> first | (exfalso; omega) | conv => whnf)
      | (refine br_intro (fun h => ?_) (fun h => ?_) <;> conv => whnf)
      | ((first | refine auNd ?_ | refine idx_nat (by omega) (fun x hx => ?_) | refine frz_auto ?_ | refine draw_plain ?_ | refine auIx (fun x hx => ?_)); conv => whnf)
    · rw [itmR, if_pos h]
    · rename_i h'
      rw [itmR, if_neg (by rw [h']; decide)]
      have ha : a = false := by simpa using h
      subst ha
      rfl
    · rename_i h'' h'
      rw [itmR, if_neg (by rw [h'']; decide)]
      have ha : a = true := by simpa using h'
      have hb : b = false := by simpa using h
      subst ha hb
      rfl
    · rename_i h'' h'
      rw [itmR, if_neg (by rw [h'']; decide)]
      have ha : a = true := by simpa using h'
      have hb : b = true := by simpa using h
      subst ha hb
      rfl
  · cases h
noncomputable def cxum : Cx := ⟨tb, [(40, Tryz.f40), (55, Tryz.f55), (56, Tryz.f56)], [(14, spIC), (57, spItm)]⟩
theorem specsum : SpecsOk Tryz.prog cxum.specs := .cons diffCheck_ok (.cons dItem_ok .nil)
theorem fnsum : FnsOk Tryz.prog cxum.fns := .cons fnOk_caught (.cons fnOk_dThen1 (.cons fnOk_dEnds .nil))
theorem callum (n : Nat) : CallOk Tryz.prog (callR [] cxum n) := callR_ok (C := cxum) mixed tbOk specsum fnsum RawsOk.nil n
noncomputable def cdum : CallDA := callDf cxum (callR [] cxum 2) [40]
theorem cdum_ok : CallDOk Tryz.prog cdum := callDf_ok (C := cxum) mixed tbOk specsum fnsum (callum 2) _
set_option maxRecDepth 100000 in
set_option maxHeartbeats 4000000 in
theorem dThen_ok : SpecOk Tryz.prog 29 spTh := by
  refine spec_bodyE (C := cxum) mixed tbOk specsum (callum 3) psub_ok cdum_ok fnOk_dThen ?_
  intro ys p r h hp
  unfold spTh at h
  split at h
  · rename_i l m
    cases h
    obtain ⟨hp1, hp2⟩ := hp
    by_cases hl : (icL l).2 = 0
    · by_cases hm : (icL m).2 = 0
      · have hll := icL_zero hl
        have hmm := icL_zero hm
        have q0 : ([l, m] : List (Ty.sl itemT).El)[Int.toNat 0]? = some l := rfl
        have q1 : ([l, m] : List (Ty.sl itemT).El)[Int.toNat (0 + 1)]? = some m := rfl
        conv => whnf
        repeat' first
          | ((first | refine auIk ?_ | refine auIi ?_ | refine auT ?_ | refine auF ?_ | with_reducible first | refine auKt ?_ | refine auKf ?_ | refine auNt ?_ | refine auNf ?_ | refine auEt ?_ | refine auEf ?_); conv => whnf)
          | ((with_reducible first | refine br_dec (fun h => ?_) (fun h => ?_) | refine br_ndec (fun h => ?_) (fun h => ?_) | refine br_ne (fun h => ?_) (fun h => ?_) | refine br_eq (fun h => ?_) (fun h => ?_)) <;> first | (exfalso; omega) | conv => whnf)
          | (refine br_intro (fun h => ?_) (fun h => ?_) <;> conv => whnf)
          | ((first | refine auNd ?_ | refine idx_nat (by omega) (fun x hx => ?_) | refine frz_auto ?_ | refine draw_plain ?_ | refine auIx (fun x hx => ?_)); conv => whnf)
        refine loop_turns 3 ?_
        conv => whnf
        repeat' first
          | ((first | refine auIk ?_ | refine auIi ?_ | refine auT ?_ | refine auF ?_ | with_reducible first | refine auKt ?_ | refine auKf ?_ | refine auNt ?_ | refine auNf ?_ | refine auEt ?_ | refine auEf ?_); conv => whnf)
          | ((with_reducible first | refine br_dec (fun h => ?_) (fun h => ?_) | refine br_ndec (fun h => ?_) (fun h => ?_) | refine br_ne (fun h => ?_) (fun h => ?_) | refine br_eq (fun h => ?_) (fun h => ?_)) <;> first | (exfalso; omega) | conv => whnf)
          | (refine br_intro (fun h => ?_) (fun h => ?_) <;> conv => whnf)
          | ((first | refine auNd ?_ | refine idx_nat (by omega) (fun x hx => ?_) | refine frz_auto ?_ | refine draw_plain ?_ | refine auIx (fun x hx => ?_)); conv => whnf)
        refine ⟨rfl, ?_⟩
        conv => whnf
        repeat' first
          | ((first | refine auIk ?_ | refine auIi ?_ | refine auT ?_ | refine auF ?_ | with_reducible first | refine auKt ?_ | refine auKf ?_ | refine auNt ?_ | refine auNf ?_ | refine auEt ?_ | refine auEf ?_); conv => whnf)
          | ((with_reducible first | refine br_dec (fun h => ?_) (fun h => ?_) | refine br_ndec (fun h => ?_) (fun h => ?_) | refine br_ne (fun h => ?_) (fun h => ?_) | refine br_eq (fun h => ?_) (fun h => ?_)) <;> first | (exfalso; omega) | conv => whnf)
          | (refine br_intro (fun h => ?_) (fun h => ?_) <;> conv => whnf)
          | ((first | refine auNd ?_ | refine idx_nat (by omega) (fun x hx => ?_) | refine frz_auto ?_ | refine draw_plain ?_ | refine auIx (fun x hx => ?_)); conv => whnf)
        refine ⟨rfl, ?_⟩
        conv => whnf
        repeat' first
          | ((first | refine auIk ?_ | refine auIi ?_ | refine auT ?_ | refine auF ?_ | with_reducible first | refine auKt ?_ | refine auKf ?_ | refine auNt ?_ | refine auNf ?_ | refine auEt ?_ | refine auEf ?_); conv => whnf)
          | ((with_reducible first | refine br_dec (fun h => ?_) (fun h => ?_) | refine br_ndec (fun h => ?_) (fun h => ?_) | refine br_ne (fun h => ?_) (fun h => ?_) | refine br_eq (fun h => ?_) (fun h => ?_)) <;> first | (exfalso; omega) | conv => whnf)
          | (refine br_intro (fun h => ?_) (fun h => ?_) <;> conv => whnf)
          | ((first | refine auNd ?_ | refine idx_nat (by omega) (fun x hx => ?_) | refine frz_auto ?_ | refine draw_plain ?_ | refine auIx (fun x hx => ?_)); conv => whnf)
        refine loop_inv [.cell 0 0 64 itemT] [0, 11] (fun vs h => ∃ (l' out : List itemT.El) (n g : Nat), vs = [.lst itemT l', .int .i64 (n : Int)] ∧ h = [.cells 28 [.own 4 g out.length], .cells 3 [.int .i64 0], .cells 29 [.int .i64 0], .arr 28 (.sl itemT) [l, m] false 0, .arr 64 itemT out false g] ∧ thGo [] l m 0 = thGo out l' (m.drop n) (n : Int) ∧ n ≤ m.length ∧ l'.length ≤ 8000 ∧ out.length + l'.length + (m.length - n) ≤ 16000 ∧ ∀ x ∈ l', itE x = 0) (fun vs _ => match vs with | [.lst _ l', .int _ n] => l'.length + (m.length - n.toNat) | _ => 0) ?_
        conv => whnf
        refine ⟨⟨l, [], 0, 0, rfl, rfl, rfl, Nat.zero_le _, hll.1, by have := hll.1; have := hmm.1; simp; omega, hll.2.1⟩, ?_⟩
        clear q0 q1
        rintro vs h' - ⟨l', out, n, g, rfl, rfl, hth, hn, hl8, hle, hval⟩
        have hm8 := hmm.1
        have hn0 : ([] : List itemT.El).length = 0 := rfl
        by_cases hnm : n < m.length
        · obtain ⟨y, hy⟩ : ∃ y, m[n]? = some y := ⟨_, List.getElem?_eq_getElem hnm⟩
          rw [th_drop hy] at hth
          rcases l' with _ | ⟨x, l'⟩
          · rw [th_ny] at hth
            simp only [List.length_nil] at hle
            conv => whnf
            repeat' first
              | ((first | refine auIk ?_ | refine auIi ?_ | refine auT ?_ | refine auF ?_ | with_reducible first | refine auKt ?_ | refine auKf ?_ | refine auNt ?_ | refine auNf ?_ | refine auEt ?_ | refine auEf ?_); conv => whnf)
              | ((with_reducible first | refine br_dec (fun h => ?_) (fun h => ?_) | refine br_ndec (fun h => ?_) (fun h => ?_) | refine br_ne (fun h => ?_) (fun h => ?_) | refine br_eq (fun h => ?_) (fun h => ?_)) <;> first | (exfalso; omega) | conv => whnf)
              | (refine br_intro (fun h => ?_) (fun h => ?_) <;> conv => whnf)
              | ((first | refine auNd ?_ | refine idx_nat (by omega) (fun x hx => ?_) | refine frz_auto ?_ | refine draw_plain ?_ | refine auIx (fun x hx => ?_)); conv => whnf)
            refine ⟨rfl, back_intro (by conv => whnf) rfl ⟨[], out ++ [y], n + 1, g + 1, rfl, th_heap ?_ ?_, hth, by omega, by simp, ?_, by simp⟩ ?_⟩
            · simp only [cast_self, List.take_length]; rfl
            · rw [List.length_append]; rfl
            · rw [List.length_append]; simp only [List.length_cons, List.length_nil] at hle ⊢; omega
            · show ([] : List itemT.El).length + (m.length - ((n : Int) + 1).toNat) < ([] : List itemT.El).length + (m.length - (n : Int).toNat)
              omega
          · have hx0 : (x :: l')[Int.toNat 0]? = some x := rfl
            have hlx : (x :: l').length = l'.length + 1 := rfl
            have hlx2 : 0 < (x :: l').length := Nat.succ_pos _
            by_cases h1 : sLt x.2.1 y.2.1 = true
            · rw [th_lt h1] at hth
              conv => whnf
              repeat' first
                | ((first | refine auIk ?_ | refine auIi ?_ | refine auT ?_ | refine auF ?_ | with_reducible first | refine auKt ?_ | refine auKf ?_ | refine auNt ?_ | refine auNf ?_ | refine auEt ?_ | refine auEf ?_); conv => whnf)
                | ((with_reducible first | refine br_dec (fun h => ?_) (fun h => ?_) | refine br_ndec (fun h => ?_) (fun h => ?_) | refine br_ne (fun h => ?_) (fun h => ?_) | refine br_eq (fun h => ?_) (fun h => ?_)) <;> first | (exfalso; omega) | conv => whnf)
                | (refine br_intro (fun h => ?_) (fun h => ?_) <;> conv => whnf)
                | ((first | refine auNd ?_ | refine idx_nat (by omega) (fun x hx => ?_) | refine frz_auto ?_ | refine draw_plain ?_ | refine auIx (fun x hx => ?_)); conv => whnf)
              refine ⟨rfl, back_intro (by conv => whnf) rfl ⟨l', out ++ [x], n, g + 1, th_vs tail_take rfl, th_heap ?_ ?_, by rw [th_drop hy]; exact hth, by omega, by omega, ?_, fun z hz => hval z (List.mem_cons_of_mem _ hz)⟩ ?_⟩
              · simp only [cast_self, List.take_length]; rfl
              · rw [List.length_append]; rfl
              · rw [List.length_append]; simp only [List.length_cons, List.length_nil] at hle ⊢; omega
              · show (List.take (((x :: l').length : Int).toNat - Int.toNat 1) (List.drop (Int.toNat 1) (x :: l'))).length + (m.length - (n : Int).toNat) < (x :: l').length + (m.length - (n : Int).toNat)
                rw [tail_take]
                simp only [List.length_cons]; omega
            · have h1 : sLt x.2.1 y.2.1 = false := by simpa using h1
              by_cases h2 : sLt y.2.1 x.2.1 = true
              · rw [th_gt h2] at hth
                conv => whnf
                repeat' first
                  | ((first | refine auIk ?_ | refine auIi ?_ | refine auT ?_ | refine auF ?_ | with_reducible first | refine auKt ?_ | refine auKf ?_ | refine auNt ?_ | refine auNf ?_ | refine auEt ?_ | refine auEf ?_); conv => whnf)
                  | ((with_reducible first | refine br_dec (fun h => ?_) (fun h => ?_) | refine br_ndec (fun h => ?_) (fun h => ?_) | refine br_ne (fun h => ?_) (fun h => ?_) | refine br_eq (fun h => ?_) (fun h => ?_)) <;> first | (exfalso; omega) | conv => whnf)
                  | (refine br_intro (fun h => ?_) (fun h => ?_) <;> conv => whnf)
                  | ((first | refine auNd ?_ | refine idx_nat (by omega) (fun x hx => ?_) | refine frz_auto ?_ | refine draw_plain ?_ | refine auIx (fun x hx => ?_)); conv => whnf)
                refine ⟨rfl, back_intro (by conv => whnf) rfl ⟨x :: l', out ++ [y], n + 1, g + 1, th_vs rfl rfl, th_heap ?_ ?_, hth, by omega, by omega, ?_, hval⟩ ?_⟩
                · simp only [cast_self, List.take_length]; rfl
                · rw [List.length_append]; rfl
                · rw [List.length_append]; simp only [List.length_cons, List.length_nil] at hle ⊢; omega
                · show (x :: l').length + (m.length - ((n : Int) + 1).toNat) < (x :: l').length + (m.length - (n : Int).toNat)
                  omega
              · have h2 : sLt y.2.1 x.2.1 = false := by simpa using h2
                have hvx := hval x List.mem_cons_self
                have hvy := hmm.2.1 y (List.mem_of_getElem? hy)
                have hee := ends_eq hvx hvy
                have hji := join_itm hvx hvy
                conv => whnf
                repeat' first
                  | ((first | refine auIk ?_ | refine auIi ?_ | refine auT ?_ | refine auF ?_ | with_reducible first | refine auKt ?_ | refine auKf ?_ | refine auNt ?_ | refine auNf ?_ | refine auEt ?_ | refine auEf ?_); conv => whnf)
                  | ((with_reducible first | refine br_dec (fun h => ?_) (fun h => ?_) | refine br_ndec (fun h => ?_) (fun h => ?_) | refine br_ne (fun h => ?_) (fun h => ?_) | refine br_eq (fun h => ?_) (fun h => ?_)) <;> first | (exfalso; omega) | conv => whnf)
                  | (refine br_intro (fun h => ?_) (fun h => ?_) <;> conv => whnf)
                  | ((first | refine auNd ?_ | refine idx_nat (by omega) (fun x hx => ?_) | refine frz_auto ?_ | refine draw_plain ?_ | refine auIx (fun x hx => ?_)); conv => whnf)
                · have h : (!eqT (.st [.bool, .str]) (x.1 != 2, x.2.2.2.1, ()) (y.1 != 1, y.2.2.1, ())) = true := h
                  refine th_tup hl hm (hth.trans (th_ne h1 h2 (fun e => ?_))) rfl
                  rw [hee.2 e] at h
                  cases h
                · rename_i h'
                  have h' : (!eqT (.st [.bool, .str]) (x.1 != 2, x.2.2.2.1, ()) (y.1 != 1, y.2.2.1, ())) = false := h'
                  rw [th_eq h1 h2 (hee.1 (by simpa using h')), hji, if_pos h] at hth
                  refine ⟨rfl, back_intro (by conv => whnf) rfl ⟨l', _, n + 1, g + 1, th_vs tail_take rfl, th_heap ?_ ?_, hth, by omega, by omega, ?_, fun z hz => hval z (List.mem_cons_of_mem _ hz)⟩ ?_⟩
                  · simp only [cast_self, List.take_length]; rfl
                  · rw [List.length_append]; rfl
                  · rw [List.length_append]; simp only [List.length_cons, List.length_nil] at hle ⊢; omega
                  · show (List.take (((x :: l').length : Int).toNat - Int.toNat 1) (List.drop (Int.toNat 1) (x :: l'))).length + (m.length - ((n : Int) + 1).toNat) < (x :: l').length + (m.length - (n : Int).toNat)
                    rw [tail_take]
                    simp only [List.length_cons]; omega
                · rename_i h'
                  have h' : (!eqT (.st [.bool, .str]) (x.1 != 2, x.2.2.2.1, ()) (y.1 != 1, y.2.2.1, ())) = false := h'
                  rw [th_eq h1 h2 (hee.1 (by simpa using h')), hji, if_neg (by rw [h]; decide), List.append_nil] at hth
                  refine ⟨rfl, back_intro (by conv => whnf) rfl ⟨l', out, n + 1, g, th_vs tail_take rfl, rfl, hth, by omega, by omega, ?_, fun z hz => hval z (List.mem_cons_of_mem _ hz)⟩ ?_⟩
                  · simp only [List.length_cons] at hle ⊢; omega
                  · show (List.take (((x :: l').length : Int).toNat - Int.toNat 1) (List.drop (Int.toNat 1) (x :: l'))).length + (m.length - ((n : Int) + 1).toNat) < (x :: l').length + (m.length - (n : Int).toNat)
                    rw [tail_take]
                    simp only [List.length_cons]; omega
        · have hnm : n = m.length := by omega
          subst hnm
          rw [List.drop_length] at hth
          rcases l' with _ | ⟨x, l'⟩
          · rw [th_nn] at hth
            conv => whnf
            repeat' first
              | ((first | refine auIk ?_ | refine auIi ?_ | refine auT ?_ | refine auF ?_ | with_reducible first | refine auKt ?_ | refine auKf ?_ | refine auNt ?_ | refine auNf ?_ | refine auEt ?_ | refine auEf ?_); conv => whnf)
              | ((with_reducible first | refine br_dec (fun h => ?_) (fun h => ?_) | refine br_ndec (fun h => ?_) (fun h => ?_) | refine br_ne (fun h => ?_) (fun h => ?_) | refine br_eq (fun h => ?_) (fun h => ?_)) <;> first | (exfalso; omega) | conv => whnf)
              | (refine br_intro (fun h => ?_) (fun h => ?_) <;> conv => whnf)
              | ((first | refine auNd ?_ | refine idx_nat (by omega) (fun x hx => ?_) | refine frz_auto ?_ | refine draw_plain ?_ | refine auIx (fun x hx => ?_)); conv => whnf)
            exact th_tup hl hm hth (by simp)
          · have hx0 : (x :: l')[Int.toNat 0]? = some x := rfl
            have hlx : (x :: l').length = l'.length + 1 := rfl
            rw [th_xn] at hth
            conv => whnf
            repeat' first
              | ((first | refine auIk ?_ | refine auIi ?_ | refine auT ?_ | refine auF ?_ | with_reducible first | refine auKt ?_ | refine auKf ?_ | refine auNt ?_ | refine auNf ?_ | refine auEt ?_ | refine auEf ?_); conv => whnf)
              | ((with_reducible first | refine br_dec (fun h => ?_) (fun h => ?_) | refine br_ndec (fun h => ?_) (fun h => ?_) | refine br_ne (fun h => ?_) (fun h => ?_) | refine br_eq (fun h => ?_) (fun h => ?_)) <;> first | (exfalso; omega) | conv => whnf)
              | (refine br_intro (fun h => ?_) (fun h => ?_) <;> conv => whnf)
              | ((first | refine auNd ?_ | refine idx_nat (by omega) (fun x hx => ?_) | refine frz_auto ?_ | refine draw_plain ?_ | refine auIx (fun x hx => ?_)); conv => whnf)
            refine ⟨rfl, back_intro (by conv => whnf) rfl ⟨l', out ++ [x], m.length, g + 1, th_vs tail_take rfl, th_heap ?_ ?_, by rw [List.drop_length]; exact hth, by omega, by omega, ?_, fun z hz => hval z (List.mem_cons_of_mem _ hz)⟩ ?_⟩
            · simp only [cast_self, List.take_length]; rfl
            · rw [List.length_append]; rfl
            · rw [List.length_append]; simp only [List.length_cons, List.length_nil] at hle ⊢; omega
            · show (List.take (((x :: l').length : Int).toNat - Int.toNat 1) (List.drop (Int.toNat 1) (x :: l'))).length + (m.length - (m.length : Int).toNat) < (x :: l').length + (m.length - (m.length : Int).toNat)
              rw [tail_take]
              simp only [List.length_cons]; omega
      · have q0 : ([l, m] : List (Ty.sl itemT).El)[Int.toNat 0]? = some l := rfl
        have q1 : ([l, m] : List (Ty.sl itemT).El)[Int.toNat (0 + 1)]? = some m := rfl
        conv => whnf
        repeat' first
          | ((first | refine auIk ?_ | refine auIi ?_ | refine auT ?_ | refine auF ?_ | with_reducible first | refine auKt ?_ | refine auKf ?_ | refine auNt ?_ | refine auNf ?_ | refine auEt ?_ | refine auEf ?_); conv => whnf)
          | ((with_reducible first | refine br_dec (fun h => ?_) (fun h => ?_) | refine br_ndec (fun h => ?_) (fun h => ?_) | refine br_ne (fun h => ?_) (fun h => ?_) | refine br_eq (fun h => ?_) (fun h => ?_)) <;> first | (exfalso; omega) | conv => whnf)
          | (refine br_intro (fun h => ?_) (fun h => ?_) <;> conv => whnf)
          | ((first | refine auNd ?_ | refine idx_nat (by omega) (fun x hx => ?_) | refine frz_auto ?_ | refine draw_plain ?_ | refine auIx (fun x hx => ?_)); conv => whnf)
        refine loop_turns 3 ?_
        conv => whnf
        repeat' first
          | ((first | refine auIk ?_ | refine auIi ?_ | refine auT ?_ | refine auF ?_ | with_reducible first | refine auKt ?_ | refine auKf ?_ | refine auNt ?_ | refine auNf ?_ | refine auEt ?_ | refine auEf ?_); conv => whnf)
          | ((with_reducible first | refine br_dec (fun h => ?_) (fun h => ?_) | refine br_ndec (fun h => ?_) (fun h => ?_) | refine br_ne (fun h => ?_) (fun h => ?_) | refine br_eq (fun h => ?_) (fun h => ?_)) <;> first | (exfalso; omega) | conv => whnf)
          | (refine br_intro (fun h => ?_) (fun h => ?_) <;> conv => whnf)
          | ((first | refine auNd ?_ | refine idx_nat (by omega) (fun x hx => ?_) | refine frz_auto ?_ | refine draw_plain ?_ | refine auIx (fun x hx => ?_)); conv => whnf)
        refine ⟨rfl, ?_⟩
        conv => whnf
        repeat' first
          | ((first | refine auIk ?_ | refine auIi ?_ | refine auT ?_ | refine auF ?_ | with_reducible first | refine auKt ?_ | refine auKf ?_ | refine auNt ?_ | refine auNf ?_ | refine auEt ?_ | refine auEf ?_); conv => whnf)
          | ((with_reducible first | refine br_dec (fun h => ?_) (fun h => ?_) | refine br_ndec (fun h => ?_) (fun h => ?_) | refine br_ne (fun h => ?_) (fun h => ?_) | refine br_eq (fun h => ?_) (fun h => ?_)) <;> first | (exfalso; omega) | conv => whnf)
          | (refine br_intro (fun h => ?_) (fun h => ?_) <;> conv => whnf)
          | ((first | refine auNd ?_ | refine idx_nat (by omega) (fun x hx => ?_) | refine frz_auto ?_ | refine draw_plain ?_ | refine auIx (fun x hx => ?_)); conv => whnf)
        rw [thR, if_neg (by simp [hl]), if_pos hm]
    · have q0 : ([l, m] : List (Ty.sl itemT).El)[Int.toNat 0]? = some l := rfl
      conv => whnf
      repeat' first
        | ((first | refine auIk ?_ | refine auIi ?_ | refine auT ?_ | refine auF ?_ | with_reducible first | refine auKt ?_ | refine auKf ?_ | refine auNt ?_ | refine auNf ?_ | refine auEt ?_ | refine auEf ?_); conv => whnf)
        | ((with_reducible first | refine br_dec (fun h => ?_) (fun h => ?_) | refine br_ndec (fun h => ?_) (fun h => ?_) | refine br_ne (fun h => ?_) (fun h => ?_) | refine br_eq (fun h => ?_) (fun h => ?_)) <;> first | (exfalso; omega) | conv => whnf)
        | (refine br_intro (fun h => ?_) (fun h => ?_) <;> conv => whnf)
        | ((first | refine auNd ?_ | refine idx_nat (by omega) (fun x hx => ?_) | refine frz_auto ?_ | refine draw_plain ?_ | refine auIx (fun x hx => ?_)); conv => whnf)
      refine loop_turns 3 ?_
      conv => whnf
      repeat' first
        | ((first | refine auIk ?_ | refine auIi ?_ | refine auT ?_ | refine auF ?_ | with_reducible first | refine auKt ?_ | refine auKf ?_ | refine auNt ?_ | refine auNf ?_ | refine auEt ?_ | refine auEf ?_); conv => whnf)
        | ((with_reducible first | refine br_dec (fun h => ?_) (fun h => ?_) | refine br_ndec (fun h => ?_) (fun h => ?_) | refine br_ne (fun h => ?_) (fun h => ?_) | refine br_eq (fun h => ?_) (fun h => ?_)) <;> first | (exfalso; omega) | conv => whnf)
        | (refine br_intro (fun h => ?_) (fun h => ?_) <;> conv => whnf)
        | ((first | refine auNd ?_ | refine idx_nat (by omega) (fun x hx => ?_) | refine frz_auto ?_ | refine draw_plain ?_ | refine auIx (fun x hx => ?_)); conv => whnf)
      rw [thR, if_pos hl]
  · cases h
end Go.Proofs.YtdbnohpolknbbaaGreat
