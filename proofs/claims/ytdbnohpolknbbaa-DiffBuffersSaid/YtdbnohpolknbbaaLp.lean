/-
  What the program bears of the library: the laying of contracts.
  The map of a view, by the code.
  The pairs near a key: plain Lean.
  The pairs near a key, by the code.
  The pairs of a range, by both.
  The pairs of a range, by the code.
-/
import Derived.Test.YtdbnohpolknbbaaSo8
import Derived.Test.YtdbnohpolknbbaaE5
import Derived.Test.YtdbnohpolknbbaaSo1
import Derived.Test.YtdbnohpolknbbaaAw0
namespace Go.Proofs.Ytdbnohpolknbbaa
open Go.Shelf
def sortP_ren : Go.Shelf.Ren := ⟨fun | 6 => 79 | 15 => 46 | 14 => 89 | 28 => 69 | 29 => 70 | 20 => 92 | 21 => 93 | 22 => 94 | 23 => 95 | 24 => 96 | 25 => 97 | 26 => 98 | 27 => 99 | 46 => 100 | 47 => 83 | 48 => 84 | 49 => 101 | 50 => 102 | 57 => 103 | n => n, fun | 22 => 52 | 24 => 56 | 25 => 141 | 3 => 3 | 39 => 100 | 0 => 0 | 53 => 124 | 55 => 126 | 4 => 4 | 46 => 117 | 45 => 116 | 50 => 103 | 5 => 5 | 9 => 9 | 66 => 143 | 70 => 70 | 76 => 153 | 77 => 154 | n => n, fun | n => n⟩
theorem sortP : Go.Proofs.SlLaysF0.n6 Try.prog sortP_ren := {
  mixed := by kernel_rfl
  f6 := ⟨Try.f79.name, by decide, Try.func79.trans (congrArg some (by kernel_rfl))⟩
  f14 := ⟨Try.f89.name, by decide, Try.func89.trans (congrArg some (by kernel_rfl))⟩
  f15 := Try.func46.trans (congrArg some (by kernel_rfl))
  f20 := ⟨Try.f92.name, by decide, Try.func92.trans (congrArg some (by kernel_rfl))⟩
  f21 := ⟨Try.f93.name, by decide, Try.func93.trans (congrArg some (by kernel_rfl))⟩
  f22 := ⟨Try.f94.name, by decide, Try.func94.trans (congrArg some (by kernel_rfl))⟩
  f23 := ⟨Try.f95.name, by decide, Try.func95.trans (congrArg some (by kernel_rfl))⟩
  f24 := ⟨Try.f96.name, by decide, Try.func96.trans (congrArg some (by kernel_rfl))⟩
  f25 := ⟨Try.f97.name, by decide, Try.func97.trans (congrArg some (by kernel_rfl))⟩
  f26 := ⟨Try.f98.name, by decide, Try.func98.trans (congrArg some (by kernel_rfl))⟩
  f27 := ⟨Try.f99.name, by decide, Try.func99.trans (congrArg some (by kernel_rfl))⟩
  f28 := Try.func69.trans (congrArg some (by kernel_rfl))
  f29 := Try.func70.trans (congrArg some (by kernel_rfl))
  f46 := ⟨Try.f100.name, by decide, Try.func100.trans (congrArg some (by kernel_rfl))⟩
  f47 := Try.func83.trans (congrArg some (by kernel_rfl))
  f48 := Try.func84.trans (congrArg some (by kernel_rfl))
  f49 := ⟨Try.f101.name, by decide, Try.func101.trans (congrArg some (by kernel_rfl))⟩
  f50 := ⟨Try.f102.name, by decide, Try.func102.trans (congrArg some (by kernel_rfl))⟩
  f57 := ⟨Try.f103.name, by decide, Try.func103.trans (congrArg some (by kernel_rfl))⟩
  t0 := Try.underlying0
  a0 := Try.isAgg0
  z0 := Try.sizeOf0
  v0 := Try.zeroValue0
  t3 := Try.underlying3
  a3 := Try.isAgg3
  z3 := Try.sizeOf3
  v3 := Try.zeroValue3
  t4 := Try.underlying4
  a4 := Try.isAgg4
  z4 := Try.sizeOf4
  v4 := Try.zeroValue4
  t5 := Try.underlying5
  a5 := Try.isAgg5
  z5 := Try.sizeOf5
  v5 := Try.zeroValue5
  t9 := Try.underlying9
  a9 := Try.isAgg9
  z9 := Try.sizeOf9
  v9 := Try.zeroValue9
  t22 := Try.underlying52
  a22 := Try.isAgg52
  z22 := Try.sizeOf52
  v22 := Try.zeroValue52
  t25 := Try.underlying141
  a25 := Try.isAgg141
  z25 := Try.sizeOf141
  v25 := Try.zeroValue141
  t39 := Try.underlying100
  a39 := Try.isAgg100
  z39 := Try.sizeOf100
  v39 := Try.zeroValue100
  t45 := Try.underlying116
  a45 := Try.isAgg116
  z45 := Try.sizeOf116
  v45 := Try.zeroValue116
  t46 := Try.underlying117
  a46 := Try.isAgg117
  z46 := Try.sizeOf117
  v46 := Try.zeroValue117
  t50 := Try.underlying103
  a50 := Try.isAgg103
  z50 := Try.sizeOf103
  v50 := Try.zeroValue103
  t53 := Try.underlying124
  a53 := Try.isAgg124
  z53 := Try.sizeOf124
  v53 := Try.zeroValue124
  t55 := Try.underlying126
  a55 := Try.isAgg126
  z55 := Try.sizeOf126
  v55 := Try.zeroValue126
  t66 := Try.underlying143
  a66 := Try.isAgg143
  z66 := Try.sizeOf143
  v66 := Try.zeroValue143
  t70 := Try.underlying70
  a70 := Try.isAgg70
  z70 := Try.sizeOf70
  v70 := Try.zeroValue70
  t76 := Try.underlying153
  a76 := Try.isAgg153
  z76 := Try.sizeOf153
  v76 := Try.zeroValue153
  t77 := Try.underlying154
  a77 := Try.isAgg154
  z77 := Try.sizeOf154
  v77 := Try.zeroValue154 }
def sortI_ren : Go.Shelf.Ren := ⟨fun | 53 => 25 | 64 => 46 | 63 => 45 | 78 => 69 | 79 => 70 | 70 => 60 | 71 => 61 | 72 => 62 | 73 => 63 | 74 => 64 | 75 => 65 | 59 => 66 | 76 => 67 | 77 => 68 | 88 => 82 | 89 => 83 | 90 => 84 | 91 => 85 | 92 => 86 | 68 => 87 | 96 => 90 | n => n, fun | 22 => 32 | 23 => 3 | 3 => 3 | 51 => 100 | 0 => 0 | 67 => 124 | 69 => 126 | 4 => 4 | 61 => 117 | 60 => 116 | 44 => 103 | 5 => 5 | 9 => 9 | 75 => 143 | 79 => 70 | 83 => 153 | 84 => 154 | n => n, fun | n => n⟩
theorem sortI : Go.Proofs.SlLaysN.n53 Try.prog sortI_ren := {
  mixed := by kernel_rfl
  f53 := ⟨Try.f25.name, by decide, Try.func25.trans (congrArg some (by kernel_rfl))⟩
  f59 := ⟨Try.f66.name, by decide, Try.func66.trans (congrArg some (by kernel_rfl))⟩
  f63 := ⟨Try.f45.name, by decide, Try.func45.trans (congrArg some (by kernel_rfl))⟩
  f64 := Try.func46.trans (congrArg some (by kernel_rfl))
  f68 := ⟨Try.f87.name, by decide, Try.func87.trans (congrArg some (by kernel_rfl))⟩
  f70 := ⟨Try.f60.name, by decide, Try.func60.trans (congrArg some (by kernel_rfl))⟩
  f71 := ⟨Try.f61.name, by decide, Try.func61.trans (congrArg some (by kernel_rfl))⟩
  f72 := ⟨Try.f62.name, by decide, Try.func62.trans (congrArg some (by kernel_rfl))⟩
  f73 := ⟨Try.f63.name, by decide, Try.func63.trans (congrArg some (by kernel_rfl))⟩
  f74 := ⟨Try.f64.name, by decide, Try.func64.trans (congrArg some (by kernel_rfl))⟩
  f75 := ⟨Try.f65.name, by decide, Try.func65.trans (congrArg some (by kernel_rfl))⟩
  f76 := ⟨Try.f67.name, by decide, Try.func67.trans (congrArg some (by kernel_rfl))⟩
  f77 := ⟨Try.f68.name, by decide, Try.func68.trans (congrArg some (by kernel_rfl))⟩
  f78 := Try.func69.trans (congrArg some (by kernel_rfl))
  f79 := Try.func70.trans (congrArg some (by kernel_rfl))
  f88 := ⟨Try.f82.name, by decide, Try.func82.trans (congrArg some (by kernel_rfl))⟩
  f89 := Try.func83.trans (congrArg some (by kernel_rfl))
  f90 := Try.func84.trans (congrArg some (by kernel_rfl))
  f91 := ⟨Try.f85.name, by decide, Try.func85.trans (congrArg some (by kernel_rfl))⟩
  f92 := ⟨Try.f86.name, by decide, Try.func86.trans (congrArg some (by kernel_rfl))⟩
  f96 := ⟨Try.f90.name, by decide, Try.func90.trans (congrArg some (by kernel_rfl))⟩
  t0 := Try.underlying0
  a0 := Try.isAgg0
  z0 := Try.sizeOf0
  v0 := Try.zeroValue0
  t3 := Try.underlying3
  a3 := Try.isAgg3
  z3 := Try.sizeOf3
  v3 := Try.zeroValue3
  t4 := Try.underlying4
  a4 := Try.isAgg4
  z4 := Try.sizeOf4
  v4 := Try.zeroValue4
  t5 := Try.underlying5
  a5 := Try.isAgg5
  z5 := Try.sizeOf5
  v5 := Try.zeroValue5
  t9 := Try.underlying9
  a9 := Try.isAgg9
  z9 := Try.sizeOf9
  v9 := Try.zeroValue9
  t22 := Try.underlying32
  a22 := Try.isAgg32
  z22 := Try.sizeOf32
  v22 := Try.zeroValue32
  t23 := Try.underlying3
  a23 := Try.isAgg3
  z23 := Try.sizeOf3
  v23 := Try.zeroValue3
  t44 := Try.underlying103
  a44 := Try.isAgg103
  z44 := Try.sizeOf103
  v44 := Try.zeroValue103
  t51 := Try.underlying100
  a51 := Try.isAgg100
  z51 := Try.sizeOf100
  v51 := Try.zeroValue100
  t60 := Try.underlying116
  a60 := Try.isAgg116
  z60 := Try.sizeOf116
  v60 := Try.zeroValue116
  t61 := Try.underlying117
  a61 := Try.isAgg117
  z61 := Try.sizeOf117
  v61 := Try.zeroValue117
  t67 := Try.underlying124
  a67 := Try.isAgg124
  z67 := Try.sizeOf124
  v67 := Try.zeroValue124
  t69 := Try.underlying126
  a69 := Try.isAgg126
  z69 := Try.sizeOf126
  v69 := Try.zeroValue126
  t75 := Try.underlying143
  a75 := Try.isAgg143
  z75 := Try.sizeOf143
  v75 := Try.zeroValue143
  t79 := Try.underlying70
  a79 := Try.isAgg70
  z79 := Try.sizeOf70
  v79 := Try.zeroValue70
  t83 := Try.underlying153
  a83 := Try.isAgg153
  z83 := Try.sizeOf153
  v83 := Try.zeroValue153
  t84 := Try.underlying154
  a84 := Try.isAgg154
  z84 := Try.sizeOf154
  v84 := Try.zeroValue154 }
end Go.Proofs.Ytdbnohpolknbbaa
namespace Go.Proofs.Ytdbnohpolknbbaa
open Av Bk

set_option maxRecDepth 100000 in
theorem fnOk_lkPairs : FnOk Try.prog 56 Try.f56 := ⟨by rfl, by kernel_rfl, by
  show okCode _ _ = true ∧ drawsOk _ = true
  exact ⟨by kernel_rfl, by kernel_rfl⟩⟩
set_option maxRecDepth 100000 in
theorem fnOk_lkPairs1 : FnOk Try.prog 80 Try.f80 := ⟨by rfl, by kernel_rfl, by
  show okCode _ _ = true ∧ drawsOk _ = true
  exact ⟨by kernel_rfl, by kernel_rfl⟩⟩
set_option maxRecDepth 100000 in
theorem fnOk_lAll : FnOk Try.prog 119 Try.f119 := ⟨by rfl, by kernel_rfl, by
  show okCode _ _ = true ∧ drawsOk _ = true
  exact ⟨by kernel_rfl, by kernel_rfl⟩⟩
set_option maxRecDepth 100000 in
theorem fnOk_rAll : FnOk Try.prog 121 Try.f121 := ⟨by rfl, by kernel_rfl, by
  show okCode _ _ = true ∧ drawsOk _ = true
  exact ⟨by kernel_rfl, by kernel_rfl⟩⟩
def spPairs : FSpec
  | [.agg [.lst (.st [.str, .str, .bool, .int .i64]) b, .lst (.st [.int .i64, .sl (.st [.str, .str, .bool, .int .i64])]) rs]] => some (GoodV b rs, ⟨56, pairT, mapL (allE b rs)⟩)
  | _ => none
theorem sortPairs_ok : SortOk Try.prog 79 pairT := SortOk.str sortP rfl (by decide) Try.isAgg56 Try.sizeOf56
def zj : List (FuncId × Ty) := [(79, pairT)]
theorem sortsj : SortsOk Try.prog zj := .cons sortPairs_ok .nil
noncomputable def cxj1 : Cx := ⟨tb, [(80, Try.f80), (119, Try.f119), (121, Try.f121)], [(43, spCmp), (78, spPA)]⟩
theorem specsj1 : SpecsOk Try.prog cxj1.specs := .cons cmpStr_ok (.cons lkParts_ok .nil)
theorem fnsj1 : FnsOk Try.prog cxj1.fns := .cons fnOk_lkPairs1 (.cons fnOk_lAll (.cons fnOk_rAll .nil))
theorem parts_all {b : List entT.El} {rs : List runT.El} {i : Nat} {l : List entT.El} (h : (partsB b rs)[i]? = some l) : ((partsB b rs).take (i + 1)).flatten = ((partsB b rs).take i).flatten ++ l := flat_all h
theorem own_1 {id g n m : Nat} (h : n = m) : [AV.own id g n] = [AV.own id g m] := by rw [h]
theorem heap_it {a b c d : AObj} {T : TypeId} {t : Ty} {g : Nat} {l m : List t.El} (hl : l = m) : [a, b, c, .arr T t l false g, d] = [a, b, c, AObj.arr T t m false g, d] := by rw [hl]
set_option maxRecDepth 100000 in
set_option maxHeartbeats 4000000 in
theorem lkPairs_ok : FreshOk Try.prog 56 spPairs := by
  refine fresh_body (C := cxj1) mixed tbOk specsj1 (callZ_ok (C := cxj1) mixed tbOk specsj1 fnsj1 sortsj 4) fnOk_lkPairs ?_
  intro ys p r h hp
  unfold spPairs at h
  split at h
  · rename_i b rs
    cases h
    have hlr := hp.lr
    have hal := (all_len hp).2
    have hpl : (partsA b rs).length = rs.length + 1 := by simp [partsA]
    have hpl2 : (partsB b rs).length = rs.length + 1 := by simp [partsB]
    conv => whnf
    repeat' first
      | ((first | refine auT ?_ | refine auF ?_ | with_reducible first | refine auKt ?_ | refine auKf ?_ | refine auNt ?_ | refine auNf ?_ | refine auEt ?_ | refine auEf ?_); conv => whnf)
      | ((with_reducible first | refine br_dec (fun h => ?_) (fun h => ?_) | refine br_ndec (fun h => ?_) (fun h => ?_) | refine br_ne (fun h => ?_) (fun h => ?_) | refine br_eq (fun h => ?_) (fun h => ?_)) <;> first | (exfalso; omega) | conv => whnf)
      | (refine br_intro (fun h => ?_) (fun h => ?_) <;> conv => whnf)
      | ((first | refine auNd ?_ | refine idx_nat (by omega) (fun x hx => ?_) | refine frz_auto ?_ | refine draw_plain ?_ | refine auIx (fun x hx => ?_)); conv => whnf)
    refine .mk (fun bm => ?_)
    conv => whnf
    repeat' first
      | ((first | refine auT ?_ | refine auF ?_ | with_reducible first | refine auKt ?_ | refine auKf ?_ | refine auNt ?_ | refine auNf ?_ | refine auEt ?_ | refine auEf ?_); conv => whnf)
      | ((with_reducible first | refine br_dec (fun h => ?_) (fun h => ?_) | refine br_ndec (fun h => ?_) (fun h => ?_) | refine br_ne (fun h => ?_) (fun h => ?_) | refine br_eq (fun h => ?_) (fun h => ?_)) <;> first | (exfalso; omega) | conv => whnf)
      | (refine br_intro (fun h => ?_) (fun h => ?_) <;> conv => whnf)
      | ((first | refine auNd ?_ | refine idx_nat (by omega) (fun x hx => ?_) | refine frz_auto ?_ | refine draw_plain ?_ | refine auIx (fun x hx => ?_)); conv => whnf)
    refine loop_inv [] [17] (fun vs h => ∃ (i : Nat) (m : List mEl), vs = [.int .i64 (i : Int)] ∧ h = [.cells 25 [.lst entT b, .lst runT rs], .arr 56 pairT [] false 0, .oth (.map bm .str entT m)] ∧ i ≤ (partsB b rs).length ∧ MapOk m ((partsB b rs).take i).flatten) (fun vs _ => match vs with | [.int _ k] => (partsB b rs).length - k.toNat | _ => 0) ?_
    conv => whnf
    refine ⟨⟨0, [], rfl, rfl, by omega, mapOk_nil⟩, ?_⟩
    rintro vs h' - ⟨i, m, rfl, rfl, hi, hm⟩
    by_cases hil : i < (partsA b rs).length
    · obtain ⟨l, hlB, hlA⟩ := parts_at hil
      have hgl := goodL_of (parts_good hp (List.mem_of_getElem? hlB))
      have hll := hgl.2
      rcases hlA with hlA | ⟨id, hlA⟩
      · conv => whnf
        repeat' first
          | ((first | refine auIk ?_ | refine auIi ?_ | refine auT ?_ | refine auF ?_ | with_reducible first | refine auKt ?_ | refine auKf ?_ | refine auNt ?_ | refine auNf ?_ | refine auEt ?_ | refine auEf ?_); conv => whnf)
          | ((with_reducible first | refine br_dec (fun h => ?_) (fun h => ?_) | refine br_ndec (fun h => ?_) (fun h => ?_) | refine br_ne (fun h => ?_) (fun h => ?_) | refine br_eq (fun h => ?_) (fun h => ?_)) <;> first | (exfalso; omega) | conv => whnf)
          | (refine br_intro (fun h => ?_) (fun h => ?_) <;> conv => whnf)
          | ((first | refine auNd ?_ | refine idx_nat (by omega) (fun x hx => ?_) | refine frz_auto ?_ | refine draw_plain ?_ | refine auIx (fun x hx => ?_)); conv => whnf)
        refine loop_inv [] [24] (fun vs h => ∃ (k : Nat) (m : List mEl), vs = [.int .i64 (k : Int)] ∧ h = [.cells 25 [.lst entT b, .lst runT rs], .arr 56 pairT [] false 0, .oth (.map bm .str entT m), .arr 47 entT [] false 0] ∧ k ≤ l.length ∧ MapOk m (((partsB b rs).take i).flatten ++ l.take k)) (fun vs _ => match vs with | [.int _ k] => l.length - k.toNat | _ => 0) ?_
        conv => whnf
        refine ⟨⟨0, m, rfl, rfl, by omega, by rw [List.take_zero, List.append_nil]; exact hm⟩, ?_⟩
        clear hm
        rintro vs h' - ⟨k, m, rfl, rfl, hk, hm⟩
        by_cases hkl : k < l.length
        · obtain ⟨x, hx⟩ : ∃ x, l[k]? = some x := ⟨_, List.getElem?_eq_getElem hkl⟩
          have hxs : ((partsB b rs).take i).flatten ++ l.take (k + 1) = (((partsB b rs).take i).flatten ++ l.take k) ++ [x] := by rw [take_snoc1 hx, List.append_assoc]
          conv => whnf
          repeat' first
            | ((first | refine auIk ?_ | refine auIi ?_ | refine auT ?_ | refine auF ?_ | with_reducible first | refine auKt ?_ | refine auKf ?_ | refine auNt ?_ | refine auNf ?_ | refine auEt ?_ | refine auEf ?_); conv => whnf)
            | ((with_reducible first | refine br_dec (fun h => ?_) (fun h => ?_) | refine br_ndec (fun h => ?_) (fun h => ?_) | refine br_ne (fun h => ?_) (fun h => ?_) | refine br_eq (fun h => ?_) (fun h => ?_)) <;> first | (exfalso; omega) | conv => whnf)
            | (refine br_intro (fun h => ?_) (fun h => ?_) <;> conv => whnf)
            | ((first | refine auNd ?_ | refine idx_nat (by omega) (fun x hx => ?_) | refine frz_auto ?_ | refine draw_plain ?_ | refine auIx (fun x hx => ?_)); conv => whnf)
          refine .mk (fun y hy => ?_) (fun hy => ?_)
          · conv => whnf
            repeat' first
              | ((first | refine auIk ?_ | refine auIi ?_ | refine auT ?_ | refine auF ?_ | with_reducible first | refine auKt ?_ | refine auKf ?_ | refine auNt ?_ | refine auNf ?_ | refine auEt ?_ | refine auEf ?_); conv => whnf)
              | ((with_reducible first | refine br_dec (fun h => ?_) (fun h => ?_) | refine br_ndec (fun h => ?_) (fun h => ?_) | refine br_ne (fun h => ?_) (fun h => ?_) | refine br_eq (fun h => ?_) (fun h => ?_)) <;> first | (exfalso; omega) | conv => whnf)
              | (refine br_intro (fun h => ?_) (fun h => ?_) <;> conv => whnf)
              | ((first | refine auNd ?_ | refine idx_nat (by omega) (fun x hx => ?_) | refine frz_auto ?_ | refine draw_plain ?_ | refine auIx (fun x hx => ?_)); conv => whnf)
            refine back_intro (by conv => whnf) rfl ⟨k + 1, m, rfl, rfl, by omega, by rw [hxs]; exact mapOk_old hm hy⟩ ?_
            show l.length - ((k : Int) + 1).toNat < l.length - (k : Int).toNat
            omega
          · conv => whnf
            repeat' first
              | ((first | refine auIk ?_ | refine auIi ?_ | refine auT ?_ | refine auF ?_ | with_reducible first | refine auKt ?_ | refine auKf ?_ | refine auNt ?_ | refine auNf ?_ | refine auEt ?_ | refine auEf ?_); conv => whnf)
              | ((with_reducible first | refine br_dec (fun h => ?_) (fun h => ?_) | refine br_ndec (fun h => ?_) (fun h => ?_) | refine br_ne (fun h => ?_) (fun h => ?_) | refine br_eq (fun h => ?_) (fun h => ?_)) <;> first | (exfalso; omega) | conv => whnf)
              | (refine br_intro (fun h => ?_) (fun h => ?_) <;> conv => whnf)
              | ((first | refine auNd ?_ | refine idx_nat (by omega) (fun x hx => ?_) | refine frz_auto ?_ | refine draw_plain ?_ | refine auIx (fun x hx => ?_)); conv => whnf)
            refine back_intro (by conv => whnf) rfl ⟨k + 1, _, rfl, rfl, by omega, by rw [hxs]; exact (mapOk_new hm hy).1⟩ ?_
            show l.length - ((k : Int) + 1).toNat < l.length - (k : Int).toNat
            omega
        · conv => whnf
          repeat' first
            | ((first | refine auIk ?_ | refine auIi ?_ | refine auT ?_ | refine auF ?_ | with_reducible first | refine auKt ?_ | refine auKf ?_ | refine auNt ?_ | refine auNf ?_ | refine auEt ?_ | refine auEf ?_); conv => whnf)
            | ((with_reducible first | refine br_dec (fun h => ?_) (fun h => ?_) | refine br_ndec (fun h => ?_) (fun h => ?_) | refine br_ne (fun h => ?_) (fun h => ?_) | refine br_eq (fun h => ?_) (fun h => ?_)) <;> first | (exfalso; omega) | conv => whnf)
            | (refine br_intro (fun h => ?_) (fun h => ?_) <;> conv => whnf)
            | ((first | refine auNd ?_ | refine idx_nat (by omega) (fun x hx => ?_) | refine frz_auto ?_ | refine draw_plain ?_ | refine auIx (fun x hx => ?_)); conv => whnf)
          rw [List.take_of_length_le (l := l) (i := k) (by omega)] at hm
          refine back_intro (by conv => whnf) rfl ⟨i + 1, m, rfl, rfl, by omega, by rw [parts_all hlB]; exact hm⟩ ?_
          show (partsB b rs).length - ((i : Int) + 1).toNat < (partsB b rs).length - (i : Int).toNat
          omega
      · have hrl : List.length ((id, l, ()) : runT.El).2.1 = l.length := rfl
        conv => whnf
        repeat' first
          | ((first | refine auIk ?_ | refine auIi ?_ | refine auT ?_ | refine auF ?_ | with_reducible first | refine auKt ?_ | refine auKf ?_ | refine auNt ?_ | refine auNf ?_ | refine auEt ?_ | refine auEf ?_); conv => whnf)
          | ((with_reducible first | refine br_dec (fun h => ?_) (fun h => ?_) | refine br_ndec (fun h => ?_) (fun h => ?_) | refine br_ne (fun h => ?_) (fun h => ?_) | refine br_eq (fun h => ?_) (fun h => ?_)) <;> first | (exfalso; omega) | conv => whnf)
          | (refine br_intro (fun h => ?_) (fun h => ?_) <;> conv => whnf)
          | ((first | refine auNd ?_ | refine idx_nat (by omega) (fun x hx => ?_) | refine frz_auto ?_ | refine draw_plain ?_ | refine auIx (fun x hx => ?_)); conv => whnf)
        refine loop_inv [] [24] (fun vs h => ∃ (k : Nat) (m : List mEl), vs = [.int .i64 (k : Int)] ∧ h = [.cells 25 [.lst entT b, .lst runT rs], .arr 56 pairT [] false 0, .oth (.map bm .str entT m), .cells 151 [.int .i64 id, .lst entT l], .arr 47 entT [] false 0] ∧ k ≤ l.length ∧ MapOk m (((partsB b rs).take i).flatten ++ l.take k)) (fun vs _ => match vs with | [.int _ k] => l.length - k.toNat | _ => 0) ?_
        conv => whnf
        refine ⟨⟨0, m, rfl, rfl, by omega, by rw [List.take_zero, List.append_nil]; exact hm⟩, ?_⟩
        clear hm
        rintro vs h' - ⟨k, m, rfl, rfl, hk, hm⟩
        by_cases hkl : k < l.length
        · obtain ⟨x, hx⟩ : ∃ x, l[k]? = some x := ⟨_, List.getElem?_eq_getElem hkl⟩
          have hxs : ((partsB b rs).take i).flatten ++ l.take (k + 1) = (((partsB b rs).take i).flatten ++ l.take k) ++ [x] := by rw [take_snoc1 hx, List.append_assoc]
          conv => whnf
          repeat' first
            | ((first | refine auIk ?_ | refine auIi ?_ | refine auT ?_ | refine auF ?_ | with_reducible first | refine auKt ?_ | refine auKf ?_ | refine auNt ?_ | refine auNf ?_ | refine auEt ?_ | refine auEf ?_); conv => whnf)
            | ((with_reducible first | refine br_dec (fun h => ?_) (fun h => ?_) | refine br_ndec (fun h => ?_) (fun h => ?_) | refine br_ne (fun h => ?_) (fun h => ?_) | refine br_eq (fun h => ?_) (fun h => ?_)) <;> first | (exfalso; omega) | conv => whnf)
            | (refine br_intro (fun h => ?_) (fun h => ?_) <;> conv => whnf)
            | ((first | refine auNd ?_ | refine idx_nat (by omega) (fun x hx => ?_) | refine frz_auto ?_ | refine draw_plain ?_ | refine auIx (fun x hx => ?_)); conv => whnf)
          refine .mk (fun y hy => ?_) (fun hy => ?_)
          · conv => whnf
            repeat' first
              | ((first | refine auIk ?_ | refine auIi ?_ | refine auT ?_ | refine auF ?_ | with_reducible first | refine auKt ?_ | refine auKf ?_ | refine auNt ?_ | refine auNf ?_ | refine auEt ?_ | refine auEf ?_); conv => whnf)
              | ((with_reducible first | refine br_dec (fun h => ?_) (fun h => ?_) | refine br_ndec (fun h => ?_) (fun h => ?_) | refine br_ne (fun h => ?_) (fun h => ?_) | refine br_eq (fun h => ?_) (fun h => ?_)) <;> first | (exfalso; omega) | conv => whnf)
              | (refine br_intro (fun h => ?_) (fun h => ?_) <;> conv => whnf)
              | ((first | refine auNd ?_ | refine idx_nat (by omega) (fun x hx => ?_) | refine frz_auto ?_ | refine draw_plain ?_ | refine auIx (fun x hx => ?_)); conv => whnf)
            refine back_intro (by conv => whnf) rfl ⟨k + 1, m, rfl, rfl, by omega, by rw [hxs]; exact mapOk_old hm hy⟩ ?_
            show l.length - ((k : Int) + 1).toNat < l.length - (k : Int).toNat
            omega
          · conv => whnf
            repeat' first
              | ((first | refine auIk ?_ | refine auIi ?_ | refine auT ?_ | refine auF ?_ | with_reducible first | refine auKt ?_ | refine auKf ?_ | refine auNt ?_ | refine auNf ?_ | refine auEt ?_ | refine auEf ?_); conv => whnf)
              | ((with_reducible first | refine br_dec (fun h => ?_) (fun h => ?_) | refine br_ndec (fun h => ?_) (fun h => ?_) | refine br_ne (fun h => ?_) (fun h => ?_) | refine br_eq (fun h => ?_) (fun h => ?_)) <;> first | (exfalso; omega) | conv => whnf)
              | (refine br_intro (fun h => ?_) (fun h => ?_) <;> conv => whnf)
              | ((first | refine auNd ?_ | refine idx_nat (by omega) (fun x hx => ?_) | refine frz_auto ?_ | refine draw_plain ?_ | refine auIx (fun x hx => ?_)); conv => whnf)
            refine back_intro (by conv => whnf) rfl ⟨k + 1, _, rfl, rfl, by omega, by rw [hxs]; exact (mapOk_new hm hy).1⟩ ?_
            show l.length - ((k : Int) + 1).toNat < l.length - (k : Int).toNat
            omega
        · conv => whnf
          repeat' first
            | ((first | refine auIk ?_ | refine auIi ?_ | refine auT ?_ | refine auF ?_ | with_reducible first | refine auKt ?_ | refine auKf ?_ | refine auNt ?_ | refine auNf ?_ | refine auEt ?_ | refine auEf ?_); conv => whnf)
            | ((with_reducible first | refine br_dec (fun h => ?_) (fun h => ?_) | refine br_ndec (fun h => ?_) (fun h => ?_) | refine br_ne (fun h => ?_) (fun h => ?_) | refine br_eq (fun h => ?_) (fun h => ?_)) <;> first | (exfalso; omega) | conv => whnf)
            | (refine br_intro (fun h => ?_) (fun h => ?_) <;> conv => whnf)
            | ((first | refine auNd ?_ | refine idx_nat (by omega) (fun x hx => ?_) | refine frz_auto ?_ | refine draw_plain ?_ | refine auIx (fun x hx => ?_)); conv => whnf)
          rw [List.take_of_length_le (l := l) (i := k) (by omega)] at hm
          refine back_intro (by conv => whnf) rfl ⟨i + 1, m, rfl, rfl, by omega, by rw [parts_all hlB]; exact hm⟩ ?_
          show (partsB b rs).length - ((i : Int) + 1).toNat < (partsB b rs).length - (i : Int).toNat
          omega
    · conv => whnf
      repeat' first
        | ((first | refine auIk ?_ | refine auIi ?_ | refine auT ?_ | refine auF ?_ | with_reducible first | refine auKt ?_ | refine auKf ?_ | refine auNt ?_ | refine auNf ?_ | refine auEt ?_ | refine auEf ?_); conv => whnf)
        | ((with_reducible first | refine br_dec (fun h => ?_) (fun h => ?_) | refine br_ndec (fun h => ?_) (fun h => ?_) | refine br_ne (fun h => ?_) (fun h => ?_) | refine br_eq (fun h => ?_) (fun h => ?_)) <;> first | (exfalso; omega) | conv => whnf)
        | (refine br_intro (fun h => ?_) (fun h => ?_) <;> conv => whnf)
        | ((first | refine auNd ?_ | refine idx_nat (by omega) (fun x hx => ?_) | refine frz_auto ?_ | refine draw_plain ?_ | refine auIx (fun x hx => ?_)); conv => whnf)
      rw [List.take_of_length_le (by omega)] at hm
      refine loop_inv [] [10] (fun vs h => ∃ (g : Nat) (seen : List Nat) (out : List pairT.El), vs = [.own 3 g out.length] ∧ h = [.cells 25 [.lst entT b, .lst runT rs], .arr 56 pairT [] false 0, .oth (.map bm .str entT m), .arr 56 pairT out false g, .oth (.iter 2 bm m.length seen)] ∧ OutOk m seen out) (fun _ h => match h with | [_, _, _, _, .oth (.iter _ _ _ seen)] => m.length - seen.length | _ => 0) ?_
      have hln : m.length ≤ (allE b rs).length := hm.ln
      conv => whnf
      refine ⟨⟨0, [], [], rfl, rfl, outOk_nil m⟩, ?_⟩
      rintro vs h' - ⟨g, seen, out, rfl, rfl, ho⟩
      have hsl := seen_len ho.sd ho.lt
      have hol := ho.ln
      conv => whnf
      repeat' first
        | ((first | refine auIk ?_ | refine auIi ?_ | refine auT ?_ | refine auF ?_ | with_reducible first | refine auKt ?_ | refine auKf ?_ | refine auNt ?_ | refine auNf ?_ | refine auEt ?_ | refine auEf ?_); conv => whnf)
        | ((with_reducible first | refine br_dec (fun h => ?_) (fun h => ?_) | refine br_ndec (fun h => ?_) (fun h => ?_) | refine br_ne (fun h => ?_) (fun h => ?_) | refine br_eq (fun h => ?_) (fun h => ?_)) <;> first | (exfalso; omega) | conv => whnf)
        | (refine br_intro (fun h => ?_) (fun h => ?_) <;> conv => whnf)
        | ((first | refine auNd ?_ | refine idx_nat (by omega) (fun x hx => ?_) | refine frz_auto ?_ | refine draw_plain ?_ | refine auIx (fun x hx => ?_)); conv => whnf)
      refine .mk (fun i e he hn => ?_) (fun hall => ?_)
      · have hsl2 := seen_len (List.nodup_cons.2 ⟨hn, ho.sd⟩) (n := m.length) (fun j hj => by
          rcases List.mem_cons.1 hj with rfl | hj
          · exact (List.getElem?_eq_some_iff.1 he).1
          · exact ho.lt j hj)
        rw [List.length_cons] at hsl2
        conv => whnf
        repeat' first
          | ((first | refine auIk ?_ | refine auIi ?_ | refine auT ?_ | refine auF ?_ | with_reducible first | refine auKt ?_ | refine auKf ?_ | refine auNt ?_ | refine auNf ?_ | refine auEt ?_ | refine auEf ?_); conv => whnf)
          | ((with_reducible first | refine br_dec (fun h => ?_) (fun h => ?_) | refine br_ndec (fun h => ?_) (fun h => ?_) | refine br_ne (fun h => ?_) (fun h => ?_) | refine br_eq (fun h => ?_) (fun h => ?_)) <;> first | (exfalso; omega) | conv => whnf)
          | (refine br_intro (fun h => ?_) (fun h => ?_) <;> conv => whnf)
          | ((first | refine auNd ?_ | refine idx_nat (by omega) (fun x hx => ?_) | refine frz_auto ?_ | refine draw_plain ?_ | refine auIx (fun x hx => ?_)); conv => whnf)
        · refine back_intro (by conv => whnf) rfl ⟨g + 1, i :: seen, out ++ [mkP e.1 e.2.2.1], own_1 ?_, heap_it ?_, outOk_live hm ho he hn (by simpa using h)⟩ ?_
          · rw [List.length_append]; rfl
          · simp only [cast_self, List.take_length]; rfl
          · show m.length - (i :: seen).length < m.length - seen.length
            rw [List.length_cons]
            omega
        · refine back_intro (by conv => whnf) rfl ⟨g, i :: seen, out, rfl, rfl, outOk_dead ho he hn (by simpa using h)⟩ ?_
          show m.length - (i :: seen).length < m.length - seen.length
          rw [List.length_cons]
          omega
      · conv => whnf
        repeat' (first
          | (refine br_false (by first | with_reducible exact rfl | assumption | decide) ?_; conv => whnf)
          | (refine need_in (show g = g ∧ out.length = out.length ∧ Ty.beq pairT pairT = true ∧ out.length < 4611686018427387904 from ⟨rfl, rfl, by decide, by omega⟩) ?_; conv => whnf))
        refine .mk (fun _ => True) (fun x y => ordS x.1 y.1) (fun _ _ => trivial) (fun x y _ _ => ?_) (fun x _ => ?_) (fun x y z _ _ _ h1 h2 => ?_) (fun x y z _ _ _ h1 h2 => ?_) (fun out' hp' hs' => ?_)
        · conv => whnf
          repeat' first
            | ((first | refine auT ?_ | refine auF ?_ | with_reducible first | refine auKt ?_ | refine auKf ?_ | refine auNt ?_ | refine auNf ?_ | refine auEt ?_ | refine auEf ?_); conv => whnf)
            | ((with_reducible first | refine br_dec (fun h => ?_) (fun h => ?_) | refine br_ndec (fun h => ?_) (fun h => ?_) | refine br_ne (fun h => ?_) (fun h => ?_) | refine br_eq (fun h => ?_) (fun h => ?_)) <;> first | (exfalso; omega) | conv => whnf)
            | (refine br_intro (fun h => ?_) (fun h => ?_) <;> conv => whnf)
            | ((first | refine auNd ?_ | refine idx_nat (by omega) (fun x hx => ?_) | refine frz_auto ?_ | refine draw_plain ?_ | refine auIx (fun x hx => ?_)); conv => whnf)
          all_goals rfl
        · rw [ordS_lt, sLt_irrefl]; decide
        · exact ordS_lt.2 (sLt_trans (ordS_lt.1 h1) (ordS_lt.1 h2))
        · intro h
          have h3 := ordS_lt.1 h
          have g1 : sLt x.1 y.1 = false := by simpa using fun e => h1 (ordS_lt.2 e)
          have g2 : sLt y.1 z.1 = false := by simpa using fun e => h2 (ordS_lt.2 e)
          rw [show sLt x.1 z.1 = false from bl_ge_trans g1 g2] at h3
          cases h3
        · conv => whnf
          have hl : out' = mapL (allE b rs) := sorted_map hm ho hall hp' hs'
          have hln' : out.length = (mapL (allE b rs)).length := by rw [← hl]; exact hp'.length_eq.symm
          refine ⟨3, g, false, by rw [hln'], ?_⟩
          rw [← hl]
          rfl
  · cases h
end Go.Proofs.Ytdbnohpolknbbaa
namespace Go.Proofs.Ytdbnohpolknbbaa
open Av Bk

theorem mapL_len (l : List entT.El) : (mapL l).length ≤ l.length := (mapF_len l).2
end Go.Proofs.Ytdbnohpolknbbaa
namespace Go.Proofs.Ytdbnohpolknbbaa
open Av Bk

set_option maxRecDepth 100000 in
theorem fnOk_idxPair : FnOk Try.prog 77 Try.f77 := ⟨by rfl, by kernel_rfl, by
  show okCode _ _ = true ∧ drawsOk _ = true
  exact ⟨by kernel_rfl, by kernel_rfl⟩⟩
end Go.Proofs.Ytdbnohpolknbbaa
namespace Go.Proofs.Ytdbnohpolknbbaa
open Av Bk

def partR (b : List entT.El) (rs : List runT.El) (lo hi : ByteArray) (bd : Bool) : List pairT.El × Int :=
  if (vcL b rs).2 ≠ 0 then ([], (vcL b rs).2) else if rgE lo hi bd ≠ 0 then ([], rgE lo hi bd) else ((mapL (allE b rs)).filter (fun p => hasB lo hi bd p.1), 0)
def spPart : DSpec
  | [.agg [.lst (.st [.str, .str, .bool, .int .i64]) b, .lst (.st [.int .i64, .sl (.st [.str, .str, .bool, .int .i64])]) rs], .agg [.str lo, .str hi, .bool bd]] => some (True, .tup [.lst pairT (partR b rs lo hi bd).1, .int .i64 (partR b rs lo hi bd).2])
  | _ => none
theorem part_eq {l : List pairT.El} {e : Int} {r : List pairT.El × Int} (h : r = (l, e)) : AV.tup [.lst pairT l, .int .i64 e] = AV.tup [.lst pairT r.1, .int .i64 r.2] := by rw [h]
theorem part_v {b : List entT.El} {rs : List runT.El} {lo hi : ByteArray} {bd : Bool} (h : (vcL b rs).2 ≠ 0) : partR b rs lo hi bd = ([], (vcL b rs).2) := by rw [partR, if_pos h]
theorem part_r {b : List entT.El} {rs : List runT.El} {lo hi : ByteArray} {bd : Bool} (h : (vcL b rs).2 = 0) (h2 : rgE lo hi bd ≠ 0) : partR b rs lo hi bd = ([], rgE lo hi bd) := by rw [partR, if_neg (by simp [h]), if_pos h2]
theorem part_g {b : List entT.El} {rs : List runT.El} {lo hi : ByteArray} {bd : Bool} (h : (vcL b rs).2 = 0) (h2 : rgE lo hi bd = 0) : partR b rs lo hi bd = ((mapL (allE b rs)).filter (fun p => hasB lo hi bd p.1), 0) := by rw [partR, if_neg (by simp [h]), if_neg (by simp [h2])]
theorem filter_snoc {α : Type} {q : α → Bool} {l : List α} {i : Nat} {x : α} (hx : l[i]? = some x) : (l.take (i + 1)).filter q = (l.take i).filter q ++ (if q x = true then [x] else []) := by
  rw [List.take_add_one, hx, List.filter_append]
  congr 1
  by_cases h : q x = true <;> simp [h]
theorem mapL_key {b : List entT.El} {rs : List runT.El} (h : GoodV b rs) {p : pairT.El} (hp : p ∈ mapL (allE b rs)) : keyE p.1 = 0 := by
  obtain ⟨x, hx, hk, _, _⟩ := getM_mem ((mapL_mem _ p).1 hp)
  have he := all_err h hx
  rw [← hk]
  simp only [errX, errE] at he
  unfold keyE
  by_cases h32 : 32 < (x.1.size : Int)
  · simp [h32] at he
  · simp [h32]
end Go.Proofs.Ytdbnohpolknbbaa
namespace Go.Proofs.Ytdbnohpolknbbaa
open Av Bk

set_option maxRecDepth 100000 in
theorem fnOk_lkPart : FnOk Try.prog 42 Try.f42 := ⟨by rfl, by kernel_rfl, by
  show okCode _ _ = true ∧ drawsOk _ = true
  exact ⟨by kernel_rfl, by kernel_rfl⟩⟩
set_option maxRecDepth 100000 in
theorem fnOk_lkPart1 : FnOk Try.prog 57 Try.f57 := ⟨by rfl, by kernel_rfl, by
  show okCode _ _ = true ∧ drawsOk _ = true
  exact ⟨by kernel_rfl, by kernel_rfl⟩⟩
set_option maxRecDepth 100000 in
theorem fnOk_delPair : FnOk Try.prog 55 Try.f55 := ⟨by rfl, by kernel_rfl, by
  show okCode _ _ = true ∧ drawsOk _ = true
  exact ⟨by kernel_rfl, by kernel_rfl⟩⟩
noncomputable def cxp1 : Cx := ⟨tb, [(57, Try.f57), (55, Try.f55), (77, Try.f77)], [(41, spVC), (54, spRg), (58, spIn), (56, spPairs)]⟩
theorem specsp1 : SpecsOk Try.prog cxp1.specs := .cons verC_ok (.cons keysRg_ok (.cons keysIn_ok (.consF lkPairs_ok .nil)))
theorem fnsp1 : FnsOk Try.prog cxp1.fns := .cons fnOk_lkPart1 (.cons fnOk_delPair (.cons fnOk_idxPair .nil))
theorem in_has {lo hi k : ByteArray} {bd : Bool} (h : rgE lo hi bd = 0) (hk : keyE k = 0) : (decide (inE lo hi bd k = 0) && hasB lo hi bd k) = hasB lo hi bd k := by
  have : inE lo hi bd k = 0 := by unfold inE; rw [if_neg (by simp [h]), hk]
  simp [this]
/-- An array of which elements are left out, in place: at the beginning what stays of the first ones. -/
structure DelOk (q : pairT.El → Bool) (m cur : List pairT.El) (i j : Nat) : Prop where
  len : cur.length = m.length
  le : i ≤ j
  hd : cur.take i = (m.take j).filter q
  tl : cur.drop j = m.drop j
theorem del_get {q : pairT.El → Bool} {m cur : List pairT.El} {i j : Nat} (h : DelOk q m cur i j) : cur[j]? = m[j]? := by
  have h1 : (cur.drop j)[0]? = (m.drop j)[0]? := by rw [h.tl]
  rw [List.getElem?_drop, List.getElem?_drop] at h1
  simpa using h1
theorem del_keep {q : pairT.El → Bool} {m cur : List pairT.El} {i j : Nat} {x : pairT.El} (h : DelOk q m cur i j) (hj : j < m.length) (hx : cur[j]? = some x) (hq : q x = true) : DelOk q m (cur.set i x) (i + 1) (j + 1) where
  len := by rw [List.length_set]; exact h.len
  le := by have := h.le; omega
  hd := by
    have hi : i < (cur.set i x).length := by rw [List.length_set, h.len]; have := h.le; omega
    rw [List.take_succ_eq_append_getElem hi, List.getElem_set_self, List.take_set_of_le (Nat.le_refl _), h.hd, filter_snoc ((del_get h).symm.trans hx), if_pos hq]
  tl := by
    rw [List.drop_set_of_lt (by have := h.le; omega), ← List.drop_drop, ← List.drop_drop, h.tl]
theorem del_drop {q : pairT.El → Bool} {m cur : List pairT.El} {i j : Nat} {x : pairT.El} (h : DelOk q m cur i j) (hx : cur[j]? = some x) (hq : q x = false) : DelOk q m cur i (j + 1) where
  len := h.len
  le := by have := h.le; omega
  hd := by rw [h.hd, filter_snoc ((del_get h).symm.trans hx), if_neg (by simp [hq]), List.append_nil]
  tl := by rw [← List.drop_drop, ← List.drop_drop, h.tl]
theorem del_start {q : pairT.El → Bool} {m : List pairT.El} {i : Nat} {x : pairT.El} (hall : ∀ p ∈ m.take i, q p = true) (hx : m[i]? = some x) (hq : q x = false) : DelOk q m m i (i + 1) where
  len := rfl
  le := Nat.le_succ _
  hd := by rw [filter_snoc hx, if_neg (by simp [hq]), List.append_nil, List.filter_eq_self.2 hall]
  tl := rfl
theorem take_app {l : List pairT.El} (r : List pairT.El) {i : Nat} (h : i ≤ l.length) : List.take i (List.take i l ++ r) = l.take i := by
  rw [List.take_append_of_le_length (by rw [List.length_take]; omega), List.take_take, Nat.min_self]
set_option maxRecDepth 100000 in
set_option maxHeartbeats 4000000 in
theorem lkPart_ok : SpecOk Try.prog 42 spPart := by
  refine spec_body (C := cxp1) mixed tbOk specsp1 (callN_ok (C := cxp1) mixed tbOk specsp1 fnsp1 5) fnOk_lkPart ?_
  intro ys p r h hp
  unfold spPart at h
  split at h
  · rename_i b rs lo hi bd
    cases h
    by_cases hv : (vcL b rs).2 = 0
    · by_cases hr : rgE lo hi bd = 0
      · have hg := vcL_zero hv
        have hal := all_len hg
        have hml := mapL_len (allE b rs)
        have hk : ∀ p ∈ mapL (allE b rs), (decide (inE lo hi bd p.1 = 0) && hasB lo hi bd p.1) = hasB lo hi bd p.1 := fun p hp => in_has hr (mapL_key hg hp)
        rw [part_g hv hr]
        conv => whnf
        repeat' first
          | ((first | refine auIk ?_ | refine auIi ?_ | refine auT ?_ | refine auF ?_ | with_reducible first | refine auKt ?_ | refine auKf ?_ | refine auNt ?_ | refine auNf ?_ | refine auEt ?_ | refine auEf ?_); conv => whnf)
          | ((with_reducible first | refine br_dec (fun h => ?_) (fun h => ?_) | refine br_ndec (fun h => ?_) (fun h => ?_) | refine br_ne (fun h => ?_) (fun h => ?_) | refine br_eq (fun h => ?_) (fun h => ?_)) <;> first | (exfalso; omega) | conv => whnf)
          | (refine br_intro (fun h => ?_) (fun h => ?_) <;> conv => whnf)
          | ((first | refine auNd ?_ | refine idx_nat (by omega) (fun x hx => ?_) | refine frz_auto ?_ | refine draw_plain ?_ | refine auIx (fun x hx => ?_)); conv => whnf)
        generalize mapL (allE b rs) = m at hml hk ⊢
        have hlm : (FRes.l ⟨56, pairT, m⟩).length = m.length := rfl
        refine loop_inv [] [8] (fun vs h => ∃ i : Nat, vs = [.int .i64 (i : Int)] ∧ h = [.cells 25 [.lst entT b, .lst runT rs], .cells 94 [.str lo, .str hi, .bool bd], .arr 56 pairT [] false 0, .arr 56 pairT m false 0, .arr 56 pairT [] false 0] ∧ i ≤ m.length ∧ ∀ p ∈ m.take i, hasB lo hi bd p.1 = true) (fun vs _ => match vs with | [.int _ k] => m.length - k.toNat | _ => 0) ?_
        conv => whnf
        refine ⟨⟨0, rfl, rfl, by omega, by simp⟩, ?_⟩
        rintro vs h' - ⟨i, rfl, rfl, hi0, hall⟩
        by_cases hil : i < m.length
        · obtain ⟨x, hx⟩ : ∃ x, m[i]? = some x := ⟨_, List.getElem?_eq_getElem hil⟩
          have hkx := hk x (List.mem_of_getElem? hx)
          conv => whnf
          repeat' first
            | ((first | refine auIk ?_ | refine auIi ?_ | refine auT ?_ | refine auF ?_ | with_reducible first | refine auKt ?_ | refine auKf ?_ | refine auNt ?_ | refine auNf ?_ | refine auEt ?_ | refine auEf ?_); conv => whnf)
            | ((with_reducible first | refine br_dec (fun h => ?_) (fun h => ?_) | refine br_ndec (fun h => ?_) (fun h => ?_) | refine br_ne (fun h => ?_) (fun h => ?_) | refine br_eq (fun h => ?_) (fun h => ?_)) <;> first | (exfalso; omega) | conv => whnf)
            | (refine br_intro (fun h => ?_) (fun h => ?_) <;> conv => whnf)
            | ((first | refine auNd ?_ | refine idx_nat (by omega) (fun x hx => ?_) | refine frz_auto ?_ | refine draw_plain ?_ | refine auIx (fun x hx => ?_)); conv => whnf)
          · rename_i h0
            rw [hkx] at h0
            have hq : hasB lo hi bd x.1 = false := by simpa using h0
            refine loop_inv [] [5, 6] (fun vs h => ∃ (i j : Nat) (cur : List pairT.El), vs = [.int .i64 (i : Int), .int .i64 (j : Int)] ∧ h = [.cells 25 [.lst entT b, .lst runT rs], .cells 94 [.str lo, .str hi, .bool bd], .arr 56 pairT [] false 0, .arr 56 pairT cur false 0, .arr 56 pairT [] false 0, .cells 56 [.str x.1, .str x.2.1]] ∧ j ≤ m.length ∧ DelOk (fun p => hasB lo hi bd p.1) m cur i j) (fun vs _ => match vs with | [_, .int _ k] => m.length - k.toNat | _ => 0) ?_
            conv => whnf
            refine ⟨⟨i, i + 1, m, rfl, rfl, by omega, del_start hall hx hq⟩, ?_⟩
            clear hi0 hall hx hkx
            rintro vs h' - ⟨i, j, cur, rfl, rfl, hj, hd⟩
            have hij := hd.le
            have hcl := hd.len
            by_cases hjl : j < m.length
            · obtain ⟨y, hy⟩ : ∃ y, cur[j]? = some y := ⟨_, List.getElem?_eq_getElem (by omega)⟩
              have hky := hk y (List.mem_of_getElem? ((del_get hd).symm.trans hy))
              conv => whnf
              repeat' first
                | ((first | refine auIk ?_ | refine auIi ?_ | refine auT ?_ | refine auF ?_ | with_reducible first | refine auKt ?_ | refine auKf ?_ | refine auNt ?_ | refine auNf ?_ | refine auEt ?_ | refine auEf ?_); conv => whnf)
                | ((with_reducible first | refine br_dec (fun h => ?_) (fun h => ?_) | refine br_ndec (fun h => ?_) (fun h => ?_) | refine br_ne (fun h => ?_) (fun h => ?_) | refine br_eq (fun h => ?_) (fun h => ?_)) <;> first | (exfalso; omega) | conv => whnf)
                | (refine br_intro (fun h => ?_) (fun h => ?_) <;> conv => whnf)
                | ((first | refine auNd ?_ | refine idx_nat (by omega) (fun x hx => ?_) | refine frz_auto ?_ | refine draw_plain ?_ | refine auIx (fun x hx => ?_)); conv => whnf)
              · rw [hky] at h
                have hq : hasB lo hi bd y.1 = true := by simpa using h
                refine back_intro (by conv => whnf) rfl ⟨i + 1, j + 1, cur.set i y, rfl, rfl, by omega, del_keep hd hjl hy hq⟩ ?_
                show m.length - ((j : Int) + 1).toNat < m.length - (j : Int).toNat
                omega
              · rw [hky] at h
                have hq : hasB lo hi bd y.1 = false := by simpa using h
                refine back_intro (by conv => whnf) rfl ⟨i, j + 1, cur, rfl, rfl, by omega, del_drop hd hy hq⟩ ?_
                show m.length - ((j : Int) + 1).toNat < m.length - (j : Int).toNat
                omega
            · conv => whnf
              repeat' first
                | ((first | refine auIk ?_ | refine auIi ?_ | refine auT ?_ | refine auF ?_ | with_reducible first | refine auKt ?_ | refine auKf ?_ | refine auNt ?_ | refine auNf ?_ | refine auEt ?_ | refine auEf ?_); conv => whnf)
                | ((with_reducible first | refine br_dec (fun h => ?_) (fun h => ?_) | refine br_ndec (fun h => ?_) (fun h => ?_) | refine br_ne (fun h => ?_) (fun h => ?_) | refine br_eq (fun h => ?_) (fun h => ?_)) <;> first | (exfalso; omega) | conv => whnf)
                | (refine br_intro (fun h => ?_) (fun h => ?_) <;> conv => whnf)
                | ((first | refine auNd ?_ | refine idx_nat (by omega) (fun x hx => ?_) | refine frz_auto ?_ | refine draw_plain ?_ | refine auIx (fun x hx => ?_)); conv => whnf)
              refine part_eq ?_
              have hh := hd.hd
              rw [List.take_of_length_le (l := m) (i := j) (by omega)] at hh
              rw [← hh]
              refine congrArg (fun l => (l, (0 : Int))) ?_
              exact (take_app _ (by omega)).symm
          · rw [hkx] at h
            have hq : hasB lo hi bd x.1 = true := by simpa using h
            refine back_intro (by conv => whnf) rfl ⟨i + 1, rfl, rfl, by omega, take_succ_all hall hx hq⟩ ?_
            show m.length - ((i : Int) + 1).toNat < m.length - (i : Int).toNat
            omega
        · conv => whnf
          repeat' first
            | ((first | refine auIk ?_ | refine auIi ?_ | refine auT ?_ | refine auF ?_ | with_reducible first | refine auKt ?_ | refine auKf ?_ | refine auNt ?_ | refine auNf ?_ | refine auEt ?_ | refine auEf ?_); conv => whnf)
            | ((with_reducible first | refine br_dec (fun h => ?_) (fun h => ?_) | refine br_ndec (fun h => ?_) (fun h => ?_) | refine br_ne (fun h => ?_) (fun h => ?_) | refine br_eq (fun h => ?_) (fun h => ?_)) <;> first | (exfalso; omega) | conv => whnf)
            | (refine br_intro (fun h => ?_) (fun h => ?_) <;> conv => whnf)
            | ((first | refine auNd ?_ | refine idx_nat (by omega) (fun x hx => ?_) | refine frz_auto ?_ | refine draw_plain ?_ | refine auIx (fun x hx => ?_)); conv => whnf)
          rw [List.take_of_length_le (by omega)] at hall
          rw [List.take_of_length_le (by omega), List.filter_eq_self.2 hall]
      · conv => whnf
        repeat' first
          | ((first | refine auIk ?_ | refine auIi ?_ | refine auT ?_ | refine auF ?_ | with_reducible first | refine auKt ?_ | refine auKf ?_ | refine auNt ?_ | refine auNf ?_ | refine auEt ?_ | refine auEf ?_); conv => whnf)
          | ((with_reducible first | refine br_dec (fun h => ?_) (fun h => ?_) | refine br_ndec (fun h => ?_) (fun h => ?_) | refine br_ne (fun h => ?_) (fun h => ?_) | refine br_eq (fun h => ?_) (fun h => ?_)) <;> first | (exfalso; omega) | conv => whnf)
          | (refine br_intro (fun h => ?_) (fun h => ?_) <;> conv => whnf)
          | ((first | refine auNd ?_ | refine idx_nat (by omega) (fun x hx => ?_) | refine frz_auto ?_ | refine draw_plain ?_ | refine auIx (fun x hx => ?_)); conv => whnf)
        rw [part_r hv hr]
        rfl
    · conv => whnf
      repeat' first
        | ((first | refine auIk ?_ | refine auIi ?_ | refine auT ?_ | refine auF ?_ | with_reducible first | refine auKt ?_ | refine auKf ?_ | refine auNt ?_ | refine auNf ?_ | refine auEt ?_ | refine auEf ?_); conv => whnf)
        | ((with_reducible first | refine br_dec (fun h => ?_) (fun h => ?_) | refine br_ndec (fun h => ?_) (fun h => ?_) | refine br_ne (fun h => ?_) (fun h => ?_) | refine br_eq (fun h => ?_) (fun h => ?_)) <;> first | (exfalso; omega) | conv => whnf)
        | (refine br_intro (fun h => ?_) (fun h => ?_) <;> conv => whnf)
        | ((first | refine auNd ?_ | refine idx_nat (by omega) (fun x hx => ?_) | refine frz_auto ?_ | refine draw_plain ?_ | refine auIx (fun x hx => ?_)); conv => whnf)
      rw [part_v hv]
      rfl
  · cases h
end Go.Proofs.Ytdbnohpolknbbaa
