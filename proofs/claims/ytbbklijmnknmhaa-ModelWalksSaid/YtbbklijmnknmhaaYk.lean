/-
  Whether models are awake.
  Differences by key; equal lists: plain Lean.
  Writes that are more than is looked at; the laws of maps, of finds, of differences.
  The law of changes.
-/
import Derived.Test.YtbbklijmnknmhaaBx1
import Derived.Test.YtbbklijmnknmhaaYd
import Derived.Test.YtbbklijmnknmhaaYa
import Derived.Test.YtbbklijmnknmhaaUe
namespace Go.Proofs.Ytbbklijmnknmhaa
open Av Bk

abbrev cuT : Ty := .st [.sl pairT, .int .i64]
abbrev B5 : Hp := [.oth (.bxs 22 (.sl pairT) []), .oth (.bxs 109 cuT [])]
theorem B5_no : NoBx B5 := by
 intro o ho
 rcases List.mem_cons.1 ho with rfl | ho
 ·exact ⟨_, _, .inl rfl⟩
 ·rcases List.mem_cons.1 ho with rfl | ho
  ·exact ⟨_, _, .inl rfl⟩
  ·cases ho
set_option maxRecDepth 100000 in
theorem fnOk_ex5 : FnOk Try.prog 49 Try.f49 := ⟨by rfl, by kernel_rfl, by
 show okCode _ _ = true ∧ drawsOk _ = true
 exact ⟨by kernel_rfl, by kernel_rfl⟩⟩
set_option maxRecDepth 100000 in
theorem fnOk_mNew : FnOk Try.prog 33 Try.f33 := ⟨by rfl, by kernel_rfl, by
 show okCode _ _ = true ∧ drawsOk _ = true
 exact ⟨by kernel_rfl, by kernel_rfl⟩⟩
set_option maxRecDepth 100000 in
theorem fnOk_xNone : FnOk Try.prog 71 Try.f71 := ⟨by rfl, by kernel_rfl, by
 show okCode _ _ = true ∧ drawsOk _ = true
 exact ⟨by kernel_rfl, by kernel_rfl⟩⟩
set_option maxRecDepth 100000 in
theorem fnOk_xPin : FnOk Try.prog 47 Try.f47 := ⟨by rfl, by kernel_rfl, by
 show okCode _ _ = true ∧ drawsOk _ = true
 exact ⟨by kernel_rfl, by kernel_rfl⟩⟩
set_option maxRecDepth 100000 in
theorem fnOk_xUnpin : FnOk Try.prog 48 Try.f48 := ⟨by rfl, by kernel_rfl, by
 show okCode _ _ = true ∧ drawsOk _ = true
 exact ⟨by kernel_rfl, by kernel_rfl⟩⟩
set_option maxRecDepth 100000 in
theorem fnOk_xMap : FnOk Try.prog 40 Try.f40 := ⟨by rfl, by kernel_rfl, by
 show okCode _ _ = true ∧ drawsOk _ = true
 exact ⟨by kernel_rfl, by kernel_rfl⟩⟩
set_option maxRecDepth 100000 in
theorem fnOk_xVer : FnOk Try.prog 75 Try.f75 := ⟨by rfl, by kernel_rfl, by
 show okCode _ _ = true ∧ drawsOk _ = true
 exact ⟨by kernel_rfl, by kernel_rfl⟩⟩
set_option maxRecDepth 100000 in
theorem fnOk_tpGive : FnOk Try.prog 84 Try.f84 := ⟨by rfl, by kernel_rfl, by
 show okCode _ _ = true ∧ drawsOk _ = true
 exact ⟨by kernel_rfl, by kernel_rfl⟩⟩
set_option maxRecDepth 100000 in
theorem fnOk_tpGive1 : FnOk Try.prog 101 Try.f101 := ⟨by rfl, by kernel_rfl, by
 show okCode _ _ = true ∧ drawsOk _ = true
 exact ⟨by kernel_rfl, by kernel_rfl⟩⟩
set_option maxRecDepth 100000 in
theorem fnOk_tpDrop : FnOk Try.prog 85 Try.f85 := ⟨by rfl, by kernel_rfl, by
 show okCode _ _ = true ∧ drawsOk _ = true
 exact ⟨by kernel_rfl, by kernel_rfl⟩⟩
set_option maxRecDepth 100000 in
theorem fnOk_tpLook : FnOk Try.prog 95 Try.f95 := ⟨by rfl, by kernel_rfl, by
 show okCode _ _ = true ∧ drawsOk _ = true
 exact ⟨by kernel_rfl, by kernel_rfl⟩⟩
set_option maxRecDepth 100000 in
theorem fnOk_tpIdx : FnOk Try.prog 100 Try.f100 := ⟨by rfl, by kernel_rfl, by
 show okCode _ _ = true ∧ drawsOk _ = true
 exact ⟨by kernel_rfl, by kernel_rfl⟩⟩
noncomputable def cxyi : Cx := ⟨tb, [(49, Try.f49), (33, Try.f33), (71, Try.f71), (47, Try.f47), (48, Try.f48), (40, Try.f40), (75, Try.f75), (84, Try.f84), (101, Try.f101), (85, Try.f85), (95, Try.f95), (100, Try.f100)], [(26, .d spFl5), (28, .d spCe5), (16, .d spWr), (19, .d spDiff), (18, .d spSameP), (21, .d spSameI), (51, .f spClP)]⟩
theorem specsyi : SpecsOk Try.prog cxyi.specs := .cons mFloor_ok (.cons mCeil_ok (.cons mWrite_ok (.cons mDiff_ok (.cons same05_ok (.cons sameIt_ok (.consF cloneP_ok .nil))))))
theorem fnsyi : FnsOk Try.prog cxyi.fns := .cons fnOk_ex5 (.cons fnOk_mNew (.cons fnOk_xNone (.cons fnOk_xPin (.cons fnOk_xUnpin (.cons fnOk_xMap (.cons fnOk_xVer (.cons fnOk_tpGive (.cons fnOk_tpGive1 (.cons fnOk_tpDrop (.cons fnOk_tpLook (.cons fnOk_tpIdx .nil)))))))))))
def spAw5 : DSpec
 | [] => some (True, .bool true)
 | _ => none
set_option maxRecDepth 100000 in
theorem fnOk_awake5 : FnOk Try.prog 13 Try.f13 := ⟨by rfl, by kernel_rfl, by
 show okCode _ _ = true ∧ drawsOk _ = true
 exact ⟨by kernel_rfl, by kernel_rfl⟩⟩
set_option maxRecDepth 100000 in
set_option maxHeartbeats 8000000 in
theorem awake5_ok : SpecOk Try.prog 13 spAw5 := by
 refine spec_bodyB (C := cxyi) mixed tbOk specsyi (callN_ok (C := cxyi) mixed tbOk specsyi fnsyi 6) fnOk_awake5 B5_no ?_
 intro ys p r h hp
 unfold spAw5 at h
 split at h
 ·cases h
  conv => whnf
  repeat' first | (refine br_true (by first | with_reducible exact rfl | decide | rfl) ?_; conv => whnf) | (refine br_false (by first | with_reducible exact rfl | decide | rfl) ?_; conv => whnf) | (refine need_in (by first | exact trivial | exact ⟨rfl, Nat.le_refl _⟩ | exact ⟨rfl, Nat.le_of_ble_eq_true rfl⟩ | exact ⟨rfl, Nat.le_of_ble_eq_true rfl, Nat.le_of_ble_eq_true rfl, Nat.le_of_ble_eq_true rfl⟩ | decide | (simp only [inR]; omega) | omega) ?_; conv => whnf) | (refine frz_auto ?_; conv => whnf) | (refine draw_plain ?_; conv => whnf) | (refine idx_cl ?_; (conv => whnf); refine ⟨by first | decide | (refine ⟨?_, ?_⟩ <;> simp) | (refine ⟨?_, ?_⟩ <;> (simp; omega)), ?_⟩; conv => whnf) | (refine bx_intro (fun b hb => ?_); conv => whnf) | (refine loop_turns 3 ?_; conv => whnf) | fail
  rfl
 ·cases h
end Go.Proofs.Ytbbklijmnknmhaa
namespace Go.Proofs.Ytbbklijmnknmhaa
open Av Bk

theorem eqP_refl (x : pairT.El) : eqT pairT x x = true := by
 show (sEq x.1 x.1 && sEq x.2.1 x.2.1) = true
 rw [sEq_refl, sEq_refl]
 rfl
theorem sameP_refl : ∀ l : List pairT.El, sameL pairT l l = true
 | [] => rfl
 | x :: l => by
  rw [sameL, sameP_refl l, eqP_refl]
  rfl
/-! ### Lists that ascend -/
abbrev atK (l : List itemT.El) (k : ByteArray) : List itemT.El := l.filter (fun x => sEq x.2.1 k)
/-! ### Differences by key -/
theorem prE_zero {p : pairT.El} (h1 : (p.1.size : Int) ≤ 32) (h2 : (p.2.1.size : Int) ≤ 64) : prE p = 0 := by
 unfold prE
 exact if_neg (by omega)
theorem mcL_good {l : List pairT.El} (hl : l.length ≤ 4000) (h : ∀ p ∈ l, prE p = 0) (ha : ascP l) : mcL l = (0, 0) := by
 unfold mcL
 rw [if_neg (by omega)]
 exact ckGo_good h ha (fun x _ => rfl)
theorem find_at {l : List itemT.El} {k : ByteArray} : l.find? (fun x => sEq x.2.1 k) = (atK l k).head? := by
 rw [List.head?_filter]
end Go.Proofs.Ytbbklijmnknmhaa
namespace Go.Proofs.Ytbbklijmnknmhaa
open Av Bk

def bigW (x : wrT.El) : Bool := decide (200 < (x.1.size : Int)) || decide (200 < (x.2.1.size : Int))
def wideW (l : List wrT.El) : Bool := if 12 < (l.length : Int) then true else l.any bigW
def spWd5 : DSpec
 | [.lst (.st [.str, .str, .bool]) l] => some (True, .bool (wideW l))
 | _ => none
set_option maxRecDepth 100000 in
theorem fnOk_wide5 : FnOk Try.prog 12 Try.f12 := ⟨by rfl, by kernel_rfl, by
 show okCode _ _ = true ∧ drawsOk _ = true
 exact ⟨by kernel_rfl, by kernel_rfl⟩⟩
set_option maxRecDepth 100000 in
set_option maxHeartbeats 4000000 in
theorem wide5_ok : SpecOk Try.prog 12 spWd5 := by
  refine spec_body (C := cx0) mixed tbOk SpecsOk.nil (callN_ok (C := cx0) mixed tbOk SpecsOk.nil FnsOk.nil 0) fnOk_wide5 ?_
  intro ys p r h hp
  unfold spWd5 at h
  split at h
  · rename_i l
    cases h
    by_cases ho : 12 < (l.length : Int)
    · have hF : wideW l = true := by unfold wideW; rw [if_pos ho]
      conv => whnf
      repeat' first | ((first | refine auIk ?_ | refine auIi ?_ | refine auT ?_ | refine auF ?_ | with_reducible first | refine auKt ?_ | refine auKf ?_ | refine auNt ?_ | refine auNf ?_ | refine auEt ?_ | refine auEf ?_); conv => whnf) | ((with_reducible first | refine br_dec ?_ ?_ | refine br_ndec ?_ ?_ | refine br_ne ?_ ?_ | refine br_eq ?_ ?_) <;> intro h <;> first | (exfalso; omega) | conv => whnf) | (refine br_intro ?_ ?_ <;> intro h <;> conv => whnf) | ((first | refine auNd ?_ | refine idx_nat (by omega) (fun x hx => ?_) | refine frz_auto ?_ | refine draw_plain ?_ | refine auIx (fun x hx => ?_)); conv => whnf)
      all_goals first | (rw [hF]; done) | (exfalso; omega) | skip
    · have hF : wideW l = l.any bigW := by unfold wideW; rw [if_neg ho]
      conv => whnf
      repeat' first | ((first | refine auIk ?_ | refine auIi ?_ | refine auT ?_ | refine auF ?_ | with_reducible first | refine auKt ?_ | refine auKf ?_ | refine auNt ?_ | refine auNf ?_ | refine auEt ?_ | refine auEf ?_); conv => whnf) | ((with_reducible first | refine br_dec ?_ ?_ | refine br_ndec ?_ ?_ | refine br_ne ?_ ?_ | refine br_eq ?_ ?_) <;> intro h <;> first | (exfalso; omega) | conv => whnf) | (refine br_intro ?_ ?_ <;> intro h <;> conv => whnf) | ((first | refine auNd ?_ | refine idx_nat (by omega) (fun x hx => ?_) | refine frz_auto ?_ | refine draw_plain ?_ | refine auIx (fun x hx => ?_)); conv => whnf)
      refine loop_inv [] [3] (fun vs h => ∃ i : Nat, vs = [.int .i64 (i : Int)] ∧ h = [] ∧ i ≤ l.length ∧ ∀ y ∈ l.take i, bigW y = false) (fun vs _ => match vs with | [.int _ k] => l.length - k.toNat | _ => 0) ?_
      conv => whnf
      refine ⟨⟨0, rfl, rfl, by omega, by simp⟩, ?_⟩
      rintro vs h' - ⟨i, rfl, rfl, hi, hall⟩
      by_cases hil : i < l.length
      · obtain ⟨x, hx⟩ : ∃ x, l[i]? = some x := ⟨_, List.getElem?_eq_getElem hil⟩
        conv => whnf
        repeat' first | ((first | refine auIk ?_ | refine auIi ?_ | refine auT ?_ | refine auF ?_ | with_reducible first | refine auKt ?_ | refine auKf ?_ | refine auNt ?_ | refine auNf ?_ | refine auEt ?_ | refine auEf ?_); conv => whnf) | ((with_reducible first | refine br_dec ?_ ?_ | refine br_ndec ?_ ?_ | refine br_ne ?_ ?_ | refine br_eq ?_ ?_) <;> intro h <;> first | (exfalso; omega) | conv => whnf) | (refine br_intro ?_ ?_ <;> intro h <;> conv => whnf) | ((first | refine auNd ?_ | refine idx_nat (by omega) (fun x hx => ?_) | refine frz_auto ?_ | refine draw_plain ?_ | refine auIx (fun x hx => ?_)); conv => whnf)
        all_goals first
          | (rw [hF, any_at hx (by clear hF hall; simp [bigW, *])]; done)
          | (refine back_intro (by conv => whnf) rfl ⟨i + 1, rfl, rfl, by omega, take_succ_all hall hx (by clear hF hall; simp [bigW]; omega)⟩ ?_
             show l.length - ((i : Int) + 1).toNat < l.length - (i : Int).toNat
             omega)
      · conv => whnf
        repeat' first | ((first | refine auIk ?_ | refine auIi ?_ | refine auT ?_ | refine auF ?_ | with_reducible first | refine auKt ?_ | refine auKf ?_ | refine auNt ?_ | refine auNf ?_ | refine auEt ?_ | refine auEf ?_); conv => whnf) | ((with_reducible first | refine br_dec ?_ ?_ | refine br_ndec ?_ ?_ | refine br_ne ?_ ?_ | refine br_eq ?_ ?_) <;> intro h <;> first | (exfalso; omega) | conv => whnf) | (refine br_intro ?_ ?_ <;> intro h <;> conv => whnf) | ((first | refine auNd ?_ | refine idx_nat (by omega) (fun x hx => ?_) | refine frz_auto ?_ | refine draw_plain ?_ | refine auIx (fun x hx => ?_)); conv => whnf)
        rw [hF, any_end hall (by omega)]
  · cases h
theorem wideW_len {l : List wrT.El} (h : wideW l = false) : l.length ≤ 12 := by
 unfold wideW at h
 split at h
 ·cases h
 ·omega
theorem wrR_len {m : List pairT.El} {l : List wrT.El} : (wrR m l).1.length ≤ 4000 := by
 unfold wrR
 split
 ·simp
 ·split
  ·simp
  ·split
   ·simp
   ·simp only; omega
set_option maxRecDepth 100000 in
theorem fnOk_xOpen : FnOk Try.prog 41 Try.f41 := ⟨by rfl, by kernel_rfl, by
 show okCode _ _ = true ∧ drawsOk _ = true
 exact ⟨by kernel_rfl, by kernel_rfl⟩⟩
set_option maxRecDepth 100000 in
theorem fnOk_xNext : FnOk Try.prog 44 Try.f44 := ⟨by rfl, by kernel_rfl, by
 show okCode _ _ = true ∧ drawsOk _ = true
 exact ⟨by kernel_rfl, by kernel_rfl⟩⟩
set_option maxRecDepth 100000 in
theorem fnOk_xNext1 : FnOk Try.prog 79 Try.f79 := ⟨by rfl, by kernel_rfl, by
 show okCode _ _ = true ∧ drawsOk _ = true
 exact ⟨by kernel_rfl, by kernel_rfl⟩⟩
set_option maxRecDepth 100000 in
theorem fnOk_xPrev : FnOk Try.prog 45 Try.f45 := ⟨by rfl, by kernel_rfl, by
 show okCode _ _ = true ∧ drawsOk _ = true
 exact ⟨by kernel_rfl, by kernel_rfl⟩⟩
set_option maxRecDepth 100000 in
theorem fnOk_xPrev1 : FnOk Try.prog 81 Try.f81 := ⟨by rfl, by kernel_rfl, by
 show okCode _ _ = true ∧ drawsOk _ = true
 exact ⟨by kernel_rfl, by kernel_rfl⟩⟩
set_option maxRecDepth 100000 in
theorem fnOk_xMove : FnOk Try.prog 78 Try.f78 := ⟨by rfl, by kernel_rfl, by
 show okCode _ _ = true ∧ drawsOk _ = true
 exact ⟨by kernel_rfl, by kernel_rfl⟩⟩
set_option maxRecDepth 100000 in
theorem fnOk_xShut : FnOk Try.prog 46 Try.f46 := ⟨by rfl, by kernel_rfl, by
 show okCode _ _ = true ∧ drawsOk _ = true
 exact ⟨by kernel_rfl, by kernel_rfl⟩⟩
set_option maxRecDepth 100000 in
theorem fnOk_xLive : FnOk Try.prog 36 Try.f36 := ⟨by rfl, by kernel_rfl, by
 show okCode _ _ = true ∧ drawsOk _ = true
 exact ⟨by kernel_rfl, by kernel_rfl⟩⟩
set_option maxRecDepth 100000 in
theorem fnOk_xWrite : FnOk Try.prog 43 Try.f43 := ⟨by rfl, by kernel_rfl, by
 show okCode _ _ = true ∧ drawsOk _ = true
 exact ⟨by kernel_rfl, by kernel_rfl⟩⟩
end Go.Proofs.Ytbbklijmnknmhaa
namespace Go.Proofs.Ytbbklijmnknmhaa
open Av Bk

theorem wE1_sz {w : wrT.El} (h : wE1 w = 0) : (w.1.size : Int) ≤ 32 ∧ (w.2.1.size : Int) ≤ 64 := by
 by_cases h1 : 32 < (w.1.size : Int) ∨ 64 < (w.2.1.size : Int)
 ·rw [wE1_len h1] at h
  exact absurd h (by decide)
 ·omega
theorem wrR_ok {m : List pairT.El} {l : List wrT.El} (h : (wrR m l).2 = 0) : (mcL m).2 = 0 ∧ (∀ y ∈ l, wE1 y = 0) ∧ wrR m l = (l.foldl wr1 m, 0) := by
 unfold wrR at h ⊢
 by_cases h1 : (mcL m).2 = 0
 ·rw [if_neg (by simpa using h1)] at h ⊢
  by_cases h2 : wEL l = 0
  ·rw [if_neg (by simpa using h2)] at h ⊢
   split at h
   ·exact absurd h (by decide)
   ·rename_i h3
    rw [if_neg h3]
    refine ⟨h1, ?_, rfl⟩
    unfold wEL at h2
    split at h2
    ·exact absurd h2 (by decide)
    ·split at h2
     ·exact absurd h2 (by decide)
     ·exact wEs_zero h2
  ·rw [if_pos h2] at h
   exact absurd h h2
 ·rw [if_pos h1] at h
  exact absurd h h1
end Go.Proofs.Ytbbklijmnknmhaa
