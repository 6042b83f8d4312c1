/-
  The law of walks.
  From a law's contract to its row: every argument reads behind the call as it read before.
-/
import Derived.Test.YtbbklijmnknmhaaYz
import Derived.Test.YtbbklijmnknmhaaRows
import Derived.Test.YtbbklijmnknmhaaUe
import Derived.Test.YtbbklijmnknmhaaE5
import Derived.ProofKit
namespace Go.Proofs.Ytbbklijmnknmhaa
open Av Bk

def CurAt (q : PM) (j : Nat) (g : Int) (m : List pairT.El) (a : Int) : Prop := q.curs[j]? = some (g, some (m, a))
theorem cur_look {q : PM} {j : Nat} {g : Int} {m : List pairT.El} {a : Int} (h : CurAt q j g m a) (hg : 1 ≤ g) {c : Int} (hc : c = (j : Int) + 1) : lookE q.curs c g = 0 ∧ q.curV c = (m, a) ∧ (c - 1).toNat = j := by
 have hj := (List.getElem?_eq_some_iff.1 h).1
 have e : (c - 1).toNat = j := by omega
 have h' : q.curs[(c - 1).toNat]? = some (g, some (m, a)) := by rw [e]; exact h
 refine ⟨?_, ?_, e⟩
 ·rw [lookE_at (by omega) (by omega) h', if_neg (by omega), if_neg]
  rintro (h | h)
  ·omega
  ·cases h
 ·unfold PM.curV
  rw [lookV_at h']
  rfl
theorem cur_set {q : PM} {j : Nat} {g : Int} {m : List pairT.El} {a b : Int} (h : CurAt q j g m a) : CurAt { q with curs := q.curs.set j (g, some (m, b)) } j g m b := by
 have hj := (List.getElem?_eq_some_iff.1 h).1
 show (q.curs.set j _)[j]? = _
 rw [List.getElem?_set, if_pos rfl, if_pos hj]
theorem cur_next {q : PM} {j : Nat} {g : Int} {m : List pairT.El} {a : Int} (h : CurAt q j g m a) (hg : 1 ≤ g) {c : Int} (hc : c = (j : Int) + 1) {y : pairT.El} (hy : m[a.toNat]? = some y) (ha : a < (m.length : Int)) : q.nextE c g = 0 ∧ q.nextP c g = y ∧ CurAt (q.nextN c g) j g m (a + 1) := by
 obtain ⟨h1, h2, h3⟩ := cur_look h hg hc
 have e : q.nextE c g = 0 := by unfold PM.nextE; rw [if_neg (by simpa using h1), h2, if_neg (by show ¬ a = (m.length : Int); omega)]
 refine ⟨e, ?_, ?_⟩
 ·unfold PM.nextP
  rw [if_pos e, h2]
  show (m[a.toNat]?).getD noP = y
  rw [hy]
  rfl
 ·unfold PM.nextN
  rw [if_pos e, h2, h3]
  exact cur_set h
theorem cur_end {q : PM} {j : Nat} {g : Int} {m : List pairT.El} {a : Int} (h : CurAt q j g m a) (hg : 1 ≤ g) {c : Int} (hc : c = (j : Int) + 1) (ha : a = (m.length : Int)) : q.nextE c g = 12 ∧ q.nextN c g = q := by
 obtain ⟨h1, h2, h3⟩ := cur_look h hg hc
 have e : q.nextE c g = 12 := by unfold PM.nextE; rw [if_neg (by simpa using h1), h2, if_pos ha]
 refine ⟨e, ?_⟩
 unfold PM.nextN
 rw [e, if_neg (by decide)]
theorem cur_prev {q : PM} {j : Nat} {g : Int} {m : List pairT.El} {a : Int} (h : CurAt q j g m a) (hg : 1 ≤ g) {c : Int} (hc : c = (j : Int) + 1) {y : pairT.El} (hy : m[(a - 1).toNat]? = some y) (ha : a ≠ 0) : q.prevE c g = 0 ∧ q.prevP c g = y ∧ CurAt (q.prevN c g) j g m (a - 1) := by
 obtain ⟨h1, h2, h3⟩ := cur_look h hg hc
 have e : q.prevE c g = 0 := by unfold PM.prevE; rw [if_neg (by simpa using h1), h2, if_neg ha]
 refine ⟨e, ?_, ?_⟩
 ·unfold PM.prevP
  rw [if_pos e, h2]
  show (m[(a - 1).toNat]?).getD noP = y
  rw [hy]
  rfl
 ·unfold PM.prevN
  rw [if_pos e, h2, h3]
  exact cur_set h
theorem cur_start {q : PM} {j : Nat} {g : Int} {m : List pairT.El} {a : Int} (h : CurAt q j g m a) (hg : 1 ≤ g) {c : Int} (hc : c = (j : Int) + 1) (ha : a = 0) : q.prevE c g = 12 ∧ q.prevN c g = q := by
 obtain ⟨h1, h2, h3⟩ := cur_look h hg hc
 have e : q.prevE c g = 12 := by unfold PM.prevE; rw [if_neg (by simpa using h1), h2, if_pos ha]
 refine ⟨e, ?_⟩
 unfold PM.prevN
 rw [e, if_neg (by decide)]
theorem cur_write {q : PM} {j : Nat} {g : Int} {m : List pairT.El} {a : Int} (h : CurAt q j g m a) (ws : List wrT.El) : CurAt (q.writeN ws) j g m a := by
 unfold PM.writeN
 split <;> exact h
theorem cur_shut {q : PM} {j : Nat} {g : Int} {m : List pairT.El} {a : Int} (h : CurAt q j g m a) (hg : 1 ≤ g) {c : Int} (hc : c = (j : Int) + 1) : lookE (q.shutN c g).curs c g = 11 := by
 obtain ⟨h1, h2, h3⟩ := cur_look h hg hc
 have hj := (List.getElem?_eq_some_iff.1 h).1
 have e : (q.shutN c g).curs = q.curs.set j (g, none) := by
  show dropL _ _ _ = _
  unfold dropL
  rw [if_pos h1, h3]
 rw [e]
 have hq : (q.curs.set j (g, none))[(c - 1).toNat]? = some (g, none) := by rw [h3, List.getElem?_set, if_pos rfl, if_pos hj]
 rw [lookE_at (by omega) (by rw [List.length_set]; omega) hq, if_neg (by omega), if_pos (.inr rfl)]
theorem give_at {β : Type} {l : List (Int × Option β)} (hl : ∀ q ∈ l, 0 ≤ q.1) (x : β) (h : (giveH l).2 = 0) : ∃ (j : Nat) (g : Int), (giveH l).1 = ((j : Int) + 1, g) ∧ 1 ≤ g ∧ (giveL l x)[j]? = some (g, some x) := by
 by_cases hf : freeI l < l.length
 ·obtain ⟨g, hg⟩ := freeI_at hf
  obtain ⟨e1, e2⟩ := give_set hg x
  have := hl _ (List.mem_of_getElem? hg)
  have : 0 ≤ g := this
  refine ⟨freeI l, g + 1, by rw [e2], by omega, ?_⟩
  rw [e1, List.getElem?_set, if_pos rfl, if_pos hf]
 ·have hle := freeI_le l
  by_cases h16 : l.length = 16
  ·rw [(give_full (by omega) h16 x).2] at h
   exact absurd h (by decide)
  ·obtain ⟨e1, e2⟩ := give_new (by omega) h16 x
   refine ⟨l.length, 1, by rw [e2], by omega, ?_⟩
   rw [e1, List.getElem?_append_right (Nat.le_refl _), Nat.sub_self]
   rfl
theorem live_full {β : Type} : ∀ {l : List (Int × Option β)} {n : Nat}, freeI l = l.length → (liveGo n l).length = l.length
 | [], n, _ => rfl
 | q :: l, n, h => by
  simp only [freeI] at h
  by_cases e : q.2.isNone = true
  ·rw [if_pos e] at h
   simp at h
  ·rw [if_neg e] at h
   simp only [liveGo]
   rw [if_neg e, List.length_cons, List.length_cons, live_full (n := n + 1) (by simpa using h)]
theorem give_err {β : Type} {l : List (Int × Option β)} (x : β) (h : (giveH l).2 ≠ 0) : (giveH l).2 = 5 ∧ (liveGo 0 l).length = 16 := by
 by_cases hf : freeI l < l.length
 ·obtain ⟨g, hg⟩ := freeI_at hf
  rw [(give_set hg x).2] at h
  exact absurd rfl h
 ·have hle := freeI_le l
  by_cases h16 : l.length = 16
  ·rw [(give_full (by omega) h16 x).2, live_full (by omega)]
   exact ⟨rfl, h16⟩
  ·rw [(give_new (by omega) h16 x).2] at h
   exact absurd rfl h
set_option maxRecDepth 100000 in
theorem fnOk_lWk : FnOk Try.prog 9 Try.f9 := ⟨by rfl, by kernel_rfl, by
 show okCode _ _ = true ∧ drawsOk _ = true
 exact ⟨by kernel_rfl, by kernel_rfl⟩⟩
noncomputable def lWk_C : Cx := ⟨tb, [], [(13, .d spAw5), (32, .d spMany), (12, .d spWd5), (31, .d spPt5), (42, .d spRg)]⟩
theorem lWk_D : SpecsOk Try.prog lWk_C.specs := .cons awake5_ok (.cons manyC_ok (.cons wide5_ok (.cons rPart7_ok (.cons ref02Rg_ok .nil))))
theorem lWk_F : FnsOk Try.prog lWk_C.fns := FnsOk.nil
def lWk_L : List (FuncId × LocA) := [(39, builtA), (36, xLiveA), (40, xMapA), (41, xOpenA), (43, xWriteA), (44, xNextA), (45, xPrevA), (46, xShutA)]
theorem lWk_Lk : LocsOk Try.prog lWk_L := .cons built_ok (.cons xLive_ok (.cons xMap_ok (.cons xOpen_ok (.cons xWrite_ok (.cons xNext_ok (.cons xPrev_ok (.cons xShut_ok .nil)))))))
abbrev lWk_T : List Ty := [.sl clT, rgT, .sl wrT]
abbrev lWk_FN := fnOk_lWk
set_option maxRecDepth 100000 in
set_option maxHeartbeats 4000000 in
theorem lWk : ∀ es : Ty.Els lWk_T, tyOks lWk_T es → bodyA lWk_C (callM lWk_C lWk_L 2) Try.f9 (avTs lWk_T es) B5 (fun v _ => v = .bool true) := by
 rintro ⟨l, ⟨lo, hi, bd, _⟩, w, _⟩ -
 show bodyA _ _ _ [.lst clT l, .agg [.str lo, .str hi, .bool bd], .lst wrT w] B5 _
 cases hF : manyL l with
 | true =>
  conv => whnf
  repeat' first | ((first | refine auTq ?_ | refine auFq ?_ | refine auIk ?_ | refine auIi ?_ | refine auT ?_ | refine auF ?_ | with_reducible first | refine auKt ?_ | refine auKf ?_ | refine auNt ?_ | refine auNf ?_ | refine auEt ?_ | refine auEf ?_); conv => whnf) | ((with_reducible first | refine br_dec ?_ ?_ | refine br_ndec ?_ ?_ | refine br_ne ?_ ?_ | refine br_eq ?_ ?_) <;> intro h <;> first | (exfalso; omega) | conv => whnf) | (refine br_intro ?_ ?_ <;> intro h <;> conv => whnf) | ((first | refine auNd ?_ | refine idx_nat (by omega) (fun x hx => ?_) | refine frz_auto ?_ | refine draw_plain ?_ | refine auIx (fun x hx => ?_)); conv => whnf) | (refine both.mk ?_ ?_ <;> conv => whnf) | ((first | refine bx_idx ?_ | refine bx_intro (fun b hb => ?_)); conv => whnf)
 | false =>
  cases hW : wideW w with
  | true =>
   conv => whnf
   repeat' first | ((first | refine auTq ?_ | refine auFq ?_ | refine auIk ?_ | refine auIi ?_ | refine auT ?_ | refine auF ?_ | with_reducible first | refine auKt ?_ | refine auKf ?_ | refine auNt ?_ | refine auNf ?_ | refine auEt ?_ | refine auEf ?_); conv => whnf) | ((with_reducible first | refine br_dec ?_ ?_ | refine br_ndec ?_ ?_ | refine br_ne ?_ ?_ | refine br_eq ?_ ?_) <;> intro h <;> first | (exfalso; omega) | conv => whnf) | (refine br_intro ?_ ?_ <;> intro h <;> conv => whnf) | ((first | refine auNd ?_ | refine idx_nat (by omega) (fun x hx => ?_) | refine frz_auto ?_ | refine draw_plain ?_ | refine auIx (fun x hx => ?_)); conv => whnf) | (refine both.mk ?_ ?_ <;> conv => whnf) | ((first | refine bx_idx ?_ | refine bx_intro (fun b hb => ?_)); conv => whnf)
  | false =>
   obtain ⟨hl, hwl⟩ := manyL_len hF
   have hw12 : w.length ≤ 1000000 := Nat.le_trans (wideW_len hW) (by decide)
   conv => whnf
   repeat' first | ((first | refine auTq ?_ | refine auFq ?_ | (refine frP.mk [0, 1] ?_; (conv => whnf); refine builtP.mk l [] [] rfl rfl hl hwl ?_; rintro p m0 m1 gP P gC C hw hG hrx) | refine auIk ?_ | refine auIi ?_ | refine auT ?_ | refine auF ?_ | with_reducible first | refine auKt ?_ | refine auKf ?_ | refine auNt ?_ | refine auNf ?_ | refine auEt ?_ | refine auEf ?_); conv => whnf) | ((with_reducible first | refine br_dec ?_ ?_ | refine br_ndec ?_ ?_ | refine br_ne ?_ ?_ | refine br_eq ?_ ?_) <;> intro h <;> first | (exfalso; omega) | conv => whnf) | (refine br_intro ?_ ?_ <;> intro h <;> conv => whnf) | ((first | refine auNd ?_ | refine idx_nat (by omega) (fun x hx => ?_) | refine frz_auto ?_ | refine draw_plain ?_ | refine auIx (fun x hx => ?_)); conv => whnf) | (refine both.mk ?_ ?_ <;> conv => whnf) | ((first | refine bx_idx ?_ | refine bx_intro (fun b hb => ?_)); conv => whnf)
   have hm0 : p.mapR 0 0 = (p.hd, 0) := if_pos (by rfl)
   have hfit := hw.hd
   have hf1 : p.hd.length ≤ 4611686018427387904 := Nat.le_trans hfit.len (by decide)
   by_cases hf : (p.openR 0 0 lo hi bd).2 = 0
   ·have he : p.openE 0 0 lo hi bd = rgE lo hi bd := by unfold PM.openE; rw [hm0]; exact if_neg (fun h => h rfl)
    have hrg : rgE lo hi bd = 0 := by
     by_cases h : rgE lo hi bd = 0
     ·exact h
     ·unfold PM.openR at hf
      rw [if_neg (by rw [he]; exact h), he] at hf
      exact absurd hf h
    have heo : p.openE 0 0 lo hi bd = 0 := he.trans hrg
    have hR : p.openR 0 0 lo hi bd = giveH p.curs := if_pos heo
    have hN : p.openN 0 0 lo hi bd = { p with curs := giveL p.curs (partR p.hd lo hi bd, 0) } := by unfold PM.openN; rw [if_pos heo, hm0]
    rw [hR] at hf
    obtain ⟨j, g, h1, hg, h2⟩ := give_at (fun q hq => (hw.cur q hq).1) (partR p.hd lo hi bd, (0 : Int)) hf
    have hgh : giveH p.curs = (((j : Int) + 1, g), 0) := by
     generalize giveH p.curs = r at h1 hf ⊢
     obtain ⟨r1, r2⟩ := r
     have h1 : r1 = ((j : Int) + 1, g) := h1
     have hf : r2 = 0 := hf
     rw [h1, hf]
    obtain ⟨p1, hp1⟩ : ∃ p1, p.openN 0 0 lo hi bd = p1 := ⟨_, rfl⟩
    have hw1 : Wf 121 p1 := hp1 ▸ wf_open hw 0 0 lo hi bd
    have hc1 : CurAt p1 j g (partR p.hd lo hi bd) 0 := by rw [← hp1, hN]; exact h2
    have hpt : ptR p.hd lo hi bd = (partR p.hd lo hi bd, 0) := pt_ok hfit.ok hrg
    have hpl : (partR p.hd lo hi bd).length ≤ 4000 := Nat.le_trans partR_len hfit.len
    obtain ⟨m, hm⟩ : ∃ m, partR p.hd lo hi bd = m := ⟨_, rfl⟩
    rw [hm] at hpt hpl hc1
    conv => whnf
    repeat' first | ((first | refine auTq ?_ | refine auFq ?_ | first | (refine frP.mk [0, 1, 3, 4, 5] ?_; (conv => whnf); refine ⟨0, 0, xP.mk p 120 _ _ _ _ _ _ rfl rfl hw (by decide) (by assumption) ?_⟩; rintro _ _ _ _ _ _ hx9; rw [hm0]) | (refine frP.mk [0, 1, 3, 4, 5] ?_; (conv => whnf); refine xP.mk p 120 _ _ _ _ _ _ rfl rfl hw (by decide) (by assumption) ?_; rintro _ _ _ _ _ _ hx9) | (refine frP.mk [0, 1, 3, 4, 5] ?_; (conv => whnf); refine ⟨0, 0, lo, hi, bd, xP.mk p 120 _ _ _ _ _ _ rfl rfl hw (by decide) (by assumption) ?_⟩; rintro _ _ _ _ _ _ hx9; rw [hp1] at hx9; rw [hp1, hR, hgh]) | refine auIk ?_ | refine auIi ?_ | refine auT ?_ | refine auF ?_ | with_reducible first | refine auKt ?_ | refine auKf ?_ | refine auNt ?_ | refine auNf ?_ | refine auEt ?_ | refine auEf ?_); conv => whnf) | ((with_reducible first | refine br_dec ?_ ?_ | refine br_ndec ?_ ?_ | refine br_ne ?_ ?_ | refine br_eq ?_ ?_) <;> intro h <;> first | (exfalso; omega) | conv => whnf) | (refine br_intro ?_ ?_ <;> intro h <;> conv => whnf) | ((first | refine auNd ?_ | refine idx_nat (by omega) (fun x hx => ?_) | refine frz_auto ?_ | refine draw_plain ?_ | refine auIx (fun x hx => ?_)); conv => whnf) | (refine both.mk ?_ ?_ <;> conv => whnf) | ((first | refine bx_idx ?_ | refine bx_intro (fun b hb => ?_)); conv => whnf)
    have hpt2 : (ptR (p.hd, (0 : Int)).1 lo hi bd).1 = m := by show (ptR p.hd lo hi bd).1 = m; rw [hpt]
    all_goals rw [hpt2]
    refine loop_inv [] [16] (fun vs h => ∃ (i : Nat) (q : PM) (m0 : List (Nat × List pairT.El)) (m1 : List (Nat × cuT.El)) (gP : Nat) (P : List slT.El) (gC : Nat) (C : List scT.El), vs = [.int .i64 (i : Int)] ∧ h = [.oth (.bxs 22 (.sl pairT) m0), .oth (.bxs 109 cuT m1), .cells 46 [.str lo, .str hi, .bool bd], .cells 88 [.bool true, .lst pairT q.hd, .own 4 gP P.length, .own 5 gC C.length], .arr 133 slT P false gP, .arr 136 scT C false gC, .cells 63 [.int .i64 ((j : Int) + 1), .int .i64 g]] ∧ i ≤ m.length ∧ Wf 121 q ∧ CurAt q j g m (i : Int) ∧ XRel q m0 m1 P C) (fun vs _ => match vs with | [.int _ k] => m.length - k.toNat | _ => 0) ?_
    conv => whnf
    refine ⟨⟨0, p1, _, _, _, _, _, _, rfl, rfl, Nat.zero_le _, hw1, hc1, hx9⟩, ?_⟩
    rintro vs h' - ⟨i, q, m0, m1, gP, P, gC, C, rfl, rfl, hil0, hwq, hcq, hxq⟩
    clear hx9
    have hjc : ((j : Int) + 1) = (j : Int) + 1 := rfl
    by_cases hil : i < m.length
    ·obtain ⟨y, hy⟩ : ∃ y, m[i]? = some y := ⟨_, List.getElem?_eq_getElem hil⟩
     have hy1 : m[((i : Nat) : Int).toNat]? = some y := by rw [Int.toNat_natCast]; exact hy
     have hy2 : m[(((i : Nat) : Int) + 1 - 1).toNat]? = some y := by rw [show (((i : Nat) : Int) + 1 - 1).toNat = i by omega]; exact hy
     have hlt : ((i : Nat) : Int) < (m.length : Int) := by omega
     have hne : ((i : Nat) : Int) + 1 ≠ 0 := by omega
     have hcw := cur_write hcq w
     obtain ⟨q1, hq1⟩ : ∃ q1, q.writeN w = q1 := ⟨_, rfl⟩
     have w1 : Wf 121 q1 := hq1 ▸ wf_write hwq w
     rw [hq1] at hcw
     obtain ⟨e2, n2, c2⟩ := cur_next hcw hg hjc hy1 hlt
     obtain ⟨q2, hq2⟩ : ∃ q2, q1.nextN ((j : Int) + 1) g = q2 := ⟨_, rfl⟩
     have w2 : Wf 121 q2 := hq2 ▸ wf_next w1 _ _
     rw [hq2] at c2
     obtain ⟨e3, n3, c3⟩ := cur_prev c2 hg hjc hy2 hne
     obtain ⟨q3, hq3⟩ : ∃ q3, q2.prevN ((j : Int) + 1) g = q3 := ⟨_, rfl⟩
     have w3 : Wf 121 q3 := hq3 ▸ wf_prev w2 _ _
     rw [hq3, show ((i : Nat) : Int) + 1 - 1 = ((i : Nat) : Int) by omega] at c3
     obtain ⟨e4, n4, c4⟩ := cur_next c3 hg hjc hy1 hlt
     obtain ⟨q4, hq4⟩ : ∃ q4, q3.nextN ((j : Int) + 1) g = q4 := ⟨_, rfl⟩
     have w4 : Wf 121 q4 := hq4 ▸ wf_next w3 _ _
     rw [hq4] at c4
     have hyy : (!eqT (.st [.str, .str]) (y.1, y.2.1, ()) (y.1, y.2.1, ())) = false := by rw [show eqT (.st [.str, .str]) (y.1, y.2.1, ()) (y.1, y.2.1, ()) = true from eqP_refl _]; rfl
     conv => whnf
     repeat' first | ((first | refine auTq ?_ | refine auFq ?_ | first | (refine frP.mk [0, 1, 3, 4, 5] ?_; (conv => whnf); refine ⟨w, hw12, xP.mk q 121 _ _ _ _ _ _ rfl rfl hwq (by decide) (by assumption) ?_⟩; rintro _ _ _ _ _ _ hx9; rw [hq1] at hx9; rw [hq1]) | (refine frP.mk [0, 1, 3, 4, 5] ?_; (conv => whnf); refine ⟨((j : Int) + 1), g, xP.mk q1 121 _ _ _ _ _ _ rfl rfl w1 (by decide) (by assumption) ?_⟩; rintro _ _ _ _ _ _ hx9; rw [hq2] at hx9; rw [hq2, e2, n2]) | (refine frP.mk [0, 1, 3, 4, 5] ?_; (conv => whnf); refine ⟨((j : Int) + 1), g, xP.mk q2 121 _ _ _ _ _ _ rfl rfl w2 (by decide) (by assumption) ?_⟩; rintro _ _ _ _ _ _ hx9; rw [hq3] at hx9; rw [hq3, e3, n3]) | (refine frP.mk [0, 1, 3, 4, 5] ?_; (conv => whnf); refine ⟨((j : Int) + 1), g, xP.mk q3 121 _ _ _ _ _ _ rfl rfl w3 (by decide) (by assumption) ?_⟩; rintro _ _ _ _ _ _ hx9; rw [hq4] at hx9; rw [hq4, e4, n4]) | refine auIk ?_ | refine auIi ?_ | refine auT ?_ | refine auF ?_ | with_reducible first | refine auKt ?_ | refine auKf ?_ | refine auNt ?_ | refine auNf ?_ | refine auEt ?_ | refine auEf ?_); conv => whnf) | ((with_reducible first | refine br_dec ?_ ?_ | refine br_ndec ?_ ?_ | refine br_ne ?_ ?_ | refine br_eq ?_ ?_) <;> intro h <;> first | (exfalso; omega) | conv => whnf) | (refine br_intro ?_ ?_ <;> intro h <;> conv => whnf) | ((first | refine auNd ?_ | refine idx_nat (by omega) (fun x hx => ?_) | refine frz_auto ?_ | refine draw_plain ?_ | refine auIx (fun x hx => ?_)); conv => whnf) | (refine both.mk ?_ ?_ <;> conv => whnf) | ((first | refine bx_idx ?_ | refine bx_intro (fun b hb => ?_)); conv => whnf)
     refine back_intro (by conv => whnf) rfl ⟨i + 1, q4, _, _, _, _, _, _, rfl, rfl, by omega, w4, c4, by assumption⟩ ?_
     show m.length - ((i : Int) + 1).toNat < m.length - (i : Int).toNat
     omega
    ·have hie : ((i : Nat) : Int) = (m.length : Int) := by omega
     obtain ⟨e5, n5⟩ := cur_end hcq hg hjc hie
     rw [hie] at hcq
     conv => whnf
     repeat' first | ((first | refine auTq ?_ | refine auFq ?_ | (refine frP.mk [0, 1, 3, 4, 5] ?_; (conv => whnf); refine ⟨((j : Int) + 1), g, xP.mk q 121 _ _ _ _ _ _ rfl rfl hwq (by decide) (by assumption) ?_⟩; rintro _ _ _ _ _ _ hx9; rw [n5] at hx9; rw [n5, e5]) | refine auIk ?_ | refine auIi ?_ | refine auT ?_ | refine auF ?_ | with_reducible first | refine auKt ?_ | refine auKf ?_ | refine auNt ?_ | refine auNf ?_ | refine auEt ?_ | refine auEf ?_); conv => whnf) | ((with_reducible first | refine br_dec ?_ ?_ | refine br_ndec ?_ ?_ | refine br_ne ?_ ?_ | refine br_eq ?_ ?_) <;> intro h <;> first | (exfalso; omega) | conv => whnf) | (refine br_intro ?_ ?_ <;> intro h <;> conv => whnf) | ((first | refine auNd ?_ | refine idx_nat (by omega) (fun x hx => ?_) | refine frz_auto ?_ | refine draw_plain ?_ | refine auIx (fun x hx => ?_)); conv => whnf) | (refine both.mk ?_ ?_ <;> conv => whnf) | ((first | refine bx_idx ?_ | refine bx_intro (fun b hb => ?_)); conv => whnf)
     refine loop_inv [] [25] (fun vs h => ∃ (z1 z2 : ByteArray) (a : Nat) (q : PM) (m0 : List (Nat × List pairT.El)) (m1 : List (Nat × cuT.El)) (gP : Nat) (P : List slT.El) (gC : Nat) (C : List scT.El), vs = [.int .i64 ((a : Int) - 1)] ∧ h = [.oth (.bxs 22 (.sl pairT) m0), .oth (.bxs 109 cuT m1), .cells 46 [.str lo, .str hi, .bool bd], .cells 88 [.bool true, .lst pairT q.hd, .own 4 gP P.length, .own 5 gC C.length], .arr 133 slT P false gP, .arr 136 scT C false gC, .cells 63 [.int .i64 ((j : Int) + 1), .int .i64 g], .cells 50 [.str z1, .str z2]] ∧ a ≤ m.length ∧ Wf 121 q ∧ CurAt q j g m (a : Int) ∧ XRel q m0 m1 P C) (fun vs _ => match vs with | [.int _ k] => (k + 1).toNat | _ => 0) ?_
     conv => whnf
     refine ⟨⟨_, _, m.length, q, _, _, _, _, _, _, rfl, rfl, Nat.le_refl _, hwq, hcq, by assumption⟩, ?_⟩
     rintro vs h' - ⟨z1, z2, a, q, m0, m1, gP, P, gC, C, rfl, rfl, ha, hwq, hcq, hxq⟩
     clear hx9
     by_cases ha0 : a = 0
     ·subst ha0
      obtain ⟨e6, n6⟩ := cur_start hcq hg hjc (by rfl)
      have hlk := (cur_look hcq hg hjc).1
      have hls := cur_shut hcq hg hjc
      obtain ⟨q7, hq7⟩ : ∃ q7, q.shutN ((j : Int) + 1) g = q7 := ⟨_, rfl⟩
      have w7 : Wf 121 q7 := hq7 ▸ wf_shut hwq _ _
      rw [hq7] at hls
      conv => whnf
      repeat' first | ((first | refine auTq ?_ | refine auFq ?_ | first | (refine frP.mk [0, 1, 3, 4, 5] ?_; (conv => whnf); refine ⟨((j : Int) + 1), g, xP.mk q 121 _ _ _ _ _ _ rfl rfl hwq (by decide) (by assumption) ?_⟩; rintro _ _ _ _ _ _ hx9; rw [n6] at hx9; rw [n6, e6]) | (refine frP.mk [0, 1, 3, 4, 5] ?_; (conv => whnf); refine ⟨((j : Int) + 1), g, xP.mk q 121 _ _ _ _ _ _ rfl rfl hwq (by decide) (by assumption) ?_⟩; rintro _ _ _ _ _ _ hx9; rw [hq7] at hx9; rw [hq7, hlk]) | (refine frP.mk [0, 1, 3, 4, 5] ?_; (conv => whnf); refine ⟨((j : Int) + 1), g, xP.mk q7 121 _ _ _ _ _ _ rfl rfl w7 (by decide) (by assumption) ?_⟩; rintro _ _ _ _ _ _ hx9; rw [hls]) | refine auIk ?_ | refine auIi ?_ | refine auT ?_ | refine auF ?_ | with_reducible first | refine auKt ?_ | refine auKf ?_ | refine auNt ?_ | refine auNf ?_ | refine auEt ?_ | refine auEf ?_); conv => whnf) | ((with_reducible first | refine br_dec ?_ ?_ | refine br_ndec ?_ ?_ | refine br_ne ?_ ?_ | refine br_eq ?_ ?_) <;> intro h <;> first | (exfalso; omega) | conv => whnf) | (refine br_intro ?_ ?_ <;> intro h <;> conv => whnf) | ((first | refine auNd ?_ | refine idx_nat (by omega) (fun x hx => ?_) | refine frz_auto ?_ | refine draw_plain ?_ | refine auIx (fun x hx => ?_)); conv => whnf) | (refine both.mk ?_ ?_ <;> conv => whnf) | ((first | refine bx_idx ?_ | refine bx_intro (fun b hb => ?_)); conv => whnf)
     ·obtain ⟨y, hy⟩ : ∃ y, m[a - 1]? = some y := ⟨_, List.getElem?_eq_getElem (by omega)⟩
      have hy1 : m[((a : Int) - 1).toNat]? = some y := by rw [show ((a : Int) - 1).toNat = a - 1 by omega]; exact hy
      have ha1 : (a : Int) ≠ 0 := by omega
      have ha2 : 0 ≤ (a : Int) - 1 := by omega
      have ha3 : (a : Int) - 1 < (m.length : Int) := by omega
      obtain ⟨e6, n6, c6⟩ := cur_prev hcq hg hjc hy1 ha1
      obtain ⟨q6, hq6⟩ : ∃ q6, q.prevN ((j : Int) + 1) g = q6 := ⟨_, rfl⟩
      have w6 : Wf 121 q6 := hq6 ▸ wf_prev hwq _ _
      rw [hq6] at c6
      have hyy : (!eqT (.st [.str, .str]) (y.1, y.2.1, ()) (y.1, y.2.1, ())) = false := by rw [show eqT (.st [.str, .str]) (y.1, y.2.1, ()) (y.1, y.2.1, ()) = true from eqP_refl _]; rfl
      conv => whnf
      repeat' first | ((first | refine auTq ?_ | refine auFq ?_ | (refine frP.mk [0, 1, 3, 4, 5] ?_; (conv => whnf); refine ⟨((j : Int) + 1), g, xP.mk q 121 _ _ _ _ _ _ rfl rfl hwq (by decide) (by assumption) ?_⟩; rintro _ _ _ _ _ _ hx9; rw [hq6] at hx9; rw [hq6, e6, n6]) | refine auIk ?_ | refine auIi ?_ | refine auT ?_ | refine auF ?_ | with_reducible first | refine auKt ?_ | refine auKf ?_ | refine auNt ?_ | refine auNf ?_ | refine auEt ?_ | refine auEf ?_); conv => whnf) | ((with_reducible first | refine br_dec ?_ ?_ | refine br_ndec ?_ ?_ | refine br_ne ?_ ?_ | refine br_eq ?_ ?_) <;> intro h <;> first | (exfalso; omega) | conv => whnf) | (refine br_intro ?_ ?_ <;> intro h <;> conv => whnf) | ((first | refine auNd ?_ | refine idx_nat (by omega) (fun x hx => ?_) | refine frz_auto ?_ | refine draw_plain ?_ | refine auIx (fun x hx => ?_)); conv => whnf) | (refine both.mk ?_ ?_ <;> conv => whnf) | ((first | refine bx_idx ?_ | refine bx_intro (fun b hb => ?_)); conv => whnf)
      refine back_intro (by conv => whnf) rfl ⟨_, _, a - 1, q6, _, _, _, _, _, _, ?_, rfl, by omega, w6, ?_, by assumption⟩ ?_
      ·rw [show ((a - 1 : Nat) : Int) = (a : Int) - 1 by omega]
       rfl
      ·rw [show ((a - 1 : Nat) : Int) = (a : Int) - 1 by omega]
       exact c6
      ·show ((a : Int) - 1 - 1 + 1).toNat < ((a : Int) - 1 + 1).toNat
       omega
   ·have he : p.openE 0 0 lo hi bd = rgE lo hi bd := by unfold PM.openE; rw [hm0]; exact if_neg (fun h => h rfl)
    obtain ⟨p1, hp1⟩ : ∃ p1, p.openN 0 0 lo hi bd = p1 := ⟨_, rfl⟩
    by_cases hrg : rgE lo hi bd = 0
    ·have hR : p.openR 0 0 lo hi bd = giveH p.curs := if_pos (he.trans hrg)
     rw [hR] at hf
     obtain ⟨h5, h16⟩ := give_err (([] : List pairT.El), (0 : Int)) hf
     conv => whnf
     repeat' first | ((first | refine auTq ?_ | refine auFq ?_ | first | (refine frP.mk [0, 1, 3, 4, 5] ?_; (conv => whnf); refine ⟨0, 0, xP.mk p 120 _ _ _ _ _ _ rfl rfl hw (by decide) (by assumption) ?_⟩; rintro _ _ _ _ _ _ hx9; rw [hm0]) | (refine frP.mk [0, 1, 3, 4, 5] ?_; (conv => whnf); refine xP.mk p 120 _ _ _ _ _ _ rfl rfl hw (by decide) (by assumption) ?_; rintro _ _ _ _ _ _ hx9) | (refine frP.mk [0, 1, 3, 4, 5] ?_; (conv => whnf); refine ⟨0, 0, lo, hi, bd, xP.mk p 120 _ _ _ _ _ _ rfl rfl hw (by decide) (by assumption) ?_⟩; rintro _ _ _ _ _ _ hx9; rw [hp1] at hx9; rw [hp1, hR, h5]) | refine auIk ?_ | refine auIi ?_ | refine auT ?_ | refine auF ?_ | with_reducible first | refine auKt ?_ | refine auKf ?_ | refine auNt ?_ | refine auNf ?_ | refine auEt ?_ | refine auEf ?_); conv => whnf) | ((with_reducible first | refine br_dec ?_ ?_ | refine br_ndec ?_ ?_ | refine br_ne ?_ ?_ | refine br_eq ?_ ?_) <;> intro h <;> first | (exfalso; omega) | conv => whnf) | (refine br_intro ?_ ?_ <;> intro h <;> conv => whnf) | ((first | refine auNd ?_ | refine idx_nat (by omega) (fun x hx => ?_) | refine frz_auto ?_ | refine draw_plain ?_ | refine auIx (fun x hx => ?_)); conv => whnf) | (refine both.mk ?_ ?_ <;> conv => whnf) | ((first | refine bx_idx ?_ | refine bx_intro (fun b hb => ?_)); conv => whnf)
    ·have hR : p.openR 0 0 lo hi bd = ((0, 0), rgE lo hi bd) := by unfold PM.openR; rw [he, if_neg hrg]
     conv => whnf
     repeat' first | ((first | refine auTq ?_ | refine auFq ?_ | first | (refine frP.mk [0, 1, 3, 4, 5] ?_; (conv => whnf); refine ⟨0, 0, xP.mk p 120 _ _ _ _ _ _ rfl rfl hw (by decide) (by assumption) ?_⟩; rintro _ _ _ _ _ _ hx9; rw [hm0]) | (refine frP.mk [0, 1, 3, 4, 5] ?_; (conv => whnf); refine xP.mk p 120 _ _ _ _ _ _ rfl rfl hw (by decide) (by assumption) ?_; rintro _ _ _ _ _ _ hx9) | (refine frP.mk [0, 1, 3, 4, 5] ?_; (conv => whnf); refine ⟨0, 0, lo, hi, bd, xP.mk p 120 _ _ _ _ _ _ rfl rfl hw (by decide) (by assumption) ?_⟩; rintro _ _ _ _ _ _ hx9; rw [hp1] at hx9; rw [hp1, hR]) | refine auIk ?_ | refine auIi ?_ | refine auT ?_ | refine auF ?_ | with_reducible first | refine auKt ?_ | refine auKf ?_ | refine auNt ?_ | refine auNf ?_ | refine auEt ?_ | refine auEf ?_); conv => whnf) | ((with_reducible first | refine br_dec ?_ ?_ | refine br_ndec ?_ ?_ | refine br_ne ?_ ?_ | refine br_eq ?_ ?_) <;> intro h <;> first | (exfalso; omega) | conv => whnf) | (refine br_intro ?_ ?_ <;> intro h <;> conv => whnf) | ((first | refine auNd ?_ | refine idx_nat (by omega) (fun x hx => ?_) | refine frz_auto ?_ | refine draw_plain ?_ | refine auIx (fun x hx => ?_)); conv => whnf) | (refine both.mk ?_ ?_ <;> conv => whnf) | ((first | refine bx_idx ?_ | refine bx_intro (fun b hb => ?_)); conv => whnf)

end Go.Proofs.Ytbbklijmnknmhaa
namespace Go.Proofs.Ytbbklijmnknmhaa
open Go.ChangeShapes Go.WideShapes Go.ChangeAt Go.RowKit Go.Joins Go.Deep Av

theorem Try.own : ownKnob Try.prog.godebug = none := by kernel_rfl
theorem Try.laidOut : laidOutB Try.prog = true := by kernel_rfl

section
variable {H : Type} {enc : TypeId × Value → H} {w : World}

theorem all_below {W W' : World} (hb : Below W.heap.size W W') : ∀ (ts : List TypeId) (vs : List Value) (ds : List (DataW H)) (ps : List MemPlace), (∀ t ∈ ts, Try.prog.readableRec t = true ∧ t < Try.prog.types.size) →
  DataW.TrodAll enc Try.prog W 0 (fun _ => true) true ts vs ds ps → (∀ x ∈ ps, x.block < W.heap.size) → DataW.TrodAll enc Try.prog W' 0 (fun b => decide (b < W.heap.size)) true ts vs ds ps
 | [], vs, ds, ps, _, h, _ => by
  obtain ⟨rfl, rfl, rfl⟩ := trodAll_nil h
  exact trodAll_mk0
 | t :: ts, vs, ds, ps, hr, h, hlt => by
  obtain ⟨v, vs', d, ds', p, q, rfl, rfl, rfl, h1, h2⟩ := trodAll_cons h
  obtain ⟨r1, r2⟩ := hr t (by simp)
  exact trodAll_cons_mk (Below.trod Try.laidOut r1 r2 h1 hb (fun x hx => hlt x (by simp [hx]))) (all_below hb ts vs' ds' q (fun t' ht' => hr t' (by simp [ht'])) h2 (fun x hx => hlt x (by simp [hx])))

theorem law_post {f : Func} {s : ChangeSpec} {W W' : World} {args : Array Value} {ds gs : List (DataW H)} {before : List MemPlace} (hW : DataW.Whole enc Try.prog f.params.toList s.vars false W args.toList ds gs before)
  (hv : s.vars = []) (hres : (s.fn H (ds ++ [])).results = [.lit (.bool true)]) (hargs : (s.fn H (ds ++ [])).args = ds) (hvs : (s.fn H (ds ++ [])).vars = []) (hR : f.resultTypes = #[4])
  (hr : ∀ t ∈ f.params.toList, Try.prog.readableRec t = true ∧ t < Try.prog.types.size) (hb : Below W.heap.size W W') :
  s.post enc Try.prog f false true false false W args (.bool true) W' := by
 have hlt := hW.lt
 have hW' := hW
 obtain ⟨p, q, hA, hV, rfl, _, _⟩ := hW
 rw [hv] at hV
 obtain ⟨rfl, rfl⟩ := trodVars_none hV
 refine ⟨ds, [], p ++ [], [], p, [], hW', ?_, ?_, ?_, hb.frame _, fun h => by cases h⟩
 ·rw [hres, hR]
  exact trodAll_mk1 (shut_bool Try.underlying4 true)
 ·rw [hargs]
  exact all_below hb _ _ _ _ hr hA (fun x hx => hlt x (by simp [hx]))
 ·rw [hv, hvs]
  exact rfl


theorem trodAll_len {W : World} {base : Nat} {spare : Nat → Bool} {held : Bool} : ∀ {ts : List TypeId} {vs : List Value} {ds : List (DataW H)} {ps : List MemPlace}, DataW.TrodAll enc Try.prog W base spare held ts vs ds ps → ds.length = ts.length
 | [], vs, ds, ps, h => by
  obtain ⟨rfl, rfl, rfl⟩ := trodAll_nil h
  rfl
 | t :: ts, vs, ds, ps, h => by
  obtain ⟨v, vs', D, ds', p, q, rfl, rfl, rfl, h1, h2⟩ := trodAll_cons h
  simp only [List.length_cons, trodAll_len h2]
theorem arr_get {α : Type} {a : Array α} {j : Nat} {x : α} (h : a.toList[j]? = some x) : a[j]? = some x := by simpa using h
end
end Go.Proofs.Ytbbklijmnknmhaa
