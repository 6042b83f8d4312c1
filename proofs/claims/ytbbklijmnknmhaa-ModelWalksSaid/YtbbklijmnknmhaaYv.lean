/-
  A model's calls, each with its memory alone: Pin, Open, Live.
-/
import Derived.Test.YtbbklijmnknmhaaYu
namespace Go.Proofs.Ytbbklijmnknmhaa
open Av Bk

def xVerA : LocA := fun ys h K => ∃ i g : Int, xP [.ptr 2 0, .agg [.int .i64 i, .int .i64 g]] (fun p => p) (fun p => .tup [.lst pairT (p.mapR i g).1, .int .i64 (p.mapR i g).2]) ys h K
set_option maxRecDepth 100000 in
set_option maxHeartbeats 4000000 in
theorem xVer_ok : LocOk Try.prog 75 xVerA := by
 refine loc_body (C := cxX) mixed tbOk specsX callX fnOk_xVer ?_
 rintro ys h0 K ⟨i, g, p, k, m0, m1, gP, P, gC, C, rfl, rfl, hw, hk, hr, hK⟩
 have h0 := hw.hd.len
 have h1 : p.hd.length ≤ 4611686018427387904 := Nat.le_trans h0 (by decide)
 have hpl := hr.pl
 have hpl2 := hw.pl
 have hcl := hr.cl
 have hcl2 := hw.cl
 cases hz : isHd i g with
 | true =>
  have hz : eqT (Ty.st [Ty.int IntKind.i64, Ty.int IntKind.i64]) (i, g, ()) (0, 0, ()) = true := hz
  have er : p.mapR i g = (p.hd, 0) := if_pos hz
  rw [er] at hK
  conv => whnf
  repeat' first | ((first | refine auTq ?_ | refine auFq ?_ | refine auIk ?_ | refine auIi ?_ | refine auT ?_ | refine auF ?_ | with_reducible first | refine auKt ?_ | refine auKf ?_ | refine auNt ?_ | refine auNf ?_ | refine auEt ?_ | refine auEf ?_); conv => whnf) | ((with_reducible first | refine br_dec ?_ ?_ | refine br_ndec ?_ ?_ | refine br_ne ?_ ?_ | refine br_eq ?_ ?_) <;> intro h <;> first | (exfalso; omega) | conv => whnf) | (refine br_intro ?_ ?_ <;> intro h <;> conv => whnf) | ((first | refine auNd ?_ | refine idx_nat (by omega) (fun x hx => ?_) | refine frz_auto ?_ | refine draw_plain ?_ | refine auIx (fun x hx => ?_)); conv => whnf) | (refine both.mk ?_ ?_ <;> conv => whnf) | ((first | refine bx_idx ?_ | refine bx_intro (fun b hb => ?_)); conv => whnf)
  all_goals
   refine exA [0, 1, 2, 3, 4] ?_
   conv => whnf
   repeat (refine auNd ?_; conv => whnf)
   exact hK _ _ _ _ _ _ hr
 | false =>
  have hz0 := hz
  have hz : eqT (Ty.st [Ty.int IntKind.i64, Ty.int IntKind.i64]) (i, g, ()) (0, 0, ()) = false := hz
  rcases slot_cases p.pins i g with ⟨hc, he⟩ | ⟨c1, c2, g0, o, hq, hc⟩
  ·have hc : i < 1 ∨ (P.length : Int) < i := by omega
   have er : p.mapR i g = ([], 4) := by unfold PM.mapR; rw [if_neg (by rw [hz0]; decide), he, if_neg (by decide)]
   rw [er] at hK
   conv => whnf
   repeat' first | ((first | refine auTq ?_ | refine auFq ?_ | refine auIk ?_ | refine auIi ?_ | refine auT ?_ | refine auF ?_ | with_reducible first | refine auKt ?_ | refine auKf ?_ | refine auNt ?_ | refine auNf ?_ | refine auEt ?_ | refine auEf ?_); conv => whnf) | ((with_reducible first | refine br_dec ?_ ?_ | refine br_ndec ?_ ?_ | refine br_ne ?_ ?_ | refine br_eq ?_ ?_) <;> intro h <;> first | (exfalso; omega) | conv => whnf) | (refine br_intro ?_ ?_ <;> intro h <;> conv => whnf) | ((first | refine auNd ?_ | refine idx_nat (by omega) (fun x hx => ?_) | refine frz_auto ?_ | refine draw_plain ?_ | refine auIx (fun x hx => ?_)); conv => whnf) | (refine both.mk ?_ ?_ <;> conv => whnf) | ((first | refine bx_idx ?_ | refine bx_intro (fun b hb => ?_)); conv => whnf)
   all_goals
    refine exA [0, 1, 2, 3, 4] ?_
    conv => whnf
    repeat (refine auNd ?_; conv => whnf)
    exact hK _ _ _ _ _ _ hr
  ·have c2 : i ≤ (P.length : Int) := by omega
   have c5 : inR .i64 (i - 1) := by simp only [inR]; omega
   have hq0 := hw.pin _ (List.mem_of_getElem? hq)
   have c3 : 0 ≤ g0 := hq0.1
   have c4 : g0 ≤ (k : Int) := hq0.2.1
   rcases hc with ⟨hc, he⟩ | ⟨hc1, hc2, he⟩ | ⟨hc1, rfl, rfl, he⟩ | ⟨hc1, rfl, x, rfl, he⟩
   ·obtain ⟨o', hp⟩ : ∃ o', P[(i - 1).toNat]? = some (g0, o', ()) := by
     rcases hr.pAt hq with ⟨_, hp⟩ | ⟨b, m, _, hp, _⟩ <;> exact ⟨_, hp⟩
    have er : p.mapR i g = ([], 4) := by unfold PM.mapR; rw [if_neg (by rw [hz0]; decide), he, if_neg (by decide)]
    rw [er] at hK
    conv => whnf
    repeat' first | ((first | refine auTq ?_ | refine auFq ?_ | refine auIk ?_ | refine auIi ?_ | refine auT ?_ | refine auF ?_ | with_reducible first | refine auKt ?_ | refine auKf ?_ | refine auNt ?_ | refine auNf ?_ | refine auEt ?_ | refine auEf ?_); conv => whnf) | ((with_reducible first | refine br_dec ?_ ?_ | refine br_ndec ?_ ?_ | refine br_ne ?_ ?_ | refine br_eq ?_ ?_) <;> intro h <;> first | (exfalso; omega) | conv => whnf) | (refine br_intro ?_ ?_ <;> intro h <;> conv => whnf) | ((first | refine auNd ?_ | refine idx_nat (by omega) (fun x hx => ?_) | refine frz_auto ?_ | refine draw_plain ?_ | refine auIx (fun x hx => ?_)); conv => whnf) | (refine both.mk ?_ ?_ <;> conv => whnf) | ((first | refine bx_idx ?_ | refine bx_intro (fun b hb => ?_)); conv => whnf)
    all_goals
     refine exA [0, 1, 2, 3, 4] ?_
     conv => whnf
     repeat (refine auNd ?_; conv => whnf)
     exact hK _ _ _ _ _ _ hr
   ·obtain ⟨o', hp⟩ : ∃ o', P[(i - 1).toNat]? = some (g0, o', ()) := by
     rcases hr.pAt hq with ⟨_, hp⟩ | ⟨b, m, _, hp, _⟩ <;> exact ⟨_, hp⟩
    have er : p.mapR i g = ([], 11) := by unfold PM.mapR; rw [if_neg (by rw [hz0]; decide), he, if_neg (by decide)]
    rw [er] at hK
    conv => whnf
    repeat' first | ((first | refine auTq ?_ | refine auFq ?_ | refine auIk ?_ | refine auIi ?_ | refine auT ?_ | refine auF ?_ | with_reducible first | refine auKt ?_ | refine auKf ?_ | refine auNt ?_ | refine auNf ?_ | refine auEt ?_ | refine auEf ?_); conv => whnf) | ((with_reducible first | refine br_dec ?_ ?_ | refine br_ndec ?_ ?_ | refine br_ne ?_ ?_ | refine br_eq ?_ ?_) <;> intro h <;> first | (exfalso; omega) | conv => whnf) | (refine br_intro ?_ ?_ <;> intro h <;> conv => whnf) | ((first | refine auNd ?_ | refine idx_nat (by omega) (fun x hx => ?_) | refine frz_auto ?_ | refine draw_plain ?_ | refine auIx (fun x hx => ?_)); conv => whnf) | (refine both.mk ?_ ?_ <;> conv => whnf) | ((first | refine bx_idx ?_ | refine bx_intro (fun b hb => ?_)); conv => whnf)
    all_goals
     refine exA [0, 1, 2, 3, 4] ?_
     conv => whnf
     repeat (refine auNd ?_; conv => whnf)
     exact hK _ _ _ _ _ _ hr
   ·obtain ⟨_, hp⟩ : True ∧ P[(i - 1).toNat]? = some (g, none, ()) := by
     rcases hr.pAt hq with h | ⟨b, m, h, _⟩
     ·exact ⟨trivial, h.2⟩
     ·cases h
    have er : p.mapR i g = ([], 11) := by unfold PM.mapR; rw [if_neg (by rw [hz0]; decide), he, if_neg (by decide)]
    rw [er] at hK
    conv => whnf
    repeat' first | ((first | refine auTq ?_ | refine auFq ?_ | refine auIk ?_ | refine auIi ?_ | refine auT ?_ | refine auF ?_ | with_reducible first | refine auKt ?_ | refine auKf ?_ | refine auNt ?_ | refine auNf ?_ | refine auEt ?_ | refine auEf ?_); conv => whnf) | ((with_reducible first | refine br_dec ?_ ?_ | refine br_ndec ?_ ?_ | refine br_ne ?_ ?_ | refine br_eq ?_ ?_) <;> intro h <;> first | (exfalso; omega) | conv => whnf) | (refine br_intro ?_ ?_ <;> intro h <;> conv => whnf) | ((first | refine auNd ?_ | refine idx_nat (by omega) (fun x hx => ?_) | refine frz_auto ?_ | refine draw_plain ?_ | refine auIx (fun x hx => ?_)); conv => whnf) | (refine both.mk ?_ ?_ <;> conv => whnf) | ((first | refine bx_idx ?_ | refine bx_intro (fun b hb => ?_)); conv => whnf)
    all_goals
     refine exA [0, 1, 2, 3, 4] ?_
     conv => whnf
     repeat (refine auNd ?_; conv => whnf)
     exact hK _ _ _ _ _ _ hr
   ·obtain ⟨b, hp, hb⟩ : ∃ b, P[(i - 1).toNat]? = some (g, some b, ()) ∧ lkB m0 b = some x := by
     rcases hr.pAt hq with h | ⟨b, m, h, h2, h3⟩
     ·cases h.1
     ·cases h; exact ⟨b, h2, h3⟩
    have hb1 := bxL_at hb
    have hm := (hq0.2.2 x rfl).len
    have hm1 : x.length ≤ 4611686018427387904 := Nat.le_trans hm (by decide)
    have er : p.mapR i g = (x, 0) := by unfold PM.mapR; rw [if_neg (by rw [hz0]; decide), he, if_pos rfl, lookV_at hq]; rfl
    rw [er] at hK
    conv => whnf
    repeat' first | ((first | refine auTq ?_ | refine auFq ?_ | refine auIk ?_ | refine auIi ?_ | refine auT ?_ | refine auF ?_ | with_reducible first | refine auKt ?_ | refine auKf ?_ | refine auNt ?_ | refine auNf ?_ | refine auEt ?_ | refine auEf ?_); conv => whnf) | ((with_reducible first | refine br_dec ?_ ?_ | refine br_ndec ?_ ?_ | refine br_ne ?_ ?_ | refine br_eq ?_ ?_) <;> intro h <;> first | (exfalso; omega) | conv => whnf) | (refine br_intro ?_ ?_ <;> intro h <;> conv => whnf) | ((first | refine auNd ?_ | refine idx_nat (by omega) (fun x hx => ?_) | refine frz_auto ?_ | refine draw_plain ?_ | refine auIx (fun x hx => ?_)); conv => whnf) | (refine both.mk ?_ ?_ <;> conv => whnf) | ((first | refine bx_idx ?_ | refine bx_intro (fun b hb => ?_)); conv => whnf)
    all_goals
     refine exA [0, 1, 2, 3, 4] ?_
     conv => whnf
     repeat (refine auNd ?_; conv => whnf)
     exact hK _ _ _ _ _ _ hr
theorem live_take {β : Type} : ∀ {l : List (Int × Option β)} {n i : Nat} {q : Int × Option β}, l[i]? = some q → liveGo n (l.take (i + 1)) = liveGo n (l.take i) ++ (if q.2.isNone = true then [] else [(((n + i : Nat) : Int) + 1, q.1, ())])
 | [], _, _, _, h => by simp at h
 | y :: l, n, 0, q, h => by
  simp at h
  subst h
  simp only [List.take_succ_cons, List.take_zero, liveGo, List.nil_append]
  split <;> simp [liveGo]
 | y :: l, n, i + 1, q, h => by
  have := live_take (n := n + 1) (l := l) (i := i) (q := q) (by simpa using h)
  rw [List.take_succ_cons, List.take_succ_cons]
  simp only [liveGo]
  rw [this, show n + 1 + i = n + (i + 1) by omega]
  split <;> simp
noncomputable def cxL : Cx := ⟨tb, [], []⟩
theorem callL : CallOk Try.prog (callN cxL 1) := callN_ok mixed tbOk SpecsOk.nil FnsOk.nil 1
def tpLiveA : LocA := fun ys h K => xP [.ptr 2 2] (fun p => p) (fun p => .lst hanT (liveGo 0 p.pins)) ys h K
set_option maxRecDepth 100000 in
set_option maxHeartbeats 4000000 in
theorem tpLive_ok : LocOk Try.prog 72 tpLiveA := by
 refine loc_body (C := cxL) mixed tbOk SpecsOk.nil callL fnOk_tpLive ?_
 rintro ys h0 K ⟨p, k, m0, m1, gP, P, gC, C, rfl, rfl, hw, hk, hr, hK⟩
 have hpl := hr.pl
 have hpl2 := hw.pl
 conv => whnf
 repeat' first | ((first | refine auTq ?_ | refine auFq ?_ | refine auIk ?_ | refine auIi ?_ | refine auT ?_ | refine auF ?_ | with_reducible first | refine auKt ?_ | refine auKf ?_ | refine auNt ?_ | refine auNf ?_ | refine auEt ?_ | refine auEf ?_); conv => whnf) | ((with_reducible first | refine br_dec ?_ ?_ | refine br_ndec ?_ ?_ | refine br_ne ?_ ?_ | refine br_eq ?_ ?_) <;> intro h <;> first | (exfalso; omega) | conv => whnf) | (refine br_intro ?_ ?_ <;> intro h <;> conv => whnf) | ((first | refine auNd ?_ | refine idx_nat (by omega) (fun x hx => ?_) | refine frz_auto ?_ | refine draw_plain ?_ | refine auIx (fun x hx => ?_)); conv => whnf) | (refine both.mk ?_ ?_ <;> conv => whnf) | ((first | refine bx_idx ?_ | refine bx_intro (fun b hb => ?_)); conv => whnf)
 refine loop_inv [] [3, 11] (fun vs h => ∃ (i gn n : Nat) (o : List hanT.El), vs = [.own 6 gn n, .int .i64 (i : Int)] ∧ h = XH m0 m1 p.hd gP P gC C ++ [.arr 63 hanT [] false 0, .arr 63 hanT o false gn] ∧ i ≤ P.length ∧ o = liveGo 0 (p.pins.take i) ∧ n = o.length) (fun vs _ => match vs with | [_, .int _ k] => P.length - k.toNat | _ => 0) ?_
 conv => whnf
 refine ⟨⟨0, 0, 0, [], rfl, rfl, Nat.zero_le _, rfl, rfl⟩, ?_⟩
 rintro vs h' - ⟨i, gn, n, o, rfl, rfl, hi, ho, rfl⟩
 by_cases hil : i < P.length
 ·obtain ⟨⟨g0, v⟩, hq⟩ : ∃ q, p.pins[i]? = some q := ⟨_, List.getElem?_eq_getElem (by rw [← hpl]; exact hil)⟩
  have ht := live_take (n := 0) hq
  have hlen : o.length ≤ 16 := by
   have : ∀ (l : List (Int × Option (List pairT.El))) (n : Nat), (liveGo n l).length ≤ l.length := by
    intro l
    induction l with
    | nil => intro n; simp [liveGo]
    | cons q l ih => intro n; simp only [liveGo]; split <;> simp <;> have := ih (n + 1) <;> omega
   rw [ho]
   exact Nat.le_trans (this _ _) (by rw [List.length_take]; omega)
  rcases hr.pAt hq with ⟨rfl, hx⟩ | ⟨b, m, rfl, hx, _⟩
  ·conv => whnf
   repeat' first | ((first | refine auTq ?_ | refine auFq ?_ | refine auIk ?_ | refine auIi ?_ | refine auT ?_ | refine auF ?_ | with_reducible first | refine auKt ?_ | refine auKf ?_ | refine auNt ?_ | refine auNf ?_ | refine auEt ?_ | refine auEf ?_); conv => whnf) | ((with_reducible first | refine br_dec ?_ ?_ | refine br_ndec ?_ ?_ | refine br_ne ?_ ?_ | refine br_eq ?_ ?_) <;> intro h <;> first | (exfalso; omega) | conv => whnf) | (refine br_intro ?_ ?_ <;> intro h <;> conv => whnf) | ((first | refine auNd ?_ | refine idx_nat (by omega) (fun x hx => ?_) | refine frz_auto ?_ | refine draw_plain ?_ | refine auIx (fun x hx => ?_)); conv => whnf) | (refine both.mk ?_ ?_ <;> conv => whnf) | ((first | refine bx_idx ?_ | refine bx_intro (fun b hb => ?_)); conv => whnf)
   refine back_intro (by conv => whnf) rfl ⟨i + 1, gn, _, o, rfl, rfl, by omega, by rw [ht, ho]; simp, rfl⟩ ?_
   show P.length - ((i : Int) + 1).toNat < P.length - (i : Int).toNat
   omega
  ·have ho2 : o ++ [((i : Int) + 1, g0, ())] = liveGo 0 (p.pins.take (i + 1)) := by rw [ht, ← ho]; simp
   conv => whnf
   repeat' first | ((first | refine auTq ?_ | refine auFq ?_ | refine auIk ?_ | refine auIi ?_ | refine auT ?_ | refine auF ?_ | with_reducible first | refine auKt ?_ | refine auKf ?_ | refine auNt ?_ | refine auNf ?_ | refine auEt ?_ | refine auEf ?_); conv => whnf) | ((with_reducible first | refine br_dec ?_ ?_ | refine br_ndec ?_ ?_ | refine br_ne ?_ ?_ | refine br_eq ?_ ?_) <;> intro h <;> first | (exfalso; omega) | conv => whnf) | (refine br_intro ?_ ?_ <;> intro h <;> conv => whnf) | ((first | refine auNd ?_ | refine idx_nat (by omega) (fun x hx => ?_) | refine frz_auto ?_ | refine draw_plain ?_ | refine auIx (fun x hx => ?_)); conv => whnf) | (refine both.mk ?_ ?_ <;> conv => whnf) | ((first | refine bx_idx ?_ | refine bx_intro (fun b hb => ?_)); conv => whnf)
   refine back_intro (by conv => whnf) rfl ⟨i + 1, gn + 1, _, _, rfl, rfl, by omega, ?_, ?_⟩ ?_
   ·simp only [cast_self, List.take_length]
    exact ho2
   ·simp
   ·show P.length - ((i : Int) + 1).toNat < P.length - (i : Int).toNat
    omega
 ·have ho2 : o = liveGo 0 p.pins := by rw [ho, List.take_of_length_le (by omega)]
  conv => whnf
  repeat' first | ((first | refine auTq ?_ | refine auFq ?_ | refine auIk ?_ | refine auIi ?_ | refine auT ?_ | refine auF ?_ | with_reducible first | refine auKt ?_ | refine auKf ?_ | refine auNt ?_ | refine auNf ?_ | refine auEt ?_ | refine auEf ?_); conv => whnf) | ((with_reducible first | refine br_dec ?_ ?_ | refine br_ndec ?_ ?_ | refine br_ne ?_ ?_ | refine br_eq ?_ ?_) <;> intro h <;> first | (exfalso; omega) | conv => whnf) | (refine br_intro ?_ ?_ <;> intro h <;> conv => whnf) | ((first | refine auNd ?_ | refine idx_nat (by omega) (fun x hx => ?_) | refine frz_auto ?_ | refine draw_plain ?_ | refine auIx (fun x hx => ?_)); conv => whnf) | (refine both.mk ?_ ?_ <;> conv => whnf) | ((first | refine bx_idx ?_ | refine bx_intro (fun b hb => ?_)); conv => whnf)
  refine exA [0, 1, 2, 3, 4] ?_
  conv => whnf
  repeat' first | ((first | refine auTq ?_ | refine auFq ?_ | refine auIk ?_ | refine auIi ?_ | refine auT ?_ | refine auF ?_ | with_reducible first | refine auKt ?_ | refine auKf ?_ | refine auNt ?_ | refine auNf ?_ | refine auEt ?_ | refine auEf ?_); conv => whnf) | ((with_reducible first | refine br_dec ?_ ?_ | refine br_ndec ?_ ?_ | refine br_ne ?_ ?_ | refine br_eq ?_ ?_) <;> intro h <;> first | (exfalso; omega) | conv => whnf) | (refine br_intro ?_ ?_ <;> intro h <;> conv => whnf) | ((first | refine auNd ?_ | refine idx_nat (by omega) (fun x hx => ?_) | refine frz_auto ?_ | refine draw_plain ?_ | refine auIx (fun x hx => ?_)); conv => whnf) | (refine both.mk ?_ ?_ <;> conv => whnf) | ((first | refine bx_idx ?_ | refine bx_intro (fun b hb => ?_)); conv => whnf)
  have h9 := hK _ _ gP _ gC _ hr
  rw [← ho2] at h9
  rw [List.take_length]
  exact h9
def tcLiveA : LocA := fun ys h K => xP [.ptr 2 3] (fun p => p) (fun p => .lst hanT (liveGo 0 p.curs)) ys h K
set_option maxRecDepth 100000 in
set_option maxHeartbeats 4000000 in
theorem tcLive_ok : LocOk Try.prog 73 tcLiveA := by
 refine loc_body (C := cxL) mixed tbOk SpecsOk.nil callL fnOk_tcLive ?_
 rintro ys h0 K ⟨p, k, m0, m1, gP, P, gC, C, rfl, rfl, hw, hk, hr, hK⟩
 have hpl := hr.cl
 have hpl2 := hw.cl
 conv => whnf
 repeat' first | ((first | refine auTq ?_ | refine auFq ?_ | refine auIk ?_ | refine auIi ?_ | refine auT ?_ | refine auF ?_ | with_reducible first | refine auKt ?_ | refine auKf ?_ | refine auNt ?_ | refine auNf ?_ | refine auEt ?_ | refine auEf ?_); conv => whnf) | ((with_reducible first | refine br_dec ?_ ?_ | refine br_ndec ?_ ?_ | refine br_ne ?_ ?_ | refine br_eq ?_ ?_) <;> intro h <;> first | (exfalso; omega) | conv => whnf) | (refine br_intro ?_ ?_ <;> intro h <;> conv => whnf) | ((first | refine auNd ?_ | refine idx_nat (by omega) (fun x hx => ?_) | refine frz_auto ?_ | refine draw_plain ?_ | refine auIx (fun x hx => ?_)); conv => whnf) | (refine both.mk ?_ ?_ <;> conv => whnf) | ((first | refine bx_idx ?_ | refine bx_intro (fun b hb => ?_)); conv => whnf)
 refine loop_inv [] [3, 11] (fun vs h => ∃ (i gn n : Nat) (o : List hanT.El), vs = [.own 6 gn n, .int .i64 (i : Int)] ∧ h = XH m0 m1 p.hd gP P gC C ++ [.arr 63 hanT [] false 0, .arr 63 hanT o false gn] ∧ i ≤ C.length ∧ o = liveGo 0 (p.curs.take i) ∧ n = o.length) (fun vs _ => match vs with | [_, .int _ k] => C.length - k.toNat | _ => 0) ?_
 conv => whnf
 refine ⟨⟨0, 0, 0, [], rfl, rfl, Nat.zero_le _, rfl, rfl⟩, ?_⟩
 rintro vs h' - ⟨i, gn, n, o, rfl, rfl, hi, ho, rfl⟩
 by_cases hil : i < C.length
 ·obtain ⟨⟨g0, v⟩, hq⟩ : ∃ q, p.curs[i]? = some q := ⟨_, List.getElem?_eq_getElem (by rw [← hpl]; exact hil)⟩
  have ht := live_take (n := 0) hq
  have hlen : o.length ≤ 16 := by
   have : ∀ (l : List (Int × Option (List pairT.El × Int))) (n : Nat), (liveGo n l).length ≤ l.length := by
    intro l
    induction l with
    | nil => intro n; simp [liveGo]
    | cons q l ih => intro n; simp only [liveGo]; split <;> simp <;> have := ih (n + 1) <;> omega
   rw [ho]
   exact Nat.le_trans (this _ _) (by rw [List.length_take]; omega)
  rcases hr.cAt hq with ⟨rfl, hx⟩ | ⟨b, m, a, rfl, hx, _⟩
  ·conv => whnf
   repeat' first | ((first | refine auTq ?_ | refine auFq ?_ | refine auIk ?_ | refine auIi ?_ | refine auT ?_ | refine auF ?_ | with_reducible first | refine auKt ?_ | refine auKf ?_ | refine auNt ?_ | refine auNf ?_ | refine auEt ?_ | refine auEf ?_); conv => whnf) | ((with_reducible first | refine br_dec ?_ ?_ | refine br_ndec ?_ ?_ | refine br_ne ?_ ?_ | refine br_eq ?_ ?_) <;> intro h <;> first | (exfalso; omega) | conv => whnf) | (refine br_intro ?_ ?_ <;> intro h <;> conv => whnf) | ((first | refine auNd ?_ | refine idx_nat (by omega) (fun x hx => ?_) | refine frz_auto ?_ | refine draw_plain ?_ | refine auIx (fun x hx => ?_)); conv => whnf) | (refine both.mk ?_ ?_ <;> conv => whnf) | ((first | refine bx_idx ?_ | refine bx_intro (fun b hb => ?_)); conv => whnf)
   refine back_intro (by conv => whnf) rfl ⟨i + 1, gn, _, o, rfl, rfl, by omega, by rw [ht, ho]; simp, rfl⟩ ?_
   show C.length - ((i : Int) + 1).toNat < C.length - (i : Int).toNat
   omega
  ·have ho2 : o ++ [((i : Int) + 1, g0, ())] = liveGo 0 (p.curs.take (i + 1)) := by rw [ht, ← ho]; simp
   conv => whnf
   repeat' first | ((first | refine auTq ?_ | refine auFq ?_ | refine auIk ?_ | refine auIi ?_ | refine auT ?_ | refine auF ?_ | with_reducible first | refine auKt ?_ | refine auKf ?_ | refine auNt ?_ | refine auNf ?_ | refine auEt ?_ | refine auEf ?_); conv => whnf) | ((with_reducible first | refine br_dec ?_ ?_ | refine br_ndec ?_ ?_ | refine br_ne ?_ ?_ | refine br_eq ?_ ?_) <;> intro h <;> first | (exfalso; omega) | conv => whnf) | (refine br_intro ?_ ?_ <;> intro h <;> conv => whnf) | ((first | refine auNd ?_ | refine idx_nat (by omega) (fun x hx => ?_) | refine frz_auto ?_ | refine draw_plain ?_ | refine auIx (fun x hx => ?_)); conv => whnf) | (refine both.mk ?_ ?_ <;> conv => whnf) | ((first | refine bx_idx ?_ | refine bx_intro (fun b hb => ?_)); conv => whnf)
   refine back_intro (by conv => whnf) rfl ⟨i + 1, gn + 1, _, _, rfl, rfl, by omega, ?_, ?_⟩ ?_
   ·simp only [cast_self, List.take_length]
    exact ho2
   ·simp
   ·show C.length - ((i : Int) + 1).toNat < C.length - (i : Int).toNat
    omega
 ·have ho2 : o = liveGo 0 p.curs := by rw [ho, List.take_of_length_le (by omega)]
  conv => whnf
  repeat' first | ((first | refine auTq ?_ | refine auFq ?_ | refine auIk ?_ | refine auIi ?_ | refine auT ?_ | refine auF ?_ | with_reducible first | refine auKt ?_ | refine auKf ?_ | refine auNt ?_ | refine auNf ?_ | refine auEt ?_ | refine auEf ?_); conv => whnf) | ((with_reducible first | refine br_dec ?_ ?_ | refine br_ndec ?_ ?_ | refine br_ne ?_ ?_ | refine br_eq ?_ ?_) <;> intro h <;> first | (exfalso; omega) | conv => whnf) | (refine br_intro ?_ ?_ <;> intro h <;> conv => whnf) | ((first | refine auNd ?_ | refine idx_nat (by omega) (fun x hx => ?_) | refine frz_auto ?_ | refine draw_plain ?_ | refine auIx (fun x hx => ?_)); conv => whnf) | (refine both.mk ?_ ?_ <;> conv => whnf) | ((first | refine bx_idx ?_ | refine bx_intro (fun b hb => ?_)); conv => whnf)
  refine exA [0, 1, 2, 3, 4] ?_
  conv => whnf
  repeat' first | ((first | refine auTq ?_ | refine auFq ?_ | refine auIk ?_ | refine auIi ?_ | refine auT ?_ | refine auF ?_ | with_reducible first | refine auKt ?_ | refine auKf ?_ | refine auNt ?_ | refine auNf ?_ | refine auEt ?_ | refine auEf ?_); conv => whnf) | ((with_reducible first | refine br_dec ?_ ?_ | refine br_ndec ?_ ?_ | refine br_ne ?_ ?_ | refine br_eq ?_ ?_) <;> intro h <;> first | (exfalso; omega) | conv => whnf) | (refine br_intro ?_ ?_ <;> intro h <;> conv => whnf) | ((first | refine auNd ?_ | refine idx_nat (by omega) (fun x hx => ?_) | refine frz_auto ?_ | refine draw_plain ?_ | refine auIx (fun x hx => ?_)); conv => whnf) | (refine both.mk ?_ ?_ <;> conv => whnf) | ((first | refine bx_idx ?_ | refine bx_intro (fun b hb => ?_)); conv => whnf)
  have h9 := hK _ _ gP _ gC _ hr
  rw [← ho2] at h9
  rw [List.take_length]
  exact h9
noncomputable def cxO : Cx := ⟨tb, [(71, Try.f71)], [(30, .d spPt5)]⟩
theorem specsO : SpecsOk Try.prog cxO.specs := .cons mPart_ok .nil
theorem fnsO : FnsOk Try.prog cxO.fns := .cons fnOk_xNone .nil
def locO : List (FuncId × LocA) := [(75, xVerA), (84, tpGiveA), (76, tcGiveA), (72, tpLiveA), (73, tcLiveA)]
theorem locOk : LocsOk Try.prog locO := .cons xVer_ok (.cons tpGive_ok (.cons tcGive_ok (.cons tpLive_ok (.cons tcLive_ok .nil))))
theorem callO : CallOk Try.prog (callM cxO locO 3) := callM_ok mixed tbOk specsO fnsO locOk 3
def xPinA : LocA := fun ys h K => xP [.ptr 2 0] (fun p => p.pinN) (fun p => .tup [.agg [.int .i64 (giveH p.pins).1.1, .int .i64 (giveH p.pins).1.2], .int .i64 (giveH p.pins).2]) ys h K
set_option maxRecDepth 100000 in
set_option maxHeartbeats 4000000 in
theorem xPin_ok : LocOk Try.prog 47 xPinA := by
 refine loc_body (C := cxO) mixed tbOk specsO callO fnOk_xPin ?_
 rintro ys h0 K ⟨p, k, m0, m1, gP, P, gC, C, rfl, rfl, hw, hk, hr, hK⟩
 conv => whnf
 repeat' first | ((first | refine auTq ?_ | refine auFq ?_ | refine auIk ?_ | refine auIi ?_ | refine auT ?_ | refine auF ?_ | with_reducible first | refine auKt ?_ | refine auKf ?_ | refine auNt ?_ | refine auNf ?_ | refine auEt ?_ | refine auEf ?_); conv => whnf) | ((with_reducible first | refine br_dec ?_ ?_ | refine br_ndec ?_ ?_ | refine br_ne ?_ ?_ | refine br_eq ?_ ?_) <;> intro h <;> first | (exfalso; omega) | conv => whnf) | (refine br_intro ?_ ?_ <;> intro h <;> conv => whnf) | ((first | refine auNd ?_ | refine idx_nat (by omega) (fun x hx => ?_) | refine frz_auto ?_ | refine draw_plain ?_ | refine auIx (fun x hx => ?_)); conv => whnf) | (refine both.mk ?_ ?_ <;> conv => whnf) | ((first | refine bx_idx ?_ | refine bx_intro (fun b hb => ?_)); conv => whnf)
 refine .mk [0, 1, 2, 3, 4] ?_
 conv => whnf
 refine ⟨p.hd, .mk p k m0 m1 gP P gC C rfl rfl hw hk hr ?_⟩
 intro m0' m1' gP' P' gC' C' hr'
 conv => whnf
 repeat' first | ((first | refine auTq ?_ | refine auFq ?_ | refine auIk ?_ | refine auIi ?_ | refine auT ?_ | refine auF ?_ | with_reducible first | refine auKt ?_ | refine auKf ?_ | refine auNt ?_ | refine auNf ?_ | refine auEt ?_ | refine auEf ?_); conv => whnf) | ((with_reducible first | refine br_dec ?_ ?_ | refine br_ndec ?_ ?_ | refine br_ne ?_ ?_ | refine br_eq ?_ ?_) <;> intro h <;> first | (exfalso; omega) | conv => whnf) | (refine br_intro ?_ ?_ <;> intro h <;> conv => whnf) | ((first | refine auNd ?_ | refine idx_nat (by omega) (fun x hx => ?_) | refine frz_auto ?_ | refine draw_plain ?_ | refine auIx (fun x hx => ?_)); conv => whnf) | (refine both.mk ?_ ?_ <;> conv => whnf) | ((first | refine bx_idx ?_ | refine bx_intro (fun b hb => ?_)); conv => whnf)
 refine exA [0, 1, 2, 3, 4] ?_
 conv => whnf
 exact hK _ _ _ _ _ _ hr'
def xOpenA : LocA := fun ys h K => ∃ (i g : Int) (lo hi : ByteArray) (bd : Bool), xP [.ptr 2 0, .agg [.int .i64 i, .int .i64 g], .agg [.str lo, .str hi, .bool bd]] (fun p => p.openN i g lo hi bd) (fun p => .tup [.agg [.int .i64 (p.openR i g lo hi bd).1.1, .int .i64 (p.openR i g lo hi bd).1.2], .int .i64 (p.openR i g lo hi bd).2]) ys h K
set_option maxRecDepth 100000 in
set_option maxHeartbeats 4000000 in
theorem xOpen_ok : LocOk Try.prog 41 xOpenA := by
 refine loc_body (C := cxO) mixed tbOk specsO callO fnOk_xOpen ?_
 rintro ys h0 K ⟨i, g, lo, hi, bd, p, k, m0, m1, gP, P, gC, C, rfl, rfl, hw, hk, hr, hK⟩
 have hfit := mapR_fit hw i g
 have hf1 : (p.mapR i g).1.length ≤ 4611686018427387904 := Nat.le_trans hfit.len (by decide)
 by_cases he : (p.mapR i g).2 = 0
 ·by_cases hr0 : rgE lo hi bd = 0
  ·have eo : p.openE i g lo hi bd = 0 := by unfold PM.openE; rw [if_neg (by simpa using he)]; exact hr0
   have eN : p.openN i g lo hi bd = { p with curs := giveL p.curs (partR (p.mapR i g).1 lo hi bd, 0) } := if_pos eo
   have eR : p.openR i g lo hi bd = giveH p.curs := if_pos eo
   rw [eN, eR] at hK
   have ept : ptR (p.mapR i g).1 lo hi bd = (partR (p.mapR i g).1 lo hi bd, 0) := pt_ok hfit.ok hr0
   have ept2 : (ptR (p.mapR i g).1 lo hi bd).2 = 0 := by rw [ept]
   conv => whnf
   repeat' first | ((first | refine auTq ?_ | refine auFq ?_ | refine auIk ?_ | refine auIi ?_ | refine auT ?_ | refine auF ?_ | with_reducible first | refine auKt ?_ | refine auKf ?_ | refine auNt ?_ | refine auNf ?_ | refine auEt ?_ | refine auEf ?_); conv => whnf) | ((with_reducible first | refine br_dec ?_ ?_ | refine br_ndec ?_ ?_ | refine br_ne ?_ ?_ | refine br_eq ?_ ?_) <;> intro h <;> first | (exfalso; omega) | conv => whnf) | (refine br_intro ?_ ?_ <;> intro h <;> conv => whnf) | ((first | refine auNd ?_ | refine idx_nat (by omega) (fun x hx => ?_) | refine frz_auto ?_ | refine draw_plain ?_ | refine auIx (fun x hx => ?_)); conv => whnf) | (refine both.mk ?_ ?_ <;> conv => whnf) | ((first | refine bx_idx ?_ | refine bx_intro (fun b hb => ?_)); conv => whnf)
   refine .mk [0, 1, 2, 3, 4] ?_
   conv => whnf
   refine ⟨i, g, .mk p k m0 m1 gP P gC C rfl rfl hw hk hr ?_⟩
   rintro m0 m1 gP P gC C hr
   conv => whnf
   repeat' first | ((first | refine auTq ?_ | refine auFq ?_ | refine auIk ?_ | refine auIi ?_ | refine auT ?_ | refine auF ?_ | with_reducible first | refine auKt ?_ | refine auKf ?_ | refine auNt ?_ | refine auNf ?_ | refine auEt ?_ | refine auEf ?_); conv => whnf) | ((with_reducible first | refine br_dec ?_ ?_ | refine br_ndec ?_ ?_ | refine br_ne ?_ ?_ | refine br_eq ?_ ?_) <;> intro h <;> first | (exfalso; omega) | conv => whnf) | (refine br_intro ?_ ?_ <;> intro h <;> conv => whnf) | ((first | refine auNd ?_ | refine idx_nat (by omega) (fun x hx => ?_) | refine frz_auto ?_ | refine draw_plain ?_ | refine auIx (fun x hx => ?_)); conv => whnf) | (refine both.mk ?_ ?_ <;> conv => whnf) | ((first | refine bx_idx ?_ | refine bx_intro (fun b hb => ?_)); conv => whnf)
   refine .mk [0, 1, 2, 3, 4] ?_
   conv => whnf
   refine ⟨(ptR (p.mapR i g).1 lo hi bd).1, .mk p k m0 m1 gP P gC C rfl rfl hw hk hr ?_⟩
   rintro m0 m1 gP P gC C hr
   conv => whnf
   repeat' first | ((first | refine auTq ?_ | refine auFq ?_ | refine auIk ?_ | refine auIi ?_ | refine auT ?_ | refine auF ?_ | with_reducible first | refine auKt ?_ | refine auKf ?_ | refine auNt ?_ | refine auNf ?_ | refine auEt ?_ | refine auEf ?_); conv => whnf) | ((with_reducible first | refine br_dec ?_ ?_ | refine br_ndec ?_ ?_ | refine br_ne ?_ ?_ | refine br_eq ?_ ?_) <;> intro h <;> first | (exfalso; omega) | conv => whnf) | (refine br_intro ?_ ?_ <;> intro h <;> conv => whnf) | ((first | refine auNd ?_ | refine idx_nat (by omega) (fun x hx => ?_) | refine frz_auto ?_ | refine draw_plain ?_ | refine auIx (fun x hx => ?_)); conv => whnf) | (refine both.mk ?_ ?_ <;> conv => whnf) | ((first | refine bx_idx ?_ | refine bx_intro (fun b hb => ?_)); conv => whnf)
   refine exA [0, 1, 2, 3, 4] ?_
   conv => whnf
   rw [ept] at hr
   exact hK _ _ _ _ _ _ hr
  ·have eo : p.openE i g lo hi bd = rgE lo hi bd := by unfold PM.openE; rw [if_neg (by simpa using he)]
   have eN : p.openN i g lo hi bd = p := if_neg (by rw [eo]; exact hr0)
   have eR : p.openR i g lo hi bd = ((0, 0), rgE lo hi bd) := by unfold PM.openR; rw [if_neg (by rw [eo]; exact hr0), eo]
   rw [eN, eR] at hK
   have ept : ptR (p.mapR i g).1 lo hi bd = ([], rgE lo hi bd) := pt_r hfit.ok hr0
   have ept2 : (ptR (p.mapR i g).1 lo hi bd).2 ≠ 0 := by rw [ept]; exact hr0
   conv => whnf
   repeat' first | ((first | refine auTq ?_ | refine auFq ?_ | refine auIk ?_ | refine auIi ?_ | refine auT ?_ | refine auF ?_ | with_reducible first | refine auKt ?_ | refine auKf ?_ | refine auNt ?_ | refine auNf ?_ | refine auEt ?_ | refine auEf ?_); conv => whnf) | ((with_reducible first | refine br_dec ?_ ?_ | refine br_ndec ?_ ?_ | refine br_ne ?_ ?_ | refine br_eq ?_ ?_) <;> intro h <;> first | (exfalso; omega) | conv => whnf) | (refine br_intro ?_ ?_ <;> intro h <;> conv => whnf) | ((first | refine auNd ?_ | refine idx_nat (by omega) (fun x hx => ?_) | refine frz_auto ?_ | refine draw_plain ?_ | refine auIx (fun x hx => ?_)); conv => whnf) | (refine both.mk ?_ ?_ <;> conv => whnf) | ((first | refine bx_idx ?_ | refine bx_intro (fun b hb => ?_)); conv => whnf)
   refine .mk [0, 1, 2, 3, 4] ?_
   conv => whnf
   refine ⟨i, g, .mk p k m0 m1 gP P gC C rfl rfl hw hk hr ?_⟩
   rintro m0 m1 gP P gC C hr
   conv => whnf
   repeat' first | ((first | refine auTq ?_ | refine auFq ?_ | refine auIk ?_ | refine auIi ?_ | refine auT ?_ | refine auF ?_ | with_reducible first | refine auKt ?_ | refine auKf ?_ | refine auNt ?_ | refine auNf ?_ | refine auEt ?_ | refine auEf ?_); conv => whnf) | ((with_reducible first | refine br_dec ?_ ?_ | refine br_ndec ?_ ?_ | refine br_ne ?_ ?_ | refine br_eq ?_ ?_) <;> intro h <;> first | (exfalso; omega) | conv => whnf) | (refine br_intro ?_ ?_ <;> intro h <;> conv => whnf) | ((first | refine auNd ?_ | refine idx_nat (by omega) (fun x hx => ?_) | refine frz_auto ?_ | refine draw_plain ?_ | refine auIx (fun x hx => ?_)); conv => whnf) | (refine both.mk ?_ ?_ <;> conv => whnf) | ((first | refine bx_idx ?_ | refine bx_intro (fun b hb => ?_)); conv => whnf)
   refine exA [0, 1, 2, 3, 4] ?_
   conv => whnf
   rw [ept]
   exact hK _ _ _ _ _ _ hr
 ·have eo : p.openE i g lo hi bd = (p.mapR i g).2 := by unfold PM.openE; rw [if_pos (by simpa using he)]
  have eN : p.openN i g lo hi bd = p := if_neg (by rw [eo]; exact he)
  have eR : p.openR i g lo hi bd = ((0, 0), (p.mapR i g).2) := by unfold PM.openR; rw [if_neg (by rw [eo]; exact he), eo]
  rw [eN, eR] at hK
  conv => whnf
  repeat' first | ((first | refine auTq ?_ | refine auFq ?_ | refine auIk ?_ | refine auIi ?_ | refine auT ?_ | refine auF ?_ | with_reducible first | refine auKt ?_ | refine auKf ?_ | refine auNt ?_ | refine auNf ?_ | refine auEt ?_ | refine auEf ?_); conv => whnf) | ((with_reducible first | refine br_dec ?_ ?_ | refine br_ndec ?_ ?_ | refine br_ne ?_ ?_ | refine br_eq ?_ ?_) <;> intro h <;> first | (exfalso; omega) | conv => whnf) | (refine br_intro ?_ ?_ <;> intro h <;> conv => whnf) | ((first | refine auNd ?_ | refine idx_nat (by omega) (fun x hx => ?_) | refine frz_auto ?_ | refine draw_plain ?_ | refine auIx (fun x hx => ?_)); conv => whnf) | (refine both.mk ?_ ?_ <;> conv => whnf) | ((first | refine bx_idx ?_ | refine bx_intro (fun b hb => ?_)); conv => whnf)
  refine .mk [0, 1, 2, 3, 4] ?_
  conv => whnf
  refine ⟨i, g, .mk p k m0 m1 gP P gC C rfl rfl hw hk hr ?_⟩
  rintro m0 m1 gP P gC C hr
  conv => whnf
  repeat' first | ((first | refine auTq ?_ | refine auFq ?_ | refine auIk ?_ | refine auIi ?_ | refine auT ?_ | refine auF ?_ | with_reducible first | refine auKt ?_ | refine auKf ?_ | refine auNt ?_ | refine auNf ?_ | refine auEt ?_ | refine auEf ?_); conv => whnf) | ((with_reducible first | refine br_dec ?_ ?_ | refine br_ndec ?_ ?_ | refine br_ne ?_ ?_ | refine br_eq ?_ ?_) <;> intro h <;> first | (exfalso; omega) | conv => whnf) | (refine br_intro ?_ ?_ <;> intro h <;> conv => whnf) | ((first | refine auNd ?_ | refine idx_nat (by omega) (fun x hx => ?_) | refine frz_auto ?_ | refine draw_plain ?_ | refine auIx (fun x hx => ?_)); conv => whnf) | (refine both.mk ?_ ?_ <;> conv => whnf) | ((first | refine bx_idx ?_ | refine bx_intro (fun b hb => ?_)); conv => whnf)
  refine exA [0, 1, 2, 3, 4] ?_
  conv => whnf
  exact hK _ _ _ _ _ _ hr
def xLiveA : LocA := fun ys h K => xP [.ptr 2 0] (fun p => p) (fun p => .tup [.lst hanT (liveGo 0 p.pins), .lst hanT (liveGo 0 p.curs)]) ys h K
set_option maxRecDepth 100000 in
set_option maxHeartbeats 4000000 in
theorem xLive_ok : LocOk Try.prog 36 xLiveA := by
 refine loc_body (C := cxO) mixed tbOk specsO callO fnOk_xLive ?_
 rintro ys h0 K ⟨p, k, m0, m1, gP, P, gC, C, rfl, rfl, hw, hk, hr, hK⟩
 conv => whnf
 repeat' first | ((first | refine auTq ?_ | refine auFq ?_ | (refine frP.mk [0, 1, 2, 3, 4] ?_; (conv => whnf); refine xP.mk p k _ _ _ _ _ _ rfl rfl hw hk (by assumption) ?_; rintro _ _ _ _ _ _ hr9) | refine auIk ?_ | refine auIi ?_ | refine auT ?_ | refine auF ?_ | with_reducible first | refine auKt ?_ | refine auKf ?_ | refine auNt ?_ | refine auNf ?_ | refine auEt ?_ | refine auEf ?_); conv => whnf) | ((with_reducible first | refine br_dec ?_ ?_ | refine br_ndec ?_ ?_ | refine br_ne ?_ ?_ | refine br_eq ?_ ?_) <;> intro h <;> first | (exfalso; omega) | conv => whnf) | (refine br_intro ?_ ?_ <;> intro h <;> conv => whnf) | ((first | refine auNd ?_ | refine idx_nat (by omega) (fun x hx => ?_) | refine frz_auto ?_ | refine draw_plain ?_ | refine auIx (fun x hx => ?_)); conv => whnf) | (refine both.mk ?_ ?_ <;> conv => whnf) | ((first | refine bx_idx ?_ | refine bx_intro (fun b hb => ?_)); conv => whnf)
 all_goals
  refine exA [0, 1, 2, 3, 4] ?_
  conv => whnf
  exact hK _ _ _ _ _ _ (by assumption)
end Go.Proofs.Ytbbklijmnknmhaa
