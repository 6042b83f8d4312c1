/-
  The reference's calls, each with its memory alone: Pin, Open, Live.
-/
import Derived.Test.YtbbklijmnknmhaaYw
namespace Go.Proofs.Ytbbklijmnknmhaa
open Av Bk

def freeQ : List rsT.El → Nat
 | [] => 0
 | q :: l => if q.2.1 = true then freeQ l + 1 else 0
def giveQ (Q : List rsT.El) (m : List pairT.El) : List rsT.El := match Q[freeQ Q]? with
 | some q => Q.set (freeQ Q) (q.1 + 1, true, m, 0, ())
 | none => if Q.length = 16 then Q else Q ++ [(1, true, m, 0, ())]
def giveQH (Q : List rsT.El) : (Int × Int) × Bool := match Q[freeQ Q]? with
 | some q => (((freeQ Q : Int) + 1, q.1 + 1), true)
 | none => if Q.length = 16 then ((0, 0), false) else (((Q.length : Int) + 1, 1), true)
inductive rGiveP (ys : List AV) (h : Hp) (K : AV → Hp → Prop) : Prop where
 | mk (gQ : Nat) (Q : List rsT.El) (m : List pairT.El) (hy : ys = [.own 0 gQ Q.length, .int .i64 16, .lst pairT m]) (hh : h = [.arr 128 rsT Q false gQ]) (hl : Q.length ≤ 16) (hm : m.length ≤ 4000) (hq : ∀ q ∈ Q, 0 ≤ q.1 ∧ q.1 ≤ 1000000)
  (hK : ∀ g', ((giveQH Q).2 = false → g' = gQ) → K (.tup [.own 0 g' (giveQ Q m).length, .agg [.int .i64 (giveQH Q).1.1, .int .i64 (giveQH Q).1.2], .bool (giveQH Q).2]) [.arr 128 rsT (giveQ Q m) false g']) : rGiveP ys h K
def rGiveA : LocA := fun ys h K => rGiveP ys h K
theorem freeQ_at : ∀ {l : List rsT.El} {i : Nat} {q : rsT.El}, (∀ y ∈ l.take i, y.2.1 = true) → l[i]? = some q → q.2.1 = false → freeQ l = i
 | [], i, q, _, h, _ => by simp at h
 | y :: l, 0, q, _, h, hq => by
  simp at h
  subst h
  simp only [freeQ]
  rw [if_neg (by rw [hq]; decide)]
 | y :: l, i + 1, q, ha, h, hq => by
  simp only [freeQ]
  rw [if_pos (ha y (by simp)), freeQ_at (i := i) (fun z hz => ha z (by rw [List.take_succ_cons]; exact List.mem_cons_of_mem _ hz)) (by simpa using h) hq]
theorem freeQ_end : ∀ {l : List rsT.El}, (∀ y ∈ l, y.2.1 = true) → freeQ l = l.length
 | [], _ => rfl
 | y :: l, ha => by
  simp only [freeQ]
  rw [if_pos (ha y (by simp)), freeQ_end (fun z hz => ha z (by simp [hz]))]
  rfl
theorem K_give {K : AV → Hp → Prop} {a a' : AV} {h h' : Hp} (hk : K a h) (e1 : a = a') (e2 : h = h') : K a' h' := e1 ▸ e2 ▸ hk
set_option maxRecDepth 100000 in
set_option maxHeartbeats 4000000 in
theorem rGive_ok : LocOk Try.prog 93 rGiveA := by
 refine loc_bodyN (C := cx0) mixed tbOk SpecsOk.nil (callN_ok (C := cx0) mixed tbOk SpecsOk.nil FnsOk.nil 0) fnOk_rGive ?_
 rintro ys h0 K ⟨gQ, Q, m, rfl, rfl, hl, hm, hq, hK⟩
 conv => whnf
 repeat' first | ((first | refine auTq ?_ | refine auFq ?_ | refine auIk ?_ | refine auIi ?_ | refine auT ?_ | refine auF ?_ | with_reducible first | refine auKt ?_ | refine auKf ?_ | refine auNt ?_ | refine auNf ?_ | refine auEt ?_ | refine auEf ?_); conv => whnf) | ((with_reducible first | refine br_dec ?_ ?_ | refine br_ndec ?_ ?_ | refine br_ne ?_ ?_ | refine br_eq ?_ ?_) <;> intro h <;> first | (exfalso; omega) | conv => whnf) | (refine br_intro ?_ ?_ <;> intro h <;> conv => whnf) | ((first | refine auNd ?_ | refine idx_nat (by omega) (fun x hx => ?_) | refine frz_auto ?_ | refine draw_plain ?_ | refine auIx (fun x hx => ?_)); conv => whnf) | (refine both.mk ?_ ?_ <;> conv => whnf) | ((first | refine bx_idx ?_ | refine bx_intro (fun b hb => ?_)); conv => whnf)
 refine loop_inv [] [9] (fun vs h => ∃ i : Nat, vs = [.int .i64 (i : Int)] ∧ h = [.arr 128 rsT Q false gQ, .arr 128 rsT [] false 0, .cells 63 [.int .i64 0, .int .i64 0]] ∧ i ≤ Q.length ∧ ∀ y ∈ Q.take i, y.2.1 = true) (fun vs _ => match vs with | [.int _ k] => Q.length - k.toNat | _ => 0) ?_
 conv => whnf
 refine ⟨⟨0, rfl, rfl, Nat.zero_le _, by simp⟩, ?_⟩
 rintro vs h' - ⟨i, rfl, rfl, hi, hall⟩
 by_cases hil : i < Q.length
 ·obtain ⟨⟨g, hd, m0, a0, u0⟩, hx⟩ : ∃ x : Int × Bool × List pairT.El × Int × Unit, Q[i]? = some x := ⟨_, List.getElem?_eq_getElem hil⟩
  obtain ⟨hg0, hg1⟩ : 0 ≤ g ∧ g ≤ 1000000 := hq _ (List.mem_of_getElem? hx)
  cases hd with
  | false =>
   have hf := freeQ_at hall hx rfl
   have e1 : giveQ Q m = Q.set i (g + 1, true, m, 0, ()) := by unfold giveQ; rw [hf, hx]
   have e2 : giveQH Q = (((i : Int) + 1, g + 1), true) := by unfold giveQH; rw [hf, hx]
   rw [e1, e2] at hK
   have hc : (((i : Nat) : Int)) ≠ 16 := by omega
   have q1 : (Q.set ((i : Nat) : Int).toNat (g + 1, true, List.take m.length m, 0, ()))[((i : Nat) : Int).toNat]? = some (g + 1, true, List.take m.length m, 0, ()) := get_set (by rw [Int.toNat_natCast]; exact hil)
   have q2 : (Q.set ((i : Nat) : Int).toNat (g + 1, true, m, 0, ()))[((i : Nat) : Int).toNat]? = some (g + 1, true, m, 0, ()) := get_set (by rw [Int.toNat_natCast]; exact hil)
   conv => whnf
   repeat' first | ((first | refine auTq ?_ | refine auFq ?_ | refine auIk ?_ | refine auIi ?_ | refine auT ?_ | refine auF ?_ | with_reducible first | refine auKt ?_ | refine auKf ?_ | refine auNt ?_ | refine auNf ?_ | refine auEt ?_ | refine auEf ?_); conv => whnf) | ((with_reducible first | refine br_dec ?_ ?_ | refine br_ndec ?_ ?_ | refine br_ne ?_ ?_ | refine br_eq ?_ ?_) <;> intro h <;> first | (exfalso; omega) | conv => whnf) | (refine br_intro ?_ ?_ <;> intro h <;> conv => whnf) | ((first | refine auNd ?_ | refine idx_nat (by omega) (fun x hx => ?_) | refine frz_auto ?_ | refine draw_plain ?_ | refine auIx (fun x hx => ?_)); conv => whnf) | (refine both.mk ?_ ?_ <;> conv => whnf) | ((first | refine bx_idx ?_ | refine bx_intro (fun b hb => ?_)); conv => whnf)
   all_goals
    refine .mk [0] ?_
    conv => whnf
    refine K_give (hK gQ (fun h => by cases h)) ?_ ?_
    ·simp only [List.length_set]
    ·simp only [cast_self, List.take_zero, List.nil_append, Nat.zero_add, List.take_length, Int.toNat_natCast]
  | true =>
   conv => whnf
   repeat' first | ((first | refine auTq ?_ | refine auFq ?_ | refine auIk ?_ | refine auIi ?_ | refine auT ?_ | refine auF ?_ | with_reducible first | refine auKt ?_ | refine auKf ?_ | refine auNt ?_ | refine auNf ?_ | refine auEt ?_ | refine auEf ?_); conv => whnf) | ((with_reducible first | refine br_dec ?_ ?_ | refine br_ndec ?_ ?_ | refine br_ne ?_ ?_ | refine br_eq ?_ ?_) <;> intro h <;> first | (exfalso; omega) | conv => whnf) | (refine br_intro ?_ ?_ <;> intro h <;> conv => whnf) | ((first | refine auNd ?_ | refine idx_nat (by omega) (fun x hx => ?_) | refine frz_auto ?_ | refine draw_plain ?_ | refine auIx (fun x hx => ?_)); conv => whnf) | (refine both.mk ?_ ?_ <;> conv => whnf) | ((first | refine bx_idx ?_ | refine bx_intro (fun b hb => ?_)); conv => whnf)
   refine back_intro (by conv => whnf) rfl ⟨i + 1, rfl, rfl, by omega, ?_⟩ ?_
   ·intro y hy
    rw [List.take_add_one, hx] at hy
    rcases List.mem_append.1 hy with hy | hy
    ·exact hall y hy
    ·simp at hy
     subst hy
     rfl
   ·show Q.length - ((i : Int) + 1).toNat < Q.length - (i : Int).toNat
    omega
 ·have hie : i = Q.length := by omega
  subst hie
  have hf := freeQ_end (fun y hy => hall y (by rw [List.take_of_length_le (by omega)]; exact hy))
  by_cases h16 : Q.length = 16
  ·have e1 : giveQ Q m = Q := by unfold giveQ; rw [hf, List.getElem?_eq_none (by omega)]; exact if_pos h16
   have e2 : giveQH Q = ((0, 0), false) := by unfold giveQH; rw [hf, List.getElem?_eq_none (by omega)]; exact if_pos h16
   rw [e1, e2] at hK
   have hc : ((Q.length : Nat) : Int) = 16 := by omega
   conv => whnf
   repeat' first | ((first | refine auTq ?_ | refine auFq ?_ | refine auIk ?_ | refine auIi ?_ | refine auT ?_ | refine auF ?_ | with_reducible first | refine auKt ?_ | refine auKf ?_ | refine auNt ?_ | refine auNf ?_ | refine auEt ?_ | refine auEf ?_); conv => whnf) | ((with_reducible first | refine br_dec ?_ ?_ | refine br_ndec ?_ ?_ | refine br_ne ?_ ?_ | refine br_eq ?_ ?_) <;> intro h <;> first | (exfalso; omega) | conv => whnf) | (refine br_intro ?_ ?_ <;> intro h <;> conv => whnf) | ((first | refine auNd ?_ | refine idx_nat (by omega) (fun x hx => ?_) | refine frz_auto ?_ | refine draw_plain ?_ | refine auIx (fun x hx => ?_)); conv => whnf) | (refine both.mk ?_ ?_ <;> conv => whnf) | ((first | refine bx_idx ?_ | refine bx_intro (fun b hb => ?_)); conv => whnf)
   all_goals
    refine .mk [0] ?_
    conv => whnf
    exact hK _ (fun _ => rfl)
  ·have e1 : giveQ Q m = Q ++ [(1, true, m, 0, ())] := by unfold giveQ; rw [hf, List.getElem?_eq_none (by omega)]; exact if_neg h16
   have e2 : giveQH Q = (((Q.length : Int) + 1, 1), true) := by unfold giveQH; rw [hf, List.getElem?_eq_none (by omega)]; exact if_neg h16
   rw [e1, e2] at hK
   have hc : ((Q.length : Nat) : Int) ≠ 16 := by omega
   have q0 : (List.take Q.length Q ++ [((0 : Int), false, ([] : List pairT.El), (0 : Int), ())])[(Q.length : Int).toNat]? = some (0, false, [], 0, ()) := by rw [List.take_length]; exact get_app
   have q1 : ((List.take Q.length Q ++ [((0 : Int), false, ([] : List pairT.El), (0 : Int), ())]).set (Q.length : Int).toNat (0 + 1, true, m, 0, ()))[(Q.length : Int).toNat]? = some (0 + 1, true, m, 0, ()) := get_set (by simp)
   conv => whnf
   repeat' first | ((first | refine auTq ?_ | refine auFq ?_ | refine auIk ?_ | refine auIi ?_ | refine auT ?_ | refine auF ?_ | with_reducible first | refine auKt ?_ | refine auKf ?_ | refine auNt ?_ | refine auNf ?_ | refine auEt ?_ | refine auEf ?_); conv => whnf) | ((with_reducible first | refine br_dec ?_ ?_ | refine br_ndec ?_ ?_ | refine br_ne ?_ ?_ | refine br_eq ?_ ?_) <;> intro h <;> first | (exfalso; omega) | conv => whnf) | (refine br_intro ?_ ?_ <;> intro h <;> conv => whnf) | ((first | refine auNd ?_ | refine idx_nat (by omega) (fun x hx => ?_) | refine frz_auto ?_ | refine draw_plain ?_ | refine auIx (fun x hx => ?_)); conv => whnf) | (refine both.mk ?_ ?_ <;> conv => whnf) | ((first | refine bx_idx ?_ | refine bx_intro (fun b hb => ?_)); conv => whnf)
   all_goals
    refine .mk [0] ?_
    conv => whnf
    refine K_give (hK (gQ + 1) (fun h => by cases h)) ?_ ?_
    ·simp [set_app]
    ·simp [set_app, cast_self]
theorem freeQ_eq {β : Type} : ∀ {A : List rsT.El} {B : List (Int × Option β)}, A.length = B.length → (∀ (j : Nat) x q, A[j]? = some x → B[j]? = some q → q.2.isNone = !x.2.1) → freeQ A = freeI B
 | [], [], _, _ => rfl
 | [], _ :: _, h, _ => by simp at h
 | _ :: _, [], h, _ => by simp at h
 | a :: A, q :: B, h, hp => by
  simp only [freeQ, freeI]
  rw [hp 0 a q rfl rfl, freeQ_eq (A := A) (B := B) (by simpa using h) (fun j x q hx hq => hp (j + 1) x q (by simpa using hx) (by simpa using hq))]
  cases a.2.1 <;> rfl
section
variable {p : PM} {Q D : List rsT.El}
theorem YRel.pNone (h : YRel p Q D) : ∀ (j : Nat) x q, Q[j]? = some x → p.pins[j]? = some q → q.2.isNone = !x.2.1 := fun j x q hx hq => by
 rw [(h.pr j x q hx hq).2]
 cases x.2.1 <;> rfl
theorem YRel.cNone (h : YRel p Q D) : ∀ (j : Nat) x q, D[j]? = some x → p.curs[j]? = some q → q.2.isNone = !x.2.1 := fun j x q hx hq => by
 rw [(h.cr j x q hx hq).2]
 cases x.2.1 <;> rfl
theorem YRel.pGive (h : YRel p Q D) (m : List pairT.El) : YRel { p with pins := giveL p.pins m } (giveQ Q m) D ∧ (giveQH Q).1 = (giveH p.pins).1 ∧ (giveH p.pins).2 = (if (giveQH Q).2 = true then 0 else 5) := by
 have hf := freeQ_eq h.pl h.pNone
 have hle := freeI_le p.pins
 have hpl := h.pl
 by_cases hlt : freeI p.pins < p.pins.length
 ·obtain ⟨g, hg⟩ := freeI_at hlt
  obtain ⟨x, hx⟩ : ∃ x, Q[freeI p.pins]? = some x := ⟨_, List.getElem?_eq_getElem (by rw [hpl]; exact hlt)⟩
  have e0 := (h.pr _ _ _ hx hg).1
  have e0 : x.1 = g := e0
  obtain ⟨e1, e2⟩ := give_set hg m
  have e3 : giveQ Q m = Q.set (freeI p.pins) (g + 1, true, m, 0, ()) := by unfold giveQ; rw [hf, hx]; simp only [e0]
  have e4 : giveQH Q = (((freeI p.pins : Int) + 1, g + 1), true) := by unfold giveQH; rw [hf, hx]; simp only [e0]
  rw [e1, e2, e3, e4]
  exact ⟨h.pSet rfl rfl, rfl, rfl⟩
 ·have hfe : freeI p.pins = p.pins.length := by omega
  have hn : Q[freeQ Q]? = none := List.getElem?_eq_none (by omega)
  by_cases h16 : p.pins.length = 16
  ·obtain ⟨e1, e2⟩ := give_full hfe h16 m
   have e3 : giveQ Q m = Q := by unfold giveQ; rw [hn]; exact if_pos (hpl.trans h16)
   have e4 : giveQH Q = ((0, 0), false) := by unfold giveQH; rw [hn]; exact if_pos (hpl.trans h16)
   rw [e1, e2, e3, e4]
   exact ⟨h, rfl, rfl⟩
  ·obtain ⟨e1, e2⟩ := give_new hfe h16 m
   have e3 : giveQ Q m = Q ++ [(1, true, m, 0, ())] := by unfold giveQ; rw [hn]; exact if_neg (by rw [hpl]; exact h16)
   have e4 : giveQH Q = (((Q.length : Int) + 1, 1), true) := by unfold giveQH; rw [hn]; exact if_neg (by rw [hpl]; exact h16)
   rw [e1, e2, e3, e4, hpl]
   exact ⟨h.pApp rfl rfl, rfl, rfl⟩
theorem YRel.cGive (h : YRel p Q D) (m : List pairT.El) : YRel { p with curs := giveL p.curs (m, 0) } Q (giveQ D m) ∧ (giveQH D).1 = (giveH p.curs).1 ∧ (giveH p.curs).2 = (if (giveQH D).2 = true then 0 else 5) := by
 have hf := freeQ_eq h.cl h.cNone
 have hle := freeI_le p.curs
 have hpl := h.cl
 by_cases hlt : freeI p.curs < p.curs.length
 ·obtain ⟨g, hg⟩ := freeI_at hlt
  obtain ⟨x, hx⟩ : ∃ x, D[freeI p.curs]? = some x := ⟨_, List.getElem?_eq_getElem (by rw [hpl]; exact hlt)⟩
  have e0 := (h.cr _ _ _ hx hg).1
  have e0 : x.1 = g := e0
  obtain ⟨e1, e2⟩ := give_set hg (m, (0 : Int))
  have e3 : giveQ D m = D.set (freeI p.curs) (g + 1, true, m, 0, ()) := by unfold giveQ; rw [hf, hx]; simp only [e0]
  have e4 : giveQH D = (((freeI p.curs : Int) + 1, g + 1), true) := by unfold giveQH; rw [hf, hx]; simp only [e0]
  rw [e1, e2, e3, e4]
  exact ⟨h.cSet rfl rfl, rfl, rfl⟩
 ·have hfe : freeI p.curs = p.curs.length := by omega
  have hn : D[freeQ D]? = none := List.getElem?_eq_none (by omega)
  by_cases h16 : p.curs.length = 16
  ·obtain ⟨e1, e2⟩ := give_full hfe h16 (m, (0 : Int))
   have e3 : giveQ D m = D := by unfold giveQ; rw [hn]; exact if_pos (hpl.trans h16)
   have e4 : giveQH D = ((0, 0), false) := by unfold giveQH; rw [hn]; exact if_pos (hpl.trans h16)
   rw [e1, e2, e3, e4]
   exact ⟨h, rfl, rfl⟩
  ·obtain ⟨e1, e2⟩ := give_new hfe h16 (m, (0 : Int))
   have e3 : giveQ D m = D ++ [(1, true, m, 0, ())] := by unfold giveQ; rw [hn]; exact if_neg (by rw [hpl]; exact h16)
   have e4 : giveQH D = (((D.length : Int) + 1, 1), true) := by unfold giveQH; rw [hn]; exact if_neg (by rw [hpl]; exact h16)
   rw [e1, e2, e3, e4, hpl]
   exact ⟨h.cApp rfl rfl, rfl, rfl⟩
theorem YRel.pGen {k : Nat} (h : YRel p Q D) (hw : Wf k p) (hk : k ≤ 1000000) : ∀ q ∈ Q, 0 ≤ q.1 ∧ q.1 ≤ 1000000 := by
 intro q hq
 obtain ⟨j, hj⟩ := List.mem_iff_getElem?.1 hq
 have hlt : j < p.pins.length := by rw [← h.pl]; exact (List.getElem?_eq_some_iff.1 hj).1
 have h1 := List.getElem?_eq_getElem hlt
 rw [(h.pr j q _ hj h1).1]
 have := hw.pin _ (List.mem_of_getElem? h1)
 exact ⟨this.1, Int.le_trans this.2.1 (by omega)⟩
theorem YRel.cGen {k : Nat} (h : YRel p Q D) (hw : Wf k p) (hk : k ≤ 1000000) : ∀ q ∈ D, 0 ≤ q.1 ∧ q.1 ≤ 1000000 := by
 intro q hq
 obtain ⟨j, hj⟩ := List.mem_iff_getElem?.1 hq
 have hlt : j < p.curs.length := by rw [← h.cl]; exact (List.getElem?_eq_some_iff.1 hj).1
 have h1 := List.getElem?_eq_getElem hlt
 rw [(h.cr j q _ hj h1).1]
 have := hw.cur _ (List.mem_of_getElem? h1)
 exact ⟨this.1, Int.le_trans this.2.1 (by omega)⟩
end
def liveQ : Nat → List rsT.El → List hanT.El
 | _, [] => []
 | n, q :: l => if q.2.1 = true then ((n : Int) + 1, q.1, ()) :: liveQ (n + 1) l else liveQ (n + 1) l
theorem liveQ_take : ∀ {l : List rsT.El} {n i : Nat} {q : rsT.El}, l[i]? = some q → liveQ n (l.take (i + 1)) = liveQ n (l.take i) ++ (if q.2.1 = true then [(((n + i : Nat) : Int) + 1, q.1, ())] else [])
 | [], _, _, _, h => by simp at h
 | y :: l, n, 0, q, h => by
  simp at h
  subst h
  simp only [List.take_succ_cons, List.take_zero, liveQ, List.nil_append]
  split <;> simp [liveQ]
 | y :: l, n, i + 1, q, h => by
  have := liveQ_take (n := n + 1) (l := l) (i := i) (q := q) (by simpa using h)
  rw [List.take_succ_cons, List.take_succ_cons]
  simp only [liveQ]
  rw [this, show n + 1 + i = n + (i + 1) by omega]
  split <;> simp
theorem liveQ_len : ∀ (l : List rsT.El) (n : Nat), (liveQ n l).length ≤ l.length
 | [], n => by simp [liveQ]
 | q :: l, n => by
  have := liveQ_len l (n + 1)
  simp only [liveQ]
  split <;> simp <;> omega
theorem liveQ_eq {β : Type} : ∀ {A : List rsT.El} {B : List (Int × Option β)} {n : Nat}, A.length = B.length → (∀ (j : Nat) x q, A[j]? = some x → B[j]? = some q → x.1 = q.1 ∧ q.2.isNone = !x.2.1) → liveQ n A = liveGo n B
 | [], [], _, _, _ => rfl
 | [], _ :: _, _, h, _ => by simp at h
 | _ :: _, [], _, h, _ => by simp at h
 | a :: A, q :: B, n, h, hp => by
  obtain ⟨h1, h2⟩ := hp 0 a q rfl rfl
  simp only [liveQ, liveGo]
  rw [h1, h2, liveQ_eq (A := A) (B := B) (n := n + 1) (by simpa using h) (fun j x q hx hq => hp (j + 1) x q (by simpa using hx) (by simpa using hq))]
  cases a.2.1 <;> rfl
inductive rLiveP (ys : List AV) (h : Hp) (K : AV → Hp → Prop) : Prop where
 | mk (gQ : Nat) (Q : List rsT.El) (hy : ys = [.own 0 gQ Q.length]) (hh : h = [.arr 128 rsT Q false gQ]) (hl : Q.length ≤ 16)
  (hK : K (.lst hanT (liveQ 0 Q)) [.arr 128 rsT Q false gQ]) : rLiveP ys h K
def rLiveA : LocA := fun ys h K => rLiveP ys h K
set_option maxRecDepth 100000 in
set_option maxHeartbeats 4000000 in
theorem rLive_ok : LocOk Try.prog 74 rLiveA := by
 refine loc_body (C := cx0) mixed tbOk SpecsOk.nil (callN_ok (C := cx0) mixed tbOk SpecsOk.nil FnsOk.nil 0) fnOk_rLive ?_
 rintro ys h0 K ⟨gQ, Q, rfl, rfl, hl, hK⟩
 conv => whnf
 repeat' first | ((first | refine auTq ?_ | refine auFq ?_ | refine auIk ?_ | refine auIi ?_ | refine auT ?_ | refine auF ?_ | with_reducible first | refine auKt ?_ | refine auKf ?_ | refine auNt ?_ | refine auNf ?_ | refine auEt ?_ | refine auEf ?_); conv => whnf) | ((with_reducible first | refine br_dec ?_ ?_ | refine br_ndec ?_ ?_ | refine br_ne ?_ ?_ | refine br_eq ?_ ?_) <;> intro h <;> first | (exfalso; omega) | conv => whnf) | (refine br_intro ?_ ?_ <;> intro h <;> conv => whnf) | ((first | refine auNd ?_ | refine idx_nat (by omega) (fun x hx => ?_) | refine frz_auto ?_ | refine draw_plain ?_ | refine auIx (fun x hx => ?_)); conv => whnf) | (refine both.mk ?_ ?_ <;> conv => whnf) | ((first | refine bx_idx ?_ | refine bx_intro (fun b hb => ?_)); conv => whnf)
 refine loop_inv [] [3, 4] (fun vs h => ∃ (i gn n : Nat) (o : List hanT.El), vs = [.own 2 gn n, .int .i64 (i : Int)] ∧ h = [.arr 128 rsT Q false gQ, .arr 63 hanT [] false 0, .arr 63 hanT o false gn] ∧ i ≤ Q.length ∧ o = liveQ 0 (Q.take i) ∧ n = o.length) (fun vs _ => match vs with | [_, .int _ k] => Q.length - k.toNat | _ => 0) ?_
 conv => whnf
 refine ⟨⟨0, 0, 0, [], rfl, rfl, Nat.zero_le _, rfl, rfl⟩, ?_⟩
 rintro vs h' - ⟨i, gn, n, o, rfl, rfl, hi, ho, rfl⟩
 by_cases hil : i < Q.length
 ·obtain ⟨⟨g, hd, m0, a0, u0⟩, hx⟩ : ∃ x : Int × Bool × List pairT.El × Int × Unit, Q[i]? = some x := ⟨_, List.getElem?_eq_getElem hil⟩
  have ht := liveQ_take (n := 0) hx
  have hlen : o.length ≤ 16 := by
   rw [ho]
   exact Nat.le_trans (liveQ_len _ _) (by rw [List.length_take]; omega)
  cases hd with
  | false =>
   conv => whnf
   repeat' first | ((first | refine auTq ?_ | refine auFq ?_ | refine auIk ?_ | refine auIi ?_ | refine auT ?_ | refine auF ?_ | with_reducible first | refine auKt ?_ | refine auKf ?_ | refine auNt ?_ | refine auNf ?_ | refine auEt ?_ | refine auEf ?_); conv => whnf) | ((with_reducible first | refine br_dec ?_ ?_ | refine br_ndec ?_ ?_ | refine br_ne ?_ ?_ | refine br_eq ?_ ?_) <;> intro h <;> first | (exfalso; omega) | conv => whnf) | (refine br_intro ?_ ?_ <;> intro h <;> conv => whnf) | ((first | refine auNd ?_ | refine idx_nat (by omega) (fun x hx => ?_) | refine frz_auto ?_ | refine draw_plain ?_ | refine auIx (fun x hx => ?_)); conv => whnf) | (refine both.mk ?_ ?_ <;> conv => whnf) | ((first | refine bx_idx ?_ | refine bx_intro (fun b hb => ?_)); conv => whnf)
   refine back_intro (by conv => whnf) rfl ⟨i + 1, gn, _, o, rfl, rfl, by omega, by rw [ht, ho]; simp, rfl⟩ ?_
   show Q.length - ((i : Int) + 1).toNat < Q.length - (i : Int).toNat
   omega
  | true =>
   have ho2 : o ++ [((i : Int) + 1, g, ())] = liveQ 0 (Q.take (i + 1)) := by rw [ht, ← ho]; simp
   conv => whnf
   repeat' first | ((first | refine auTq ?_ | refine auFq ?_ | refine auIk ?_ | refine auIi ?_ | refine auT ?_ | refine auF ?_ | with_reducible first | refine auKt ?_ | refine auKf ?_ | refine auNt ?_ | refine auNf ?_ | refine auEt ?_ | refine auEf ?_); conv => whnf) | ((with_reducible first | refine br_dec ?_ ?_ | refine br_ndec ?_ ?_ | refine br_ne ?_ ?_ | refine br_eq ?_ ?_) <;> intro h <;> first | (exfalso; omega) | conv => whnf) | (refine br_intro ?_ ?_ <;> intro h <;> conv => whnf) | ((first | refine auNd ?_ | refine idx_nat (by omega) (fun x hx => ?_) | refine frz_auto ?_ | refine draw_plain ?_ | refine auIx (fun x hx => ?_)); conv => whnf) | (refine both.mk ?_ ?_ <;> conv => whnf) | ((first | refine bx_idx ?_ | refine bx_intro (fun b hb => ?_)); conv => whnf)
   refine back_intro (by conv => whnf) rfl ⟨i + 1, gn + 1, _, _, rfl, rfl, by omega, ?_, ?_⟩ ?_
   ·simp only [cast_self, List.take_length]
    exact ho2
   ·simp
   ·show Q.length - ((i : Int) + 1).toNat < Q.length - (i : Int).toNat
    omega
 ·have ho2 : o = liveQ 0 Q := by rw [ho, List.take_of_length_le (by omega)]
  conv => whnf
  repeat' first | ((first | refine auTq ?_ | refine auFq ?_ | refine auIk ?_ | refine auIi ?_ | refine auT ?_ | refine auF ?_ | with_reducible first | refine auKt ?_ | refine auKf ?_ | refine auNt ?_ | refine auNf ?_ | refine auEt ?_ | refine auEf ?_); conv => whnf) | ((with_reducible first | refine br_dec ?_ ?_ | refine br_ndec ?_ ?_ | refine br_ne ?_ ?_ | refine br_eq ?_ ?_) <;> intro h <;> first | (exfalso; omega) | conv => whnf) | (refine br_intro ?_ ?_ <;> intro h <;> conv => whnf) | ((first | refine auNd ?_ | refine idx_nat (by omega) (fun x hx => ?_) | refine frz_auto ?_ | refine draw_plain ?_ | refine auIx (fun x hx => ?_)); conv => whnf) | (refine both.mk ?_ ?_ <;> conv => whnf) | ((first | refine bx_idx ?_ | refine bx_intro (fun b hb => ?_)); conv => whnf)
  refine exA [0] ?_
  conv => whnf
  repeat' first | ((first | refine auTq ?_ | refine auFq ?_ | refine auIk ?_ | refine auIi ?_ | refine auT ?_ | refine auF ?_ | with_reducible first | refine auKt ?_ | refine auKf ?_ | refine auNt ?_ | refine auNf ?_ | refine auEt ?_ | refine auEf ?_); conv => whnf) | ((with_reducible first | refine br_dec ?_ ?_ | refine br_ndec ?_ ?_ | refine br_ne ?_ ?_ | refine br_eq ?_ ?_) <;> intro h <;> first | (exfalso; omega) | conv => whnf) | (refine br_intro ?_ ?_ <;> intro h <;> conv => whnf) | ((first | refine auNd ?_ | refine idx_nat (by omega) (fun x hx => ?_) | refine frz_auto ?_ | refine draw_plain ?_ | refine auIx (fun x hx => ?_)); conv => whnf) | (refine both.mk ?_ ?_ <;> conv => whnf) | ((first | refine bx_idx ?_ | refine bx_intro (fun b hb => ?_)); conv => whnf)
  rw [← ho2] at hK
  rw [List.take_length]
  exact hK
noncomputable def cxZ : Cx := ⟨tb, [], [(31, .d spPt5), (42, .d spRg)]⟩
theorem specsZ : SpecsOk Try.prog cxZ.specs := .cons rPart7_ok (.cons ref02Rg_ok .nil)
def locZ : List (FuncId × LocA) := [(70, yMapA), (93, rGiveA), (74, rLiveA)]
theorem locZok : LocsOk Try.prog locZ := .cons yMap_ok (.cons rGive_ok (.cons rLive_ok .nil))
theorem callZ : CallOk Try.prog (callM cxZ locZ 2) := callM_ok mixed tbOk specsZ FnsOk.nil locZok 2
def yPinA : LocA := fun ys h K => yP [.ptr 0 0] (fun p => p.pinN) (fun p => .tup [.agg [.int .i64 (giveH p.pins).1.1, .int .i64 (giveH p.pins).1.2], .int .i64 (giveH p.pins).2]) ys h K
set_option maxRecDepth 100000 in
set_option maxHeartbeats 4000000 in
theorem yPin_ok : LocOk Try.prog 64 yPinA := by
 refine loc_body (C := cxZ) mixed tbOk specsZ callZ fnOk_yPin ?_
 rintro ys h0 K ⟨p, k, gQ, Q, gD, D, rfl, rfl, hw, hk, hr, hK⟩
 have hpl := hr.pl
 have hpl2 := hw.pl
 obtain ⟨hr2, e1, e2⟩ := hr.pGive p.hd
 have e3 : p.pinN = { p with pins := giveL p.pins p.hd } := rfl
 rw [e3, e2, ← e1] at hK
 conv => whnf
 repeat' first | ((first | refine auTq ?_ | refine auFq ?_ | refine auIk ?_ | refine auIi ?_ | refine auT ?_ | refine auF ?_ | with_reducible first | refine auKt ?_ | refine auKf ?_ | refine auNt ?_ | refine auNf ?_ | refine auEt ?_ | refine auEf ?_); conv => whnf) | ((with_reducible first | refine br_dec ?_ ?_ | refine br_ndec ?_ ?_ | refine br_ne ?_ ?_ | refine br_eq ?_ ?_) <;> intro h <;> first | (exfalso; omega) | conv => whnf) | (refine br_intro ?_ ?_ <;> intro h <;> conv => whnf) | ((first | refine auNd ?_ | refine idx_nat (by omega) (fun x hx => ?_) | refine frz_auto ?_ | refine draw_plain ?_ | refine auIx (fun x hx => ?_)); conv => whnf) | (refine both.mk ?_ ?_ <;> conv => whnf) | ((first | refine bx_idx ?_ | refine bx_intro (fun b hb => ?_)); conv => whnf)
 all_goals
  refine .mk [1] ?_
  conv => whnf
  refine .mk gQ Q p.hd rfl rfl (by omega) hw.hd.len (hr.pGen hw hk) ?_
  intro g' hg'
  conv => whnf
  cases hb : (giveQH Q).2 with
  | true =>
   rw [hb] at hK
   repeat' first | ((first | refine auTq ?_ | refine auFq ?_ | refine auIk ?_ | refine auIi ?_ | refine auT ?_ | refine auF ?_ | with_reducible first | refine auKt ?_ | refine auKf ?_ | refine auNt ?_ | refine auNf ?_ | refine auEt ?_ | refine auEf ?_); conv => whnf) | ((with_reducible first | refine br_dec ?_ ?_ | refine br_ndec ?_ ?_ | refine br_ne ?_ ?_ | refine br_eq ?_ ?_) <;> intro h <;> first | (exfalso; omega) | conv => whnf) | (refine br_intro ?_ ?_ <;> intro h <;> conv => whnf) | ((first | refine auNd ?_ | refine idx_nat (by omega) (fun x hx => ?_) | refine frz_auto ?_ | refine draw_plain ?_ | refine auIx (fun x hx => ?_)); conv => whnf) | (refine both.mk ?_ ?_ <;> conv => whnf) | ((first | refine bx_idx ?_ | refine bx_intro (fun b hb => ?_)); conv => whnf)
   all_goals first
    | (rename_i h; rw [hb] at h; cases h; done)
    | skip
   all_goals
    refine exA [0, 1, 2] ?_
    conv => whnf
    exact hK _ _ _ _ hr2
  | false =>
   rw [hb] at hK
   have hgq := hg' hb
   subst hgq
   have e5 : giveQ Q p.hd = Q ∧ (giveQH Q).1 = (0, 0) := by
    unfold giveQH at hb
    unfold giveQ giveQH
    split at hb
    ·cases hb
    ·rename_i hq
     split at hb
     ·rename_i h16
      exact ⟨if_pos h16, by simp only [if_pos h16]⟩
     ·cases hb
   rw [e5.1] at hr2
   rw [e5.2] at hK
   rw [e5.1]
   repeat' first | ((first | refine auTq ?_ | refine auFq ?_ | refine auIk ?_ | refine auIi ?_ | refine auT ?_ | refine auF ?_ | with_reducible first | refine auKt ?_ | refine auKf ?_ | refine auNt ?_ | refine auNf ?_ | refine auEt ?_ | refine auEf ?_); conv => whnf) | ((with_reducible first | refine br_dec ?_ ?_ | refine br_ndec ?_ ?_ | refine br_ne ?_ ?_ | refine br_eq ?_ ?_) <;> intro h <;> first | (exfalso; omega) | conv => whnf) | (refine br_intro ?_ ?_ <;> intro h <;> conv => whnf) | ((first | refine auNd ?_ | refine idx_nat (by omega) (fun x hx => ?_) | refine frz_auto ?_ | refine draw_plain ?_ | refine auIx (fun x hx => ?_)); conv => whnf) | (refine both.mk ?_ ?_ <;> conv => whnf) | ((first | refine bx_idx ?_ | refine bx_intro (fun b hb => ?_)); conv => whnf)
   all_goals first
    | (rename_i h; rw [hb] at h; cases h; done)
    | skip
   all_goals
    refine exA [0, 1, 2] ?_
    conv => whnf
    exact hK _ _ _ _ hr2
def yOpenA : LocA := fun ys h K => ∃ (i g : Int) (lo hi : ByteArray) (bd : Bool), yP [.ptr 0 0, .agg [.int .i64 i, .int .i64 g], .agg [.str lo, .str hi, .bool bd]] (fun p => p.openN i g lo hi bd) (fun p => .tup [.agg [.int .i64 (p.openR i g lo hi bd).1.1, .int .i64 (p.openR i g lo hi bd).1.2], .int .i64 (p.openR i g lo hi bd).2]) ys h K
set_option maxRecDepth 100000 in
set_option maxHeartbeats 4000000 in
theorem yOpen_ok : LocOk Try.prog 66 yOpenA := by
 refine loc_body (C := cxZ) mixed tbOk specsZ callZ fnOk_yOpen ?_
 rintro ys h0 K ⟨i, g, lo, hi, bd, p, k, gQ, Q, gD, D, rfl, rfl, hw, hk, hr, hK⟩
 have hfit := mapR_fit hw i g
 have hf1 : (p.mapR i g).1.length ≤ 4611686018427387904 := Nat.le_trans hfit.len (by decide)
 by_cases he : (p.mapR i g).2 = 0
 ·by_cases hr0 : rgE lo hi bd = 0
  ·have eo : p.openE i g lo hi bd = 0 := by unfold PM.openE; rw [if_neg (by simpa using he)]; exact hr0
   have eN : p.openN i g lo hi bd = { p with curs := giveL p.curs (partR (p.mapR i g).1 lo hi bd, 0) } := if_pos eo
   have eR : p.openR i g lo hi bd = giveH p.curs := if_pos eo
   rw [eN, eR] at hK
   have ept : ptR (p.mapR i g).1 lo hi bd = (partR (p.mapR i g).1 lo hi bd, 0) := pt_ok hfit.ok hr0
   conv => whnf
   repeat' first | ((first | refine auTq ?_ | refine auFq ?_ | refine auIk ?_ | refine auIi ?_ | refine auT ?_ | refine auF ?_ | with_reducible first | refine auKt ?_ | refine auKf ?_ | refine auNt ?_ | refine auNf ?_ | refine auEt ?_ | refine auEf ?_); conv => whnf) | ((with_reducible first | refine br_dec ?_ ?_ | refine br_ndec ?_ ?_ | refine br_ne ?_ ?_ | refine br_eq ?_ ?_) <;> intro h <;> first | (exfalso; omega) | conv => whnf) | (refine br_intro ?_ ?_ <;> intro h <;> conv => whnf) | ((first | refine auNd ?_ | refine idx_nat (by omega) (fun x hx => ?_) | refine frz_auto ?_ | refine draw_plain ?_ | refine auIx (fun x hx => ?_)); conv => whnf) | (refine both.mk ?_ ?_ <;> conv => whnf) | ((first | refine bx_idx ?_ | refine bx_intro (fun b hb => ?_)); conv => whnf)
   all_goals
    refine .mk [0, 1, 2] ?_
    conv => whnf
    refine ⟨i, g, .mk p k gQ Q gD D rfl rfl hw hk hr ?_⟩
    rintro gQ Q gD D hr
    conv => whnf
    repeat' first | ((first | refine auTq ?_ | refine auFq ?_ | refine auIk ?_ | refine auIi ?_ | refine auT ?_ | refine auF ?_ | with_reducible first | refine auKt ?_ | refine auKf ?_ | refine auNt ?_ | refine auNf ?_ | refine auEt ?_ | refine auEf ?_); conv => whnf) | ((with_reducible first | refine br_dec ?_ ?_ | refine br_ndec ?_ ?_ | refine br_ne ?_ ?_ | refine br_eq ?_ ?_) <;> intro h <;> first | (exfalso; omega) | conv => whnf) | (refine br_intro ?_ ?_ <;> intro h <;> conv => whnf) | ((first | refine auNd ?_ | refine idx_nat (by omega) (fun x hx => ?_) | refine frz_auto ?_ | refine draw_plain ?_ | refine auIx (fun x hx => ?_)); conv => whnf) | (refine both.mk ?_ ?_ <;> conv => whnf) | ((first | refine bx_idx ?_ | refine bx_intro (fun b hb => ?_)); conv => whnf)
    all_goals
     refine .mk [2] ?_
     conv => whnf
     have hcl := hr.cl
     have hcl2 := hw.cl
     refine .mk gD D (ptR (p.mapR i g).1 lo hi bd).1 rfl rfl (by omega) ?_ (hr.cGen hw hk) ?_
     ·rw [ept]
      exact Nat.le_trans partR_len hfit.len
     obtain ⟨hr2, e1, e2⟩ := hr.cGive (ptR (p.mapR i g).1 lo hi bd).1
     rw [e2, ← e1] at hK
     intro g' hg'
     conv => whnf
     cases hb : (giveQH D).2 with
     | true =>
      rw [hb] at hK
      repeat' first | ((first | refine auTq ?_ | refine auFq ?_ | refine auIk ?_ | refine auIi ?_ | refine auT ?_ | refine auF ?_ | with_reducible first | refine auKt ?_ | refine auKf ?_ | refine auNt ?_ | refine auNf ?_ | refine auEt ?_ | refine auEf ?_); conv => whnf) | ((with_reducible first | refine br_dec ?_ ?_ | refine br_ndec ?_ ?_ | refine br_ne ?_ ?_ | refine br_eq ?_ ?_) <;> intro h <;> first | (exfalso; omega) | conv => whnf) | (refine br_intro ?_ ?_ <;> intro h <;> conv => whnf) | ((first | refine auNd ?_ | refine idx_nat (by omega) (fun x hx => ?_) | refine frz_auto ?_ | refine draw_plain ?_ | refine auIx (fun x hx => ?_)); conv => whnf) | (refine both.mk ?_ ?_ <;> conv => whnf) | ((first | refine bx_idx ?_ | refine bx_intro (fun b hb => ?_)); conv => whnf)
      all_goals first
       | (rename_i h; rw [hb] at h; cases h; done)
       | skip
      all_goals
       refine exA [0, 1, 2] ?_
       conv => whnf
       rw [ept] at hr2 ⊢
       exact hK _ _ _ _ hr2
     | false =>
      rw [hb] at hK
      have hgq := hg' hb
      subst hgq
      have e5 : giveQ D (ptR (p.mapR i g).1 lo hi bd).1 = D ∧ (giveQH D).1 = (0, 0) := by
       unfold giveQH at hb
       unfold giveQ giveQH
       split at hb
       ·cases hb
       ·rename_i hq
        split at hb
        ·rename_i h16
         exact ⟨if_pos h16, by simp only [if_pos h16]⟩
        ·cases hb
      rw [e5.1] at hr2
      rw [e5.2] at hK
      rw [e5.1]
      repeat' first | ((first | refine auTq ?_ | refine auFq ?_ | refine auIk ?_ | refine auIi ?_ | refine auT ?_ | refine auF ?_ | with_reducible first | refine auKt ?_ | refine auKf ?_ | refine auNt ?_ | refine auNf ?_ | refine auEt ?_ | refine auEf ?_); conv => whnf) | ((with_reducible first | refine br_dec ?_ ?_ | refine br_ndec ?_ ?_ | refine br_ne ?_ ?_ | refine br_eq ?_ ?_) <;> intro h <;> first | (exfalso; omega) | conv => whnf) | (refine br_intro ?_ ?_ <;> intro h <;> conv => whnf) | ((first | refine auNd ?_ | refine idx_nat (by omega) (fun x hx => ?_) | refine frz_auto ?_ | refine draw_plain ?_ | refine auIx (fun x hx => ?_)); conv => whnf) | (refine both.mk ?_ ?_ <;> conv => whnf) | ((first | refine bx_idx ?_ | refine bx_intro (fun b hb => ?_)); conv => whnf)
      all_goals first
       | (rename_i h; rw [hb] at h; cases h; done)
       | skip
      all_goals
       refine exA [0, 1, 2] ?_
       conv => whnf
       rw [ept] at hr2
       exact hK _ _ _ _ hr2
  ·have eo : p.openE i g lo hi bd = rgE lo hi bd := by unfold PM.openE; rw [if_neg (by simpa using he)]
   have eN : p.openN i g lo hi bd = p := if_neg (by rw [eo]; exact hr0)
   have eR : p.openR i g lo hi bd = ((0, 0), rgE lo hi bd) := by unfold PM.openR; rw [if_neg (by rw [eo]; exact hr0), eo]
   rw [eN, eR] at hK
   conv => whnf
   repeat' first | ((first | refine auTq ?_ | refine auFq ?_ | refine auIk ?_ | refine auIi ?_ | refine auT ?_ | refine auF ?_ | with_reducible first | refine auKt ?_ | refine auKf ?_ | refine auNt ?_ | refine auNf ?_ | refine auEt ?_ | refine auEf ?_); conv => whnf) | ((with_reducible first | refine br_dec ?_ ?_ | refine br_ndec ?_ ?_ | refine br_ne ?_ ?_ | refine br_eq ?_ ?_) <;> intro h <;> first | (exfalso; omega) | conv => whnf) | (refine br_intro ?_ ?_ <;> intro h <;> conv => whnf) | ((first | refine auNd ?_ | refine idx_nat (by omega) (fun x hx => ?_) | refine frz_auto ?_ | refine draw_plain ?_ | refine auIx (fun x hx => ?_)); conv => whnf) | (refine both.mk ?_ ?_ <;> conv => whnf) | ((first | refine bx_idx ?_ | refine bx_intro (fun b hb => ?_)); conv => whnf)
   all_goals
    refine .mk [0, 1, 2] ?_
    conv => whnf
    refine ⟨i, g, .mk p k gQ Q gD D rfl rfl hw hk hr ?_⟩
    rintro gQ Q gD D hr
    conv => whnf
    repeat' first | ((first | refine auTq ?_ | refine auFq ?_ | refine auIk ?_ | refine auIi ?_ | refine auT ?_ | refine auF ?_ | with_reducible first | refine auKt ?_ | refine auKf ?_ | refine auNt ?_ | refine auNf ?_ | refine auEt ?_ | refine auEf ?_); conv => whnf) | ((with_reducible first | refine br_dec ?_ ?_ | refine br_ndec ?_ ?_ | refine br_ne ?_ ?_ | refine br_eq ?_ ?_) <;> intro h <;> first | (exfalso; omega) | conv => whnf) | (refine br_intro ?_ ?_ <;> intro h <;> conv => whnf) | ((first | refine auNd ?_ | refine idx_nat (by omega) (fun x hx => ?_) | refine frz_auto ?_ | refine draw_plain ?_ | refine auIx (fun x hx => ?_)); conv => whnf) | (refine both.mk ?_ ?_ <;> conv => whnf) | ((first | refine bx_idx ?_ | refine bx_intro (fun b hb => ?_)); conv => whnf)
    refine exA [0, 1, 2] ?_
    conv => whnf
    exact hK _ _ _ _ hr
 ·have eo : p.openE i g lo hi bd = (p.mapR i g).2 := by unfold PM.openE; rw [if_pos (by simpa using he)]
  have eN : p.openN i g lo hi bd = p := if_neg (by rw [eo]; exact he)
  have eR : p.openR i g lo hi bd = ((0, 0), (p.mapR i g).2) := by unfold PM.openR; rw [if_neg (by rw [eo]; exact he), eo]
  rw [eN, eR] at hK
  conv => whnf
  repeat' first | ((first | refine auTq ?_ | refine auFq ?_ | refine auIk ?_ | refine auIi ?_ | refine auT ?_ | refine auF ?_ | with_reducible first | refine auKt ?_ | refine auKf ?_ | refine auNt ?_ | refine auNf ?_ | refine auEt ?_ | refine auEf ?_); conv => whnf) | ((with_reducible first | refine br_dec ?_ ?_ | refine br_ndec ?_ ?_ | refine br_ne ?_ ?_ | refine br_eq ?_ ?_) <;> intro h <;> first | (exfalso; omega) | conv => whnf) | (refine br_intro ?_ ?_ <;> intro h <;> conv => whnf) | ((first | refine auNd ?_ | refine idx_nat (by omega) (fun x hx => ?_) | refine frz_auto ?_ | refine draw_plain ?_ | refine auIx (fun x hx => ?_)); conv => whnf) | (refine both.mk ?_ ?_ <;> conv => whnf) | ((first | refine bx_idx ?_ | refine bx_intro (fun b hb => ?_)); conv => whnf)
  all_goals
   refine .mk [0, 1, 2] ?_
   conv => whnf
   refine ⟨i, g, .mk p k gQ Q gD D rfl rfl hw hk hr ?_⟩
   rintro gQ Q gD D hr
   conv => whnf
   repeat' first | ((first | refine auTq ?_ | refine auFq ?_ | refine auIk ?_ | refine auIi ?_ | refine auT ?_ | refine auF ?_ | with_reducible first | refine auKt ?_ | refine auKf ?_ | refine auNt ?_ | refine auNf ?_ | refine auEt ?_ | refine auEf ?_); conv => whnf) | ((with_reducible first | refine br_dec ?_ ?_ | refine br_ndec ?_ ?_ | refine br_ne ?_ ?_ | refine br_eq ?_ ?_) <;> intro h <;> first | (exfalso; omega) | conv => whnf) | (refine br_intro ?_ ?_ <;> intro h <;> conv => whnf) | ((first | refine auNd ?_ | refine idx_nat (by omega) (fun x hx => ?_) | refine frz_auto ?_ | refine draw_plain ?_ | refine auIx (fun x hx => ?_)); conv => whnf) | (refine both.mk ?_ ?_ <;> conv => whnf) | ((first | refine bx_idx ?_ | refine bx_intro (fun b hb => ?_)); conv => whnf)
   refine exA [0, 1, 2] ?_
   conv => whnf
   exact hK _ _ _ _ hr
def yLiveA : LocA := fun ys h K => yP [.ptr 0 0] (fun p => p) (fun p => .tup [.lst hanT (liveGo 0 p.pins), .lst hanT (liveGo 0 p.curs)]) ys h K
set_option maxRecDepth 100000 in
set_option maxHeartbeats 4000000 in
theorem yLive_ok : LocOk Try.prog 37 yLiveA := by
 refine loc_body (C := cxZ) mixed tbOk specsZ callZ fnOk_yLive ?_
 rintro ys h0 K ⟨p, k, gQ, Q, gD, D, rfl, rfl, hw, hk, hr, hK⟩
 have hpl := hr.pl
 have hpl2 := hw.pl
 have hcl := hr.cl
 have hcl2 := hw.cl
 have ep : liveQ 0 Q = liveGo 0 p.pins := liveQ_eq hr.pl (fun j x q hx hq => ⟨(hr.pr j x q hx hq).1, hr.pNone j x q hx hq⟩)
 have ec : liveQ 0 D = liveGo 0 p.curs := liveQ_eq hr.cl (fun j x q hx hq => ⟨(hr.cr j x q hx hq).1, hr.cNone j x q hx hq⟩)
 rw [← ep, ← ec] at hK
 conv => whnf
 repeat' first | ((first | refine auTq ?_ | refine auFq ?_ | first | (refine frP.mk [1] ?_; (conv => whnf); refine rLiveP.mk gQ Q rfl rfl (by omega) ?_) | (refine frP.mk [2] ?_; (conv => whnf); refine rLiveP.mk gD D rfl rfl (by omega) ?_) | refine auIk ?_ | refine auIi ?_ | refine auT ?_ | refine auF ?_ | with_reducible first | refine auKt ?_ | refine auKf ?_ | refine auNt ?_ | refine auNf ?_ | refine auEt ?_ | refine auEf ?_); conv => whnf) | ((with_reducible first | refine br_dec ?_ ?_ | refine br_ndec ?_ ?_ | refine br_ne ?_ ?_ | refine br_eq ?_ ?_) <;> intro h <;> first | (exfalso; omega) | conv => whnf) | (refine br_intro ?_ ?_ <;> intro h <;> conv => whnf) | ((first | refine auNd ?_ | refine idx_nat (by omega) (fun x hx => ?_) | refine frz_auto ?_ | refine draw_plain ?_ | refine auIx (fun x hx => ?_)); conv => whnf) | (refine both.mk ?_ ?_ <;> conv => whnf) | ((first | refine bx_idx ?_ | refine bx_intro (fun b hb => ?_)); conv => whnf)
 all_goals
  refine exA [0, 1, 2] ?_
  conv => whnf
  exact hK _ _ _ _ hr
end Go.Proofs.Ytbbklijmnknmhaa
