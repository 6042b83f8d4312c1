/-
  A model's calls, each with its memory alone: Map, Unpin, Shut, Next, Prev.
-/
import Derived.Test.YtbbklijmnknmhaaYr
namespace Go.Proofs.Ytbbklijmnknmhaa
open Av Bk

theorem K_tup {K : AV → Hp → Prop} {a b : List pairT.El} {e : Int} {h : Hp} (hab : a = b) (hk : K (.tup [.lst pairT b, .int .i64 e]) h) : K (.tup [.lst pairT a, .int .i64 e]) h := hab ▸ hk
theorem bxL_at {α : Type} {m : List (Nat × α)} {b : Nat} {x : α} (h : lkB m b = some x) : (bxL m b)[(0 : Int).toNat]? = some x := by
 unfold bxL
 rw [h]
 rfl
theorem slot_cases {β : Type} (l : List (Int × Option β)) (i g : Int) : ((i < 1 ∨ (l.length : Int) < i) ∧ lookE l i g = 4) ∨ (1 ≤ i ∧ i ≤ (l.length : Int) ∧ ∃ g0 o, l[(i - 1).toNat]? = some (g0, o) ∧
  (((g < 1 ∨ g0 < g) ∧ lookE l i g = 4) ∨ (1 ≤ g ∧ g < g0 ∧ lookE l i g = 11) ∨ (1 ≤ g ∧ g = g0 ∧ o = none ∧ lookE l i g = 11) ∨ (1 ≤ g ∧ g = g0 ∧ ∃ x, o = some x ∧ lookE l i g = 0))) := by
 by_cases h : i < 1 ∨ (l.length : Int) < i
 ·exact .inl ⟨h, lookE_far h⟩
 ·right
  have hp : (i - 1).toNat < l.length := by omega
  have h1 := List.getElem?_eq_getElem hp
  generalize l[(i - 1).toNat] = q at h1
  obtain ⟨g0, o⟩ := q
  refine ⟨by omega, by omega, g0, o, h1, ?_⟩
  have he := lookE_at (l := l) (i := i) (g := g) (by omega) (by omega) h1
  have he : lookE l i g = if g < 1 ∨ g0 < g then 4 else if g < g0 ∨ o.isNone = true then 11 else 0 := he
  by_cases ha : g < 1 ∨ g0 < g
  ·exact .inl ⟨ha, by rw [he, if_pos ha]⟩
  ·rw [if_neg ha] at he
   by_cases hb : g < g0
   ·exact .inr (.inl ⟨by omega, hb, by rw [he, if_pos (.inl hb)]⟩)
   ·cases o with
    | none => exact .inr (.inr (.inl ⟨by omega, by omega, rfl, by rw [he, if_pos (.inr rfl)]⟩))
    | some x => exact .inr (.inr (.inr ⟨by omega, by omega, x, rfl, by rw [he, if_neg (by rintro (h | h); exact hb h; cases h)]⟩))
section
variable {p : PM} {m0 : List (Nat × List pairT.El)} {m1 : List (Nat × cuT.El)} {P : List slT.El} {C : List scT.El}
theorem XRel.pAt (h : XRel p m0 m1 P C) {j : Nat} {g0 : Int} {o : Option (List pairT.El)} (hq : p.pins[j]? = some (g0, o)) : (o = none ∧ P[j]? = some (g0, none, ())) ∨ ∃ b m, o = some m ∧ P[j]? = some (g0, some b, ()) ∧ lkB m0 b = some m := by
 have hj : j < P.length := by rw [h.pl]; exact (List.getElem?_eq_some_iff.1 hq).1
 have h1 := List.getElem?_eq_getElem hj
 generalize P[j] = x at h1
 obtain ⟨g, o', u⟩ := x
 obtain ⟨e, h2⟩ := h.pr j _ _ h1 hq
 have e : g = g0 := e
 subst e
 rcases h2 with ⟨e1, e2⟩ | ⟨b, m, e1, e2, e3⟩
 ·have e1 : o' = none := e1
  subst e1
  exact .inl ⟨e2, h1⟩
 ·have e1 : o' = some b := e1
  subst e1
  exact .inr ⟨b, m, e2, h1, e3⟩
theorem XRel.cAt (h : XRel p m0 m1 P C) {j : Nat} {g0 : Int} {o : Option (List pairT.El × Int)} (hq : p.curs[j]? = some (g0, o)) : (o = none ∧ C[j]? = some (g0, none, ())) ∨ ∃ b m a, o = some (m, a) ∧ C[j]? = some (g0, some b, ()) ∧ lkB m1 b = some (m, a, ()) := by
 have hj : j < C.length := by rw [h.cl]; exact (List.getElem?_eq_some_iff.1 hq).1
 have h1 := List.getElem?_eq_getElem hj
 generalize C[j] = x at h1
 obtain ⟨g, o', u⟩ := x
 obtain ⟨e, h2⟩ := h.cr j _ _ h1 hq
 have e : g = g0 := e
 subst e
 rcases h2 with ⟨e1, e2⟩ | ⟨b, m, a, e1, e2, e3⟩
 ·have e1 : o' = none := e1
  subst e1
  exact .inl ⟨e2, h1⟩
 ·have e1 : o' = some b := e1
  subst e1
  exact .inr ⟨b, m, a, e2, h1, e3⟩
theorem XRel.pSet (h : XRel p m0 m1 P C) {j : Nat} {g : Int} : XRel { p with pins := p.pins.set j (g, none) } m0 m1 (P.set j (g, none, ())) C where
 pl := by rw [List.length_set]; show P.length = (List.set _ _ _).length; rw [List.length_set]; exact h.pl
 cl := h.cl
 pr := fun i x q hx hq => by
  have hq : (p.pins.set j (g, none))[i]? = some q := hq
  rw [List.getElem?_set] at hx hq
  by_cases e : j = i
  ·rw [if_pos e] at hx hq
   split at hx
   ·split at hq
    ·cases hx; cases hq; exact ⟨rfl, .inl ⟨rfl, rfl⟩⟩
    ·cases hq
   ·cases hx
  ·rw [if_neg e] at hx hq
   exact h.pr i x q hx hq
 cr := h.cr
 inj := h.inj
theorem XRel.cSet (h : XRel p m0 m1 P C) {j : Nat} {g : Int} : XRel { p with curs := p.curs.set j (g, none) } m0 m1 P (C.set j (g, none, ())) where
 pl := h.pl
 cl := by rw [List.length_set]; show C.length = (List.set _ _ _).length; rw [List.length_set]; exact h.cl
 pr := h.pr
 cr := fun i x q hx hq => by
  have hq : (p.curs.set j (g, none))[i]? = some q := hq
  rw [List.getElem?_set] at hx hq
  by_cases e : j = i
  ·rw [if_pos e] at hx hq
   split at hx
   ·split at hq
    ·cases hx; cases hq; exact ⟨rfl, .inl ⟨rfl, rfl⟩⟩
    ·cases hq
   ·cases hx
  ·rw [if_neg e] at hx hq
   exact h.cr i x q hx hq
 inj := fun i k x y b hx hy hxb hyb => by
  rw [List.getElem?_set] at hx hy
  split at hx
  ·split at hx
   ·cases hx; cases hxb
   ·cases hx
  ·split at hy
   ·split at hy
    ·cases hy; cases hyb
    ·cases hy
   ·exact h.inj i k x y b hx hy hxb hyb
theorem lkB_up {α : Type} {m : List (Nat × α)} {b b' : Nat} {y z : α} (h : lkB m b' = some z) : lkB (upB m b y) b' = some (if b' = b then y else z) := by
 unfold upB
 induction m with
 | nil => cases h
 | cons q m ih =>
  obtain ⟨c, x⟩ := q
  simp only [lkB] at h
  simp only [List.map_cons]
  by_cases e : c = b'
  ·subst e
   rw [if_pos rfl] at h
   cases h
   by_cases e2 : c = b
   ·subst e2
    simp [lkB]
   ·simp [lkB, e2]
  ·rw [if_neg e] at h
   have := ih h
   by_cases e2 : c = b
   ·simp only [e2, if_true, lkB]
    rw [if_neg (by rw [← e2]; exact e)]
    exact this
   ·simp only [e2, if_false, lkB]
    rw [if_neg e]
    exact this
theorem XRel.cMove (h : XRel p m0 m1 P C) {j b : Nat} {g a a' : Int} {m : List pairT.El} (hq : p.curs[j]? = some (g, some (m, a))) (hx : C[j]? = some (g, some b, ())) (hb : lkB m1 b = some (m, a, ())) : XRel { p with curs := p.curs.set j (g, some (m, a')) } m0 (upB m1 b (m, a', ())) P C where
 pl := h.pl
 cl := by show C.length = (List.set _ _ _).length; rw [List.length_set]; exact h.cl
 pr := h.pr
 cr := fun i x q hxi hqi => by
  have hqi : (p.curs.set j (g, some (m, a')))[i]? = some q := hqi
  rw [List.getElem?_set] at hqi
  by_cases e : j = i
  ·rw [if_pos e] at hqi
   split at hqi
   ·cases hqi
    subst e
    rw [hx] at hxi
    cases hxi
    exact ⟨rfl, .inr ⟨b, m, a', rfl, rfl, by rw [lkB_up hb, if_pos rfl]⟩⟩
   ·cases hqi
  ·rw [if_neg e] at hqi
   obtain ⟨h1, h2⟩ := h.cr i x q hxi hqi
   refine ⟨h1, ?_⟩
   rcases h2 with h2 | ⟨b', m', c', e1, e2, e3⟩
   ·exact .inl h2
   ·refine .inr ⟨b', m', c', e1, e2, ?_⟩
    rw [lkB_up e3, if_neg]
    rintro rfl
    exact e (h.inj j i _ x b' hx hxi rfl e1)
 inj := h.inj
end
def xMapA : LocA := fun ys h K => ∃ i g : Int, xP [.ptr 2 0, .agg [.int .i64 i, .int .i64 g]] (fun p => p) (fun p => .tup [.lst pairT (p.mapR i g).1, .int .i64 (p.mapR i g).2]) ys h K
set_option maxRecDepth 100000 in
set_option maxHeartbeats 4000000 in
theorem xMap_ok : LocOk Try.prog 40 xMapA := by
 refine loc_body (C := cxX) mixed tbOk specsX callX fnOk_xMap ?_
 rintro ys h0 K ⟨i, g, p, k, m0, m1, gP, P, gC, C, rfl, rfl, hw, hk, hr, hK⟩
 have h0 := hw.hd.len
 have h1 : p.hd.length ≤ 4611686018427387904 := Nat.le_trans h0 (by decide)
 have hpl := hr.pl
 have hpl2 := hw.pl
 have hcl := hr.cl
 have hcl2 := hw.cl
 cases hz : isHd i g with
 | true =>
  have hz : eqT (Ty.st [Ty.int IntKind.i64, Ty.int IntKind.i64]) (i, g, ()) (0, 0, ()) = true := hz
  have er : p.mapR i g = (p.hd, 0) := if_pos hz
  rw [er] at hK
  conv => whnf
  repeat' first | ((first | refine auTq ?_ | refine auFq ?_ | refine auIk ?_ | refine auIi ?_ | refine auT ?_ | refine auF ?_ | with_reducible first | refine auKt ?_ | refine auKf ?_ | refine auNt ?_ | refine auNf ?_ | refine auEt ?_ | refine auEf ?_); conv => whnf) | ((with_reducible first | refine br_dec ?_ ?_ | refine br_ndec ?_ ?_ | refine br_ne ?_ ?_ | refine br_eq ?_ ?_) <;> intro h <;> first | (exfalso; omega) | conv => whnf) | (refine br_intro ?_ ?_ <;> intro h <;> conv => whnf) | ((first | refine auNd ?_ | refine idx_nat (by omega) (fun x hx => ?_) | refine frz_auto ?_ | refine draw_plain ?_ | refine auIx (fun x hx => ?_)); conv => whnf)
  all_goals
   refine exA [0, 1, 2, 3, 4] ?_
   conv => whnf
   repeat (refine auNd ?_; conv => whnf)
   exact K_tup (by first | exact List.take_length | rfl) (hK _ _ _ _ _ _ hr)
 | false =>
  have hz0 := hz
  have hz : eqT (Ty.st [Ty.int IntKind.i64, Ty.int IntKind.i64]) (i, g, ()) (0, 0, ()) = false := hz
  rcases slot_cases p.pins i g with ⟨hc, he⟩ | ⟨c1, c2, g0, o, hq, hc⟩
  ·have hc : i < 1 ∨ (P.length : Int) < i := by omega
   have er : p.mapR i g = ([], 4) := by unfold PM.mapR; rw [if_neg (by rw [hz0]; decide), he, if_neg (by decide)]
   rw [er] at hK
   conv => whnf
   repeat' first | ((first | refine auTq ?_ | refine auFq ?_ | refine auIk ?_ | refine auIi ?_ | refine auT ?_ | refine auF ?_ | with_reducible first | refine auKt ?_ | refine auKf ?_ | refine auNt ?_ | refine auNf ?_ | refine auEt ?_ | refine auEf ?_); conv => whnf) | ((with_reducible first | refine br_dec ?_ ?_ | refine br_ndec ?_ ?_ | refine br_ne ?_ ?_ | refine br_eq ?_ ?_) <;> intro h <;> first | (exfalso; omega) | conv => whnf) | (refine br_intro ?_ ?_ <;> intro h <;> conv => whnf) | ((first | refine auNd ?_ | refine idx_nat (by omega) (fun x hx => ?_) | refine frz_auto ?_ | refine draw_plain ?_ | refine auIx (fun x hx => ?_)); conv => whnf)
   all_goals
    refine exA [0, 1, 2, 3, 4] ?_
    conv => whnf
    repeat (refine auNd ?_; conv => whnf)
    exact K_tup (by first | exact List.take_length | rfl) (hK _ _ _ _ _ _ hr)
  ·have c2 : i ≤ (P.length : Int) := by omega
   have c5 : inR .i64 (i - 1) := by simp only [inR]; omega
   have hq0 := hw.pin _ (List.mem_of_getElem? hq)
   have c3 : 0 ≤ g0 := hq0.1
   have c4 : g0 ≤ (k : Int) := hq0.2.1
   rcases hc with ⟨hc, he⟩ | ⟨hc1, hc2, he⟩ | ⟨hc1, rfl, rfl, he⟩ | ⟨hc1, rfl, x, rfl, he⟩
   ·obtain ⟨o', hp⟩ : ∃ o', P[(i - 1).toNat]? = some (g0, o', ()) := by
     rcases hr.pAt hq with ⟨_, hp⟩ | ⟨b, m, _, hp, _⟩ <;> exact ⟨_, hp⟩
    have er : p.mapR i g = ([], 4) := by unfold PM.mapR; rw [if_neg (by rw [hz0]; decide), he, if_neg (by decide)]
    rw [er] at hK
    conv => whnf
    repeat' first | ((first | refine auTq ?_ | refine auFq ?_ | refine auIk ?_ | refine auIi ?_ | refine auT ?_ | refine auF ?_ | with_reducible first | refine auKt ?_ | refine auKf ?_ | refine auNt ?_ | refine auNf ?_ | refine auEt ?_ | refine auEf ?_); conv => whnf) | ((with_reducible first | refine br_dec ?_ ?_ | refine br_ndec ?_ ?_ | refine br_ne ?_ ?_ | refine br_eq ?_ ?_) <;> intro h <;> first | (exfalso; omega) | conv => whnf) | (refine br_intro ?_ ?_ <;> intro h <;> conv => whnf) | ((first | refine auNd ?_ | refine idx_nat (by omega) (fun x hx => ?_) | refine frz_auto ?_ | refine draw_plain ?_ | refine auIx (fun x hx => ?_)); conv => whnf)
    all_goals
     refine exA [0, 1, 2, 3, 4] ?_
     conv => whnf
     repeat (refine auNd ?_; conv => whnf)
     exact K_tup (by first | exact List.take_length | rfl) (hK _ _ _ _ _ _ hr)
   ·obtain ⟨o', hp⟩ : ∃ o', P[(i - 1).toNat]? = some (g0, o', ()) := by
     rcases hr.pAt hq with ⟨_, hp⟩ | ⟨b, m, _, hp, _⟩ <;> exact ⟨_, hp⟩
    have er : p.mapR i g = ([], 11) := by unfold PM.mapR; rw [if_neg (by rw [hz0]; decide), he, if_neg (by decide)]
    rw [er] at hK
    conv => whnf
    repeat' first | ((first | refine auTq ?_ | refine auFq ?_ | refine auIk ?_ | refine auIi ?_ | refine auT ?_ | refine auF ?_ | with_reducible first | refine auKt ?_ | refine auKf ?_ | refine auNt ?_ | refine auNf ?_ | refine auEt ?_ | refine auEf ?_); conv => whnf) | ((with_reducible first | refine br_dec ?_ ?_ | refine br_ndec ?_ ?_ | refine br_ne ?_ ?_ | refine br_eq ?_ ?_) <;> intro h <;> first | (exfalso; omega) | conv => whnf) | (refine br_intro ?_ ?_ <;> intro h <;> conv => whnf) | ((first | refine auNd ?_ | refine idx_nat (by omega) (fun x hx => ?_) | refine frz_auto ?_ | refine draw_plain ?_ | refine auIx (fun x hx => ?_)); conv => whnf)
    all_goals
     refine exA [0, 1, 2, 3, 4] ?_
     conv => whnf
     repeat (refine auNd ?_; conv => whnf)
     exact K_tup (by first | exact List.take_length | rfl) (hK _ _ _ _ _ _ hr)
   ·obtain ⟨_, hp⟩ : True ∧ P[(i - 1).toNat]? = some (g, none, ()) := by
     rcases hr.pAt hq with h | ⟨b, m, h, _⟩
     ·exact ⟨trivial, h.2⟩
     ·cases h
    have er : p.mapR i g = ([], 11) := by unfold PM.mapR; rw [if_neg (by rw [hz0]; decide), he, if_neg (by decide)]
    rw [er] at hK
    conv => whnf
    repeat' first | ((first | refine auTq ?_ | refine auFq ?_ | refine auIk ?_ | refine auIi ?_ | refine auT ?_ | refine auF ?_ | with_reducible first | refine auKt ?_ | refine auKf ?_ | refine auNt ?_ | refine auNf ?_ | refine auEt ?_ | refine auEf ?_); conv => whnf) | ((with_reducible first | refine br_dec ?_ ?_ | refine br_ndec ?_ ?_ | refine br_ne ?_ ?_ | refine br_eq ?_ ?_) <;> intro h <;> first | (exfalso; omega) | conv => whnf) | (refine br_intro ?_ ?_ <;> intro h <;> conv => whnf) | ((first | refine auNd ?_ | refine idx_nat (by omega) (fun x hx => ?_) | refine frz_auto ?_ | refine draw_plain ?_ | refine auIx (fun x hx => ?_)); conv => whnf)
    all_goals
     refine exA [0, 1, 2, 3, 4] ?_
     conv => whnf
     repeat (refine auNd ?_; conv => whnf)
     exact K_tup (by first | exact List.take_length | rfl) (hK _ _ _ _ _ _ hr)
   ·obtain ⟨b, hp, hb⟩ : ∃ b, P[(i - 1).toNat]? = some (g, some b, ()) ∧ lkB m0 b = some x := by
     rcases hr.pAt hq with h | ⟨b, m, h, h2, h3⟩
     ·cases h.1
     ·cases h; exact ⟨b, h2, h3⟩
    have hb1 := bxL_at hb
    have hm := (hq0.2.2 x rfl).len
    have hm1 : x.length ≤ 4611686018427387904 := Nat.le_trans hm (by decide)
    have er : p.mapR i g = (x, 0) := by unfold PM.mapR; rw [if_neg (by rw [hz0]; decide), he, if_pos rfl, lookV_at hq]; rfl
    rw [er] at hK
    conv => whnf
    repeat' first | ((first | refine auTq ?_ | refine auFq ?_ | refine auIk ?_ | refine auIi ?_ | refine auT ?_ | refine auF ?_ | with_reducible first | refine auKt ?_ | refine auKf ?_ | refine auNt ?_ | refine auNf ?_ | refine auEt ?_ | refine auEf ?_); conv => whnf) | ((with_reducible first | refine br_dec ?_ ?_ | refine br_ndec ?_ ?_ | refine br_ne ?_ ?_ | refine br_eq ?_ ?_) <;> intro h <;> first | (exfalso; omega) | conv => whnf) | (refine br_intro ?_ ?_ <;> intro h <;> conv => whnf) | ((first | refine auNd ?_ | refine idx_nat (by omega) (fun x hx => ?_) | refine frz_auto ?_ | refine draw_plain ?_ | refine auIx (fun x hx => ?_)); conv => whnf)
    all_goals
     refine exA [0, 1, 2, 3, 4] ?_
     conv => whnf
     repeat (refine auNd ?_; conv => whnf)
     exact K_tup (by first | exact List.take_length | rfl) (hK _ _ _ _ _ _ hr)
def xUnpinA : LocA := fun ys h K => ∃ i g : Int, xP [.ptr 2 0, .agg [.int .i64 i, .int .i64 g]] (fun p => p.unpinN i g) (fun p => .int .i64 (lookE p.pins i g)) ys h K
set_option maxRecDepth 100000 in
set_option maxHeartbeats 4000000 in
theorem xUnpin_ok : LocOk Try.prog 48 xUnpinA := by
 refine loc_body (C := cxX) mixed tbOk specsX callX fnOk_xUnpin ?_
 rintro ys h0 K ⟨i, g, p, k, m0, m1, gP, P, gC, C, rfl, rfl, hw, hk, hr, hK⟩
 have h0 := hw.hd.len
 have h1 : p.hd.length ≤ 4611686018427387904 := Nat.le_trans h0 (by decide)
 have hpl := hr.pl
 have hpl2 := hw.pl
 have hcl := hr.cl
 have hcl2 := hw.cl
 rcases slot_cases p.pins i g with ⟨hc, he⟩ | ⟨c1, c2, g0, o, hq, hc⟩
 ·have hc : i < 1 ∨ (P.length : Int) < i := by omega
  have er : p.unpinN i g = p := by unfold PM.unpinN dropL; rw [he, if_neg (by decide)]
  rw [er, he] at hK
  conv => whnf
  repeat' first | ((first | refine auTq ?_ | refine auFq ?_ | refine auIk ?_ | refine auIi ?_ | refine auT ?_ | refine auF ?_ | with_reducible first | refine auKt ?_ | refine auKf ?_ | refine auNt ?_ | refine auNf ?_ | refine auEt ?_ | refine auEf ?_); conv => whnf) | ((with_reducible first | refine br_dec ?_ ?_ | refine br_ndec ?_ ?_ | refine br_ne ?_ ?_ | refine br_eq ?_ ?_) <;> intro h <;> first | (exfalso; omega) | conv => whnf) | (refine br_intro ?_ ?_ <;> intro h <;> conv => whnf) | ((first | refine auNd ?_ | refine idx_nat (by omega) (fun x hx => ?_) | refine frz_auto ?_ | refine draw_plain ?_ | refine auIx (fun x hx => ?_)); conv => whnf)
  all_goals
   refine exA [0, 1, 2, 3, 4] ?_
   conv => whnf
   repeat (refine auNd ?_; conv => whnf)
   exact hK _ _ _ _ _ _ hr
 ·have c2 : i ≤ (P.length : Int) := by omega
  have c5 : inR .i64 (i - 1) := by simp only [inR]; omega
  have hq0 := hw.pin _ (List.mem_of_getElem? hq)
  have c3 : 0 ≤ g0 := hq0.1
  have c4 : g0 ≤ (k : Int) := hq0.2.1
  rcases hc with ⟨hc, he⟩ | ⟨hc1, hc2, he⟩ | ⟨hc1, rfl, rfl, he⟩ | ⟨hc1, rfl, x, rfl, he⟩
  ·obtain ⟨o', hp⟩ : ∃ o', P[(i - 1).toNat]? = some (g0, o', ()) := by
    rcases hr.pAt hq with ⟨_, hp⟩ | ⟨b, m, _, hp, _⟩ <;> exact ⟨_, hp⟩
   have er : p.unpinN i g = p := by unfold PM.unpinN dropL; rw [he, if_neg (by decide)]
   rw [er, he] at hK
   conv => whnf
   repeat' first | ((first | refine auTq ?_ | refine auFq ?_ | refine auIk ?_ | refine auIi ?_ | refine auT ?_ | refine auF ?_ | with_reducible first | refine auKt ?_ | refine auKf ?_ | refine auNt ?_ | refine auNf ?_ | refine auEt ?_ | refine auEf ?_); conv => whnf) | ((with_reducible first | refine br_dec ?_ ?_ | refine br_ndec ?_ ?_ | refine br_ne ?_ ?_ | refine br_eq ?_ ?_) <;> intro h <;> first | (exfalso; omega) | conv => whnf) | (refine br_intro ?_ ?_ <;> intro h <;> conv => whnf) | ((first | refine auNd ?_ | refine idx_nat (by omega) (fun x hx => ?_) | refine frz_auto ?_ | refine draw_plain ?_ | refine auIx (fun x hx => ?_)); conv => whnf)
   all_goals
    refine exA [0, 1, 2, 3, 4] ?_
    conv => whnf
    repeat (refine auNd ?_; conv => whnf)
    exact hK _ _ _ _ _ _ hr
  ·obtain ⟨o', hp⟩ : ∃ o', P[(i - 1).toNat]? = some (g0, o', ()) := by
    rcases hr.pAt hq with ⟨_, hp⟩ | ⟨b, m, _, hp, _⟩ <;> exact ⟨_, hp⟩
   have er : p.unpinN i g = p := by unfold PM.unpinN dropL; rw [he, if_neg (by decide)]
   rw [er, he] at hK
   conv => whnf
   repeat' first | ((first | refine auTq ?_ | refine auFq ?_ | refine auIk ?_ | refine auIi ?_ | refine auT ?_ | refine auF ?_ | with_reducible first | refine auKt ?_ | refine auKf ?_ | refine auNt ?_ | refine auNf ?_ | refine auEt ?_ | refine auEf ?_); conv => whnf) | ((with_reducible first | refine br_dec ?_ ?_ | refine br_ndec ?_ ?_ | refine br_ne ?_ ?_ | refine br_eq ?_ ?_) <;> intro h <;> first | (exfalso; omega) | conv => whnf) | (refine br_intro ?_ ?_ <;> intro h <;> conv => whnf) | ((first | refine auNd ?_ | refine idx_nat (by omega) (fun x hx => ?_) | refine frz_auto ?_ | refine draw_plain ?_ | refine auIx (fun x hx => ?_)); conv => whnf)
   all_goals
    refine exA [0, 1, 2, 3, 4] ?_
    conv => whnf
    repeat (refine auNd ?_; conv => whnf)
    exact hK _ _ _ _ _ _ hr
  ·obtain ⟨_, hp⟩ : True ∧ P[(i - 1).toNat]? = some (g, none, ()) := by
    rcases hr.pAt hq with h | ⟨b, m, h, _⟩
    ·exact ⟨trivial, h.2⟩
    ·cases h
   have er : p.unpinN i g = p := by unfold PM.unpinN dropL; rw [he, if_neg (by decide)]
   rw [er, he] at hK
   conv => whnf
   repeat' first | ((first | refine auTq ?_ | refine auFq ?_ | refine auIk ?_ | refine auIi ?_ | refine auT ?_ | refine auF ?_ | with_reducible first | refine auKt ?_ | refine auKf ?_ | refine auNt ?_ | refine auNf ?_ | refine auEt ?_ | refine auEf ?_); conv => whnf) | ((with_reducible first | refine br_dec ?_ ?_ | refine br_ndec ?_ ?_ | refine br_ne ?_ ?_ | refine br_eq ?_ ?_) <;> intro h <;> first | (exfalso; omega) | conv => whnf) | (refine br_intro ?_ ?_ <;> intro h <;> conv => whnf) | ((first | refine auNd ?_ | refine idx_nat (by omega) (fun x hx => ?_) | refine frz_auto ?_ | refine draw_plain ?_ | refine auIx (fun x hx => ?_)); conv => whnf)
   all_goals
    refine exA [0, 1, 2, 3, 4] ?_
    conv => whnf
    repeat (refine auNd ?_; conv => whnf)
    exact hK _ _ _ _ _ _ hr
  ·obtain ⟨b, hp, hb⟩ : ∃ b, P[(i - 1).toNat]? = some (g, some b, ()) ∧ lkB m0 b = some x := by
    rcases hr.pAt hq with h | ⟨b, m, h, h2, h3⟩
    ·cases h.1
    ·cases h; exact ⟨b, h2, h3⟩
   have hb1 := bxL_at hb
   have hm := (hq0.2.2 x rfl).len
   have hm1 : x.length ≤ 4611686018427387904 := Nat.le_trans hm (by decide)
   have er : p.unpinN i g = { p with pins := p.pins.set (i - 1).toNat (g, none) } := by unfold PM.unpinN dropL; rw [he, if_pos rfl]
   rw [er, he] at hK
   conv => whnf
   repeat' first | ((first | refine auTq ?_ | refine auFq ?_ | refine auIk ?_ | refine auIi ?_ | refine auT ?_ | refine auF ?_ | with_reducible first | refine auKt ?_ | refine auKf ?_ | refine auNt ?_ | refine auNf ?_ | refine auEt ?_ | refine auEf ?_); conv => whnf) | ((with_reducible first | refine br_dec ?_ ?_ | refine br_ndec ?_ ?_ | refine br_ne ?_ ?_ | refine br_eq ?_ ?_) <;> intro h <;> first | (exfalso; omega) | conv => whnf) | (refine br_intro ?_ ?_ <;> intro h <;> conv => whnf) | ((first | refine auNd ?_ | refine idx_nat (by omega) (fun x hx => ?_) | refine frz_auto ?_ | refine draw_plain ?_ | refine auIx (fun x hx => ?_)); conv => whnf)
   all_goals
    refine exA [0, 1, 2, 3, 4] ?_
    conv => whnf
    repeat (refine auNd ?_; conv => whnf)
    have h9 := hK m0 m1 gP _ gC _ (hr.pSet (j := (i - 1).toNat) (g := g))
    simp only [XH, List.length_set] at h9
    exact h9
def xShutA : LocA := fun ys h K => ∃ i g : Int, xP [.ptr 2 0, .agg [.int .i64 i, .int .i64 g]] (fun p => p.shutN i g) (fun p => .int .i64 (lookE p.curs i g)) ys h K
set_option maxRecDepth 100000 in
set_option maxHeartbeats 4000000 in
theorem xShut_ok : LocOk Try.prog 46 xShutA := by
 refine loc_body (C := cxX) mixed tbOk specsX callX fnOk_xShut ?_
 rintro ys h0 K ⟨i, g, p, k, m0, m1, gP, P, gC, C, rfl, rfl, hw, hk, hr, hK⟩
 have h0 := hw.hd.len
 have h1 : p.hd.length ≤ 4611686018427387904 := Nat.le_trans h0 (by decide)
 have hpl := hr.pl
 have hpl2 := hw.pl
 have hcl := hr.cl
 have hcl2 := hw.cl
 rcases slot_cases p.curs i g with ⟨hc, he⟩ | ⟨c1, c2, g0, o, hq, hc⟩
 ·have hc : i < 1 ∨ (C.length : Int) < i := by omega
  have er : p.shutN i g = p := by unfold PM.shutN dropL; rw [he, if_neg (by decide)]
  rw [er, he] at hK
  conv => whnf
  repeat' first | ((first | refine auTq ?_ | refine auFq ?_ | refine auIk ?_ | refine auIi ?_ | refine auT ?_ | refine auF ?_ | with_reducible first | refine auKt ?_ | refine auKf ?_ | refine auNt ?_ | refine auNf ?_ | refine auEt ?_ | refine auEf ?_); conv => whnf) | ((with_reducible first | refine br_dec ?_ ?_ | refine br_ndec ?_ ?_ | refine br_ne ?_ ?_ | refine br_eq ?_ ?_) <;> intro h <;> first | (exfalso; omega) | conv => whnf) | (refine br_intro ?_ ?_ <;> intro h <;> conv => whnf) | ((first | refine auNd ?_ | refine idx_nat (by omega) (fun x hx => ?_) | refine frz_auto ?_ | refine draw_plain ?_ | refine auIx (fun x hx => ?_)); conv => whnf)
  all_goals
   refine exA [0, 1, 2, 3, 4] ?_
   conv => whnf
   repeat (refine auNd ?_; conv => whnf)
   exact hK _ _ _ _ _ _ hr
 ·have c2 : i ≤ (C.length : Int) := by omega
  have c5 : inR .i64 (i - 1) := by simp only [inR]; omega
  have hq0 := hw.cur _ (List.mem_of_getElem? hq)
  have c3 : 0 ≤ g0 := hq0.1
  have c4 : g0 ≤ (k : Int) := hq0.2.1
  rcases hc with ⟨hc, he⟩ | ⟨hc1, hc2, he⟩ | ⟨hc1, rfl, rfl, he⟩ | ⟨hc1, rfl, x, rfl, he⟩
  ·obtain ⟨o', hp⟩ : ∃ o', C[(i - 1).toNat]? = some (g0, o', ()) := by
    rcases hr.cAt hq with ⟨_, hp⟩ | ⟨b, m, a, _, hp, _⟩ <;> exact ⟨_, hp⟩
   have er : p.shutN i g = p := by unfold PM.shutN dropL; rw [he, if_neg (by decide)]
   rw [er, he] at hK
   conv => whnf
   repeat' first | ((first | refine auTq ?_ | refine auFq ?_ | refine auIk ?_ | refine auIi ?_ | refine auT ?_ | refine auF ?_ | with_reducible first | refine auKt ?_ | refine auKf ?_ | refine auNt ?_ | refine auNf ?_ | refine auEt ?_ | refine auEf ?_); conv => whnf) | ((with_reducible first | refine br_dec ?_ ?_ | refine br_ndec ?_ ?_ | refine br_ne ?_ ?_ | refine br_eq ?_ ?_) <;> intro h <;> first | (exfalso; omega) | conv => whnf) | (refine br_intro ?_ ?_ <;> intro h <;> conv => whnf) | ((first | refine auNd ?_ | refine idx_nat (by omega) (fun x hx => ?_) | refine frz_auto ?_ | refine draw_plain ?_ | refine auIx (fun x hx => ?_)); conv => whnf)
   all_goals
    refine exA [0, 1, 2, 3, 4] ?_
    conv => whnf
    repeat (refine auNd ?_; conv => whnf)
    exact hK _ _ _ _ _ _ hr
  ·obtain ⟨o', hp⟩ : ∃ o', C[(i - 1).toNat]? = some (g0, o', ()) := by
    rcases hr.cAt hq with ⟨_, hp⟩ | ⟨b, m, a, _, hp, _⟩ <;> exact ⟨_, hp⟩
   have er : p.shutN i g = p := by unfold PM.shutN dropL; rw [he, if_neg (by decide)]
   rw [er, he] at hK
   conv => whnf
   repeat' first | ((first | refine auTq ?_ | refine auFq ?_ | refine auIk ?_ | refine auIi ?_ | refine auT ?_ | refine auF ?_ | with_reducible first | refine auKt ?_ | refine auKf ?_ | refine auNt ?_ | refine auNf ?_ | refine auEt ?_ | refine auEf ?_); conv => whnf) | ((with_reducible first | refine br_dec ?_ ?_ | refine br_ndec ?_ ?_ | refine br_ne ?_ ?_ | refine br_eq ?_ ?_) <;> intro h <;> first | (exfalso; omega) | conv => whnf) | (refine br_intro ?_ ?_ <;> intro h <;> conv => whnf) | ((first | refine auNd ?_ | refine idx_nat (by omega) (fun x hx => ?_) | refine frz_auto ?_ | refine draw_plain ?_ | refine auIx (fun x hx => ?_)); conv => whnf)
   all_goals
    refine exA [0, 1, 2, 3, 4] ?_
    conv => whnf
    repeat (refine auNd ?_; conv => whnf)
    exact hK _ _ _ _ _ _ hr
  ·obtain ⟨_, hp⟩ : True ∧ C[(i - 1).toNat]? = some (g, none, ()) := by
    rcases hr.cAt hq with h | ⟨b, m, a, h, _⟩
    ·exact ⟨trivial, h.2⟩
    ·cases h
   have er : p.shutN i g = p := by unfold PM.shutN dropL; rw [he, if_neg (by decide)]
   rw [er, he] at hK
   conv => whnf
   repeat' first | ((first | refine auTq ?_ | refine auFq ?_ | refine auIk ?_ | refine auIi ?_ | refine auT ?_ | refine auF ?_ | with_reducible first | refine auKt ?_ | refine auKf ?_ | refine auNt ?_ | refine auNf ?_ | refine auEt ?_ | refine auEf ?_); conv => whnf) | ((with_reducible first | refine br_dec ?_ ?_ | refine br_ndec ?_ ?_ | refine br_ne ?_ ?_ | refine br_eq ?_ ?_) <;> intro h <;> first | (exfalso; omega) | conv => whnf) | (refine br_intro ?_ ?_ <;> intro h <;> conv => whnf) | ((first | refine auNd ?_ | refine idx_nat (by omega) (fun x hx => ?_) | refine frz_auto ?_ | refine draw_plain ?_ | refine auIx (fun x hx => ?_)); conv => whnf)
   all_goals
    refine exA [0, 1, 2, 3, 4] ?_
    conv => whnf
    repeat (refine auNd ?_; conv => whnf)
    exact hK _ _ _ _ _ _ hr
  ·obtain ⟨m, a⟩ := x
   obtain ⟨b, hp, hb⟩ : ∃ b, C[(i - 1).toNat]? = some (g, some b, ()) ∧ lkB m1 b = some (m, a, ()) := by
    rcases hr.cAt hq with h | ⟨b, m, a, h, h2, h3⟩
    ·cases h.1
    ·cases h; exact ⟨b, h2, h3⟩
   have hb1 := bxL_at hb
   obtain ⟨hm, ha0, ha1⟩ := hq0.2.2 m a rfl
   have hm1 : m.length ≤ 4611686018427387904 := Nat.le_trans hm (by decide)
   have er : p.shutN i g = { p with curs := p.curs.set (i - 1).toNat (g, none) } := by unfold PM.shutN dropL; rw [he, if_pos rfl]
   rw [er, he] at hK
   conv => whnf
   repeat' first | ((first | refine auTq ?_ | refine auFq ?_ | refine auIk ?_ | refine auIi ?_ | refine auT ?_ | refine auF ?_ | with_reducible first | refine auKt ?_ | refine auKf ?_ | refine auNt ?_ | refine auNf ?_ | refine auEt ?_ | refine auEf ?_); conv => whnf) | ((with_reducible first | refine br_dec ?_ ?_ | refine br_ndec ?_ ?_ | refine br_ne ?_ ?_ | refine br_eq ?_ ?_) <;> intro h <;> first | (exfalso; omega) | conv => whnf) | (refine br_intro ?_ ?_ <;> intro h <;> conv => whnf) | ((first | refine auNd ?_ | refine idx_nat (by omega) (fun x hx => ?_) | refine frz_auto ?_ | refine draw_plain ?_ | refine auIx (fun x hx => ?_)); conv => whnf)
   all_goals
    refine exA [0, 1, 2, 3, 4] ?_
    conv => whnf
    repeat (refine auNd ?_; conv => whnf)
    have h9 := hK m0 m1 gP _ gC _ (hr.cSet (j := (i - 1).toNat) (g := g))
    simp only [XH, List.length_set] at h9
    exact h9
def xNextA : LocA := fun ys h K => ∃ i g : Int, xP [.ptr 2 0, .agg [.int .i64 i, .int .i64 g]] (fun p => p.nextN i g) (fun p => .tup [avV pairT (p.nextP i g), .int .i64 (p.nextE i g)]) ys h K
set_option maxRecDepth 100000 in
set_option maxHeartbeats 4000000 in
theorem xNext_ok : LocOk Try.prog 44 xNextA := by
 refine loc_body (C := cxX) mixed tbOk specsX callX fnOk_xNext ?_
 rintro ys h0 K ⟨i, g, p, k, m0, m1, gP, P, gC, C, rfl, rfl, hw, hk, hr, hK⟩
 have h0 := hw.hd.len
 have h1 : p.hd.length ≤ 4611686018427387904 := Nat.le_trans h0 (by decide)
 have hpl := hr.pl
 have hpl2 := hw.pl
 have hcl := hr.cl
 have hcl2 := hw.cl
 rcases slot_cases p.curs i g with ⟨hc, he⟩ | ⟨c1, c2, g0, o, hq, hc⟩
 ·have hc : i < 1 ∨ (C.length : Int) < i := by omega
  have er : p.nextE i g = 4 := by unfold PM.nextE; rw [he, if_pos (by decide)]
  have eN : p.nextN i g = p := by unfold PM.nextN; rw [er, if_neg (by decide)]
  have eP : p.nextP i g = noP := by unfold PM.nextP; rw [er, if_neg (by decide)]
  rw [eN, er, eP] at hK
  conv => whnf
  repeat' first | ((first | refine auTq ?_ | refine auFq ?_ | refine auIk ?_ | refine auIi ?_ | refine auT ?_ | refine auF ?_ | with_reducible first | refine auKt ?_ | refine auKf ?_ | refine auNt ?_ | refine auNf ?_ | refine auEt ?_ | refine auEf ?_); conv => whnf) | ((with_reducible first | refine br_dec ?_ ?_ | refine br_ndec ?_ ?_ | refine br_ne ?_ ?_ | refine br_eq ?_ ?_) <;> intro h <;> first | (exfalso; omega) | conv => whnf) | (refine br_intro ?_ ?_ <;> intro h <;> conv => whnf) | ((first | refine auNd ?_ | refine idx_nat (by omega) (fun x hx => ?_) | refine frz_auto ?_ | refine draw_plain ?_ | refine auIx (fun x hx => ?_)); conv => whnf)
  all_goals
   refine exA [0, 1, 2, 3, 4] ?_
   conv => whnf
   repeat (refine auNd ?_; conv => whnf)
   exact hK _ _ _ _ _ _ hr
 ·have c2 : i ≤ (C.length : Int) := by omega
  have c5 : inR .i64 (i - 1) := by simp only [inR]; omega
  have hq0 := hw.cur _ (List.mem_of_getElem? hq)
  have c3 : 0 ≤ g0 := hq0.1
  have c4 : g0 ≤ (k : Int) := hq0.2.1
  rcases hc with ⟨hc, he⟩ | ⟨hc1, hc2, he⟩ | ⟨hc1, rfl, rfl, he⟩ | ⟨hc1, rfl, x, rfl, he⟩
  ·obtain ⟨o', hp⟩ : ∃ o', C[(i - 1).toNat]? = some (g0, o', ()) := by
    rcases hr.cAt hq with ⟨_, hp⟩ | ⟨b, m, a, _, hp, _⟩ <;> exact ⟨_, hp⟩
   have er : p.nextE i g = 4 := by unfold PM.nextE; rw [he, if_pos (by decide)]
   have eN : p.nextN i g = p := by unfold PM.nextN; rw [er, if_neg (by decide)]
   have eP : p.nextP i g = noP := by unfold PM.nextP; rw [er, if_neg (by decide)]
   rw [eN, er, eP] at hK
   conv => whnf
   repeat' first | ((first | refine auTq ?_ | refine auFq ?_ | refine auIk ?_ | refine auIi ?_ | refine auT ?_ | refine auF ?_ | with_reducible first | refine auKt ?_ | refine auKf ?_ | refine auNt ?_ | refine auNf ?_ | refine auEt ?_ | refine auEf ?_); conv => whnf) | ((with_reducible first | refine br_dec ?_ ?_ | refine br_ndec ?_ ?_ | refine br_ne ?_ ?_ | refine br_eq ?_ ?_) <;> intro h <;> first | (exfalso; omega) | conv => whnf) | (refine br_intro ?_ ?_ <;> intro h <;> conv => whnf) | ((first | refine auNd ?_ | refine idx_nat (by omega) (fun x hx => ?_) | refine frz_auto ?_ | refine draw_plain ?_ | refine auIx (fun x hx => ?_)); conv => whnf)
   all_goals
    refine exA [0, 1, 2, 3, 4] ?_
    conv => whnf
    repeat (refine auNd ?_; conv => whnf)
    exact hK _ _ _ _ _ _ hr
  ·obtain ⟨o', hp⟩ : ∃ o', C[(i - 1).toNat]? = some (g0, o', ()) := by
    rcases hr.cAt hq with ⟨_, hp⟩ | ⟨b, m, a, _, hp, _⟩ <;> exact ⟨_, hp⟩
   have er : p.nextE i g = 11 := by unfold PM.nextE; rw [he, if_pos (by decide)]
   have eN : p.nextN i g = p := by unfold PM.nextN; rw [er, if_neg (by decide)]
   have eP : p.nextP i g = noP := by unfold PM.nextP; rw [er, if_neg (by decide)]
   rw [eN, er, eP] at hK
   conv => whnf
   repeat' first | ((first | refine auTq ?_ | refine auFq ?_ | refine auIk ?_ | refine auIi ?_ | refine auT ?_ | refine auF ?_ | with_reducible first | refine auKt ?_ | refine auKf ?_ | refine auNt ?_ | refine auNf ?_ | refine auEt ?_ | refine auEf ?_); conv => whnf) | ((with_reducible first | refine br_dec ?_ ?_ | refine br_ndec ?_ ?_ | refine br_ne ?_ ?_ | refine br_eq ?_ ?_) <;> intro h <;> first | (exfalso; omega) | conv => whnf) | (refine br_intro ?_ ?_ <;> intro h <;> conv => whnf) | ((first | refine auNd ?_ | refine idx_nat (by omega) (fun x hx => ?_) | refine frz_auto ?_ | refine draw_plain ?_ | refine auIx (fun x hx => ?_)); conv => whnf)
   all_goals
    refine exA [0, 1, 2, 3, 4] ?_
    conv => whnf
    repeat (refine auNd ?_; conv => whnf)
    exact hK _ _ _ _ _ _ hr
  ·obtain ⟨_, hp⟩ : True ∧ C[(i - 1).toNat]? = some (g, none, ()) := by
    rcases hr.cAt hq with h | ⟨b, m, a, h, _⟩
    ·exact ⟨trivial, h.2⟩
    ·cases h
   have er : p.nextE i g = 11 := by unfold PM.nextE; rw [he, if_pos (by decide)]
   have eN : p.nextN i g = p := by unfold PM.nextN; rw [er, if_neg (by decide)]
   have eP : p.nextP i g = noP := by unfold PM.nextP; rw [er, if_neg (by decide)]
   rw [eN, er, eP] at hK
   conv => whnf
   repeat' first | ((first | refine auTq ?_ | refine auFq ?_ | refine auIk ?_ | refine auIi ?_ | refine auT ?_ | refine auF ?_ | with_reducible first | refine auKt ?_ | refine auKf ?_ | refine auNt ?_ | refine auNf ?_ | refine auEt ?_ | refine auEf ?_); conv => whnf) | ((with_reducible first | refine br_dec ?_ ?_ | refine br_ndec ?_ ?_ | refine br_ne ?_ ?_ | refine br_eq ?_ ?_) <;> intro h <;> first | (exfalso; omega) | conv => whnf) | (refine br_intro ?_ ?_ <;> intro h <;> conv => whnf) | ((first | refine auNd ?_ | refine idx_nat (by omega) (fun x hx => ?_) | refine frz_auto ?_ | refine draw_plain ?_ | refine auIx (fun x hx => ?_)); conv => whnf)
   all_goals
    refine exA [0, 1, 2, 3, 4] ?_
    conv => whnf
    repeat (refine auNd ?_; conv => whnf)
    exact hK _ _ _ _ _ _ hr
  ·obtain ⟨m, a⟩ := x
   obtain ⟨b, hp, hb⟩ : ∃ b, C[(i - 1).toNat]? = some (g, some b, ()) ∧ lkB m1 b = some (m, a, ()) := by
    rcases hr.cAt hq with h | ⟨b, m, a, h, h2, h3⟩
    ·cases h.1
    ·cases h; exact ⟨b, h2, h3⟩
   have hb1 := bxL_at hb
   obtain ⟨hm, ha0, ha1⟩ := hq0.2.2 m a rfl
   have hm1 : m.length ≤ 4611686018427387904 := Nat.le_trans hm (by decide)
   have ev : p.curV i = (m, a) := by unfold PM.curV; rw [lookV_at hq]; rfl
   by_cases hend : a = (m.length : Int)
   ·have er : p.nextE i g = 12 := by unfold PM.nextE; rw [he, if_neg (by decide), ev, if_pos hend]
    have eN : p.nextN i g = p := by unfold PM.nextN; rw [er, if_neg (by decide)]
    have eP : p.nextP i g = noP := by unfold PM.nextP; rw [er, if_neg (by decide)]
    rw [eN, er, eP] at hK
    conv => whnf
    repeat' first | ((first | refine auTq ?_ | refine auFq ?_ | refine auIk ?_ | refine auIi ?_ | refine auT ?_ | refine auF ?_ | with_reducible first | refine auKt ?_ | refine auKf ?_ | refine auNt ?_ | refine auNf ?_ | refine auEt ?_ | refine auEf ?_); conv => whnf) | ((with_reducible first | refine br_dec ?_ ?_ | refine br_ndec ?_ ?_ | refine br_ne ?_ ?_ | refine br_eq ?_ ?_) <;> intro h <;> first | (exfalso; omega) | conv => whnf) | (refine br_intro ?_ ?_ <;> intro h <;> conv => whnf) | ((first | refine auNd ?_ | refine idx_nat (by omega) (fun x hx => ?_) | refine frz_auto ?_ | refine draw_plain ?_ | refine auIx (fun x hx => ?_)); conv => whnf)
    all_goals
     refine exA [0, 1, 2, 3, 4] ?_
     conv => whnf
     repeat (refine auNd ?_; conv => whnf)
     exact hK _ _ _ _ _ _ hr
   ·have er : p.nextE i g = 0 := by unfold PM.nextE; rw [he, if_neg (by decide), ev, if_neg hend]
    have hj : a.toNat < m.length := by omega
    obtain ⟨y, hy⟩ : ∃ y, m[a.toNat]? = some y := ⟨_, List.getElem?_eq_getElem hj⟩
    have eN : p.nextN i g = { p with curs := p.curs.set (i - 1).toNat (g, some (m, a + 1)) } := by unfold PM.nextN; rw [er, if_pos rfl, ev]
    have eP : p.nextP i g = y := by unfold PM.nextP; rw [er, if_pos rfl, ev]; show (m[a.toNat]?).getD noP = y; rw [hy]; rfl
    rw [eN, er, eP] at hK
    have hb2 : (bxL (upB m1 b (m, a + 1, ())) b)[(0 : Int).toNat]? = some (m, a + 1, ()) := bxL_at (by rw [lkB_up hb, if_pos rfl])
    have hy2 : m[(a + 1 - 1).toNat]? = some y := by rw [show a + 1 - 1 = a by omega]; exact hy
    have ha3 : 0 ≤ a + 1 - 1 := by omega
    conv => whnf
    repeat' first | ((first | refine auTq ?_ | refine auFq ?_ | refine auIk ?_ | refine auIi ?_ | refine auT ?_ | refine auF ?_ | with_reducible first | refine auKt ?_ | refine auKf ?_ | refine auNt ?_ | refine auNf ?_ | refine auEt ?_ | refine auEf ?_); conv => whnf) | ((with_reducible first | refine br_dec ?_ ?_ | refine br_ndec ?_ ?_ | refine br_ne ?_ ?_ | refine br_eq ?_ ?_) <;> intro h <;> first | (exfalso; omega) | conv => whnf) | (refine br_intro ?_ ?_ <;> intro h <;> conv => whnf) | ((first | refine auNd ?_ | refine idx_nat (by omega) (fun x hx => ?_) | refine frz_auto ?_ | refine draw_plain ?_ | refine auIx (fun x hx => ?_)); conv => whnf)
    all_goals
     refine exA [0, 1, 2, 3, 4] ?_
     conv => whnf
     repeat (refine auNd ?_; conv => whnf)
     exact hK _ _ _ _ _ _ (hr.cMove hq hp hb)
def xPrevA : LocA := fun ys h K => ∃ i g : Int, xP [.ptr 2 0, .agg [.int .i64 i, .int .i64 g]] (fun p => p.prevN i g) (fun p => .tup [avV pairT (p.prevP i g), .int .i64 (p.prevE i g)]) ys h K
set_option maxRecDepth 100000 in
set_option maxHeartbeats 4000000 in
theorem xPrev_ok : LocOk Try.prog 45 xPrevA := by
 refine loc_body (C := cxX) mixed tbOk specsX callX fnOk_xPrev ?_
 rintro ys h0 K ⟨i, g, p, k, m0, m1, gP, P, gC, C, rfl, rfl, hw, hk, hr, hK⟩
 have h0 := hw.hd.len
 have h1 : p.hd.length ≤ 4611686018427387904 := Nat.le_trans h0 (by decide)
 have hpl := hr.pl
 have hpl2 := hw.pl
 have hcl := hr.cl
 have hcl2 := hw.cl
 rcases slot_cases p.curs i g with ⟨hc, he⟩ | ⟨c1, c2, g0, o, hq, hc⟩
 ·have hc : i < 1 ∨ (C.length : Int) < i := by omega
  have er : p.prevE i g = 4 := by unfold PM.prevE; rw [he, if_pos (by decide)]
  have eN : p.prevN i g = p := by unfold PM.prevN; rw [er, if_neg (by decide)]
  have eP : p.prevP i g = noP := by unfold PM.prevP; rw [er, if_neg (by decide)]
  rw [eN, er, eP] at hK
  conv => whnf
  repeat' first | ((first | refine auTq ?_ | refine auFq ?_ | refine auIk ?_ | refine auIi ?_ | refine auT ?_ | refine auF ?_ | with_reducible first | refine auKt ?_ | refine auKf ?_ | refine auNt ?_ | refine auNf ?_ | refine auEt ?_ | refine auEf ?_); conv => whnf) | ((with_reducible first | refine br_dec ?_ ?_ | refine br_ndec ?_ ?_ | refine br_ne ?_ ?_ | refine br_eq ?_ ?_) <;> intro h <;> first | (exfalso; omega) | conv => whnf) | (refine br_intro ?_ ?_ <;> intro h <;> conv => whnf) | ((first | refine auNd ?_ | refine idx_nat (by omega) (fun x hx => ?_) | refine frz_auto ?_ | refine draw_plain ?_ | refine auIx (fun x hx => ?_)); conv => whnf)
  all_goals
   refine exA [0, 1, 2, 3, 4] ?_
   conv => whnf
   repeat (refine auNd ?_; conv => whnf)
   exact hK _ _ _ _ _ _ hr
 ·have c2 : i ≤ (C.length : Int) := by omega
  have c5 : inR .i64 (i - 1) := by simp only [inR]; omega
  have hq0 := hw.cur _ (List.mem_of_getElem? hq)
  have c3 : 0 ≤ g0 := hq0.1
  have c4 : g0 ≤ (k : Int) := hq0.2.1
  rcases hc with ⟨hc, he⟩ | ⟨hc1, hc2, he⟩ | ⟨hc1, rfl, rfl, he⟩ | ⟨hc1, rfl, x, rfl, he⟩
  ·obtain ⟨o', hp⟩ : ∃ o', C[(i - 1).toNat]? = some (g0, o', ()) := by
    rcases hr.cAt hq with ⟨_, hp⟩ | ⟨b, m, a, _, hp, _⟩ <;> exact ⟨_, hp⟩
   have er : p.prevE i g = 4 := by unfold PM.prevE; rw [he, if_pos (by decide)]
   have eN : p.prevN i g = p := by unfold PM.prevN; rw [er, if_neg (by decide)]
   have eP : p.prevP i g = noP := by unfold PM.prevP; rw [er, if_neg (by decide)]
   rw [eN, er, eP] at hK
   conv => whnf
   repeat' first | ((first | refine auTq ?_ | refine auFq ?_ | refine auIk ?_ | refine auIi ?_ | refine auT ?_ | refine auF ?_ | with_reducible first | refine auKt ?_ | refine auKf ?_ | refine auNt ?_ | refine auNf ?_ | refine auEt ?_ | refine auEf ?_); conv => whnf) | ((with_reducible first | refine br_dec ?_ ?_ | refine br_ndec ?_ ?_ | refine br_ne ?_ ?_ | refine br_eq ?_ ?_) <;> intro h <;> first | (exfalso; omega) | conv => whnf) | (refine br_intro ?_ ?_ <;> intro h <;> conv => whnf) | ((first | refine auNd ?_ | refine idx_nat (by omega) (fun x hx => ?_) | refine frz_auto ?_ | refine draw_plain ?_ | refine auIx (fun x hx => ?_)); conv => whnf)
   all_goals
    refine exA [0, 1, 2, 3, 4] ?_
    conv => whnf
    repeat (refine auNd ?_; conv => whnf)
    exact hK _ _ _ _ _ _ hr
  ·obtain ⟨o', hp⟩ : ∃ o', C[(i - 1).toNat]? = some (g0, o', ()) := by
    rcases hr.cAt hq with ⟨_, hp⟩ | ⟨b, m, a, _, hp, _⟩ <;> exact ⟨_, hp⟩
   have er : p.prevE i g = 11 := by unfold PM.prevE; rw [he, if_pos (by decide)]
   have eN : p.prevN i g = p := by unfold PM.prevN; rw [er, if_neg (by decide)]
   have eP : p.prevP i g = noP := by unfold PM.prevP; rw [er, if_neg (by decide)]
   rw [eN, er, eP] at hK
   conv => whnf
   repeat' first | ((first | refine auTq ?_ | refine auFq ?_ | refine auIk ?_ | refine auIi ?_ | refine auT ?_ | refine auF ?_ | with_reducible first | refine auKt ?_ | refine auKf ?_ | refine auNt ?_ | refine auNf ?_ | refine auEt ?_ | refine auEf ?_); conv => whnf) | ((with_reducible first | refine br_dec ?_ ?_ | refine br_ndec ?_ ?_ | refine br_ne ?_ ?_ | refine br_eq ?_ ?_) <;> intro h <;> first | (exfalso; omega) | conv => whnf) | (refine br_intro ?_ ?_ <;> intro h <;> conv => whnf) | ((first | refine auNd ?_ | refine idx_nat (by omega) (fun x hx => ?_) | refine frz_auto ?_ | refine draw_plain ?_ | refine auIx (fun x hx => ?_)); conv => whnf)
   all_goals
    refine exA [0, 1, 2, 3, 4] ?_
    conv => whnf
    repeat (refine auNd ?_; conv => whnf)
    exact hK _ _ _ _ _ _ hr
  ·obtain ⟨_, hp⟩ : True ∧ C[(i - 1).toNat]? = some (g, none, ()) := by
    rcases hr.cAt hq with h | ⟨b, m, a, h, _⟩
    ·exact ⟨trivial, h.2⟩
    ·cases h
   have er : p.prevE i g = 11 := by unfold PM.prevE; rw [he, if_pos (by decide)]
   have eN : p.prevN i g = p := by unfold PM.prevN; rw [er, if_neg (by decide)]
   have eP : p.prevP i g = noP := by unfold PM.prevP; rw [er, if_neg (by decide)]
   rw [eN, er, eP] at hK
   conv => whnf
   repeat' first | ((first | refine auTq ?_ | refine auFq ?_ | refine auIk ?_ | refine auIi ?_ | refine auT ?_ | refine auF ?_ | with_reducible first | refine auKt ?_ | refine auKf ?_ | refine auNt ?_ | refine auNf ?_ | refine auEt ?_ | refine auEf ?_); conv => whnf) | ((with_reducible first | refine br_dec ?_ ?_ | refine br_ndec ?_ ?_ | refine br_ne ?_ ?_ | refine br_eq ?_ ?_) <;> intro h <;> first | (exfalso; omega) | conv => whnf) | (refine br_intro ?_ ?_ <;> intro h <;> conv => whnf) | ((first | refine auNd ?_ | refine idx_nat (by omega) (fun x hx => ?_) | refine frz_auto ?_ | refine draw_plain ?_ | refine auIx (fun x hx => ?_)); conv => whnf)
   all_goals
    refine exA [0, 1, 2, 3, 4] ?_
    conv => whnf
    repeat (refine auNd ?_; conv => whnf)
    exact hK _ _ _ _ _ _ hr
  ·obtain ⟨m, a⟩ := x
   obtain ⟨b, hp, hb⟩ : ∃ b, C[(i - 1).toNat]? = some (g, some b, ()) ∧ lkB m1 b = some (m, a, ()) := by
    rcases hr.cAt hq with h | ⟨b, m, a, h, h2, h3⟩
    ·cases h.1
    ·cases h; exact ⟨b, h2, h3⟩
   have hb1 := bxL_at hb
   obtain ⟨hm, ha0, ha1⟩ := hq0.2.2 m a rfl
   have hm1 : m.length ≤ 4611686018427387904 := Nat.le_trans hm (by decide)
   have ev : p.curV i = (m, a) := by unfold PM.curV; rw [lookV_at hq]; rfl
   by_cases hend : a = 0
   ·have er : p.prevE i g = 12 := by unfold PM.prevE; rw [he, if_neg (by decide), ev, if_pos hend]
    have eN : p.prevN i g = p := by unfold PM.prevN; rw [er, if_neg (by decide)]
    have eP : p.prevP i g = noP := by unfold PM.prevP; rw [er, if_neg (by decide)]
    rw [eN, er, eP] at hK
    conv => whnf
    repeat' first | ((first | refine auTq ?_ | refine auFq ?_ | refine auIk ?_ | refine auIi ?_ | refine auT ?_ | refine auF ?_ | with_reducible first | refine auKt ?_ | refine auKf ?_ | refine auNt ?_ | refine auNf ?_ | refine auEt ?_ | refine auEf ?_); conv => whnf) | ((with_reducible first | refine br_dec ?_ ?_ | refine br_ndec ?_ ?_ | refine br_ne ?_ ?_ | refine br_eq ?_ ?_) <;> intro h <;> first | (exfalso; omega) | conv => whnf) | (refine br_intro ?_ ?_ <;> intro h <;> conv => whnf) | ((first | refine auNd ?_ | refine idx_nat (by omega) (fun x hx => ?_) | refine frz_auto ?_ | refine draw_plain ?_ | refine auIx (fun x hx => ?_)); conv => whnf)
    all_goals
     refine exA [0, 1, 2, 3, 4] ?_
     conv => whnf
     repeat (refine auNd ?_; conv => whnf)
     exact hK _ _ _ _ _ _ hr
   ·have er : p.prevE i g = 0 := by unfold PM.prevE; rw [he, if_neg (by decide), ev, if_neg hend]
    have hj : (a - 1).toNat < m.length := by omega
    obtain ⟨y, hy⟩ : ∃ y, m[(a - 1).toNat]? = some y := ⟨_, List.getElem?_eq_getElem hj⟩
    have eN : p.prevN i g = { p with curs := p.curs.set (i - 1).toNat (g, some (m, a - 1)) } := by unfold PM.prevN; rw [er, if_pos rfl, ev]
    have eP : p.prevP i g = y := by unfold PM.prevP; rw [er, if_pos rfl, ev]; show (m[(a - 1).toNat]?).getD noP = y; rw [hy]; rfl
    rw [eN, er, eP] at hK
    have hb2 : (bxL (upB m1 b (m, a - 1, ())) b)[(0 : Int).toNat]? = some (m, a - 1, ()) := bxL_at (by rw [lkB_up hb, if_pos rfl])
    have ha3 : 0 ≤ a - 1 := by omega
    conv => whnf
    repeat' first | ((first | refine auTq ?_ | refine auFq ?_ | refine auIk ?_ | refine auIi ?_ | refine auT ?_ | refine auF ?_ | with_reducible first | refine auKt ?_ | refine auKf ?_ | refine auNt ?_ | refine auNf ?_ | refine auEt ?_ | refine auEf ?_); conv => whnf) | ((with_reducible first | refine br_dec ?_ ?_ | refine br_ndec ?_ ?_ | refine br_ne ?_ ?_ | refine br_eq ?_ ?_) <;> intro h <;> first | (exfalso; omega) | conv => whnf) | (refine br_intro ?_ ?_ <;> intro h <;> conv => whnf) | ((first | refine auNd ?_ | refine idx_nat (by omega) (fun x hx => ?_) | refine frz_auto ?_ | refine draw_plain ?_ | refine auIx (fun x hx => ?_)); conv => whnf)
    all_goals
     refine exA [0, 1, 2, 3, 4] ?_
     conv => whnf
     repeat (refine auNd ?_; conv => whnf)
     exact hK _ _ _ _ _ _ (hr.cMove hq hp hb)
end Go.Proofs.Ytbbklijmnknmhaa
