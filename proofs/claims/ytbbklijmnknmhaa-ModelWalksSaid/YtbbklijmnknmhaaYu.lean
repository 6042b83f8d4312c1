/-
  The first slot of a table that is free.
  A table gives a slot.
-/
import Derived.Test.YtbbklijmnknmhaaYs
namespace Go.Proofs.Ytbbklijmnknmhaa
open Av Bk

def freeX : List (Int × Option Nat × Unit) → Nat
 | [] => 0
 | q :: l => if q.2.1.isNone = true then 0 else freeX l + 1
def ixX (l : List (Int × Option Nat × Unit)) : Int := if freeX l < l.length then (freeX l : Int) else -1
theorem freeX_at : ∀ {l : List (Int × Option Nat × Unit)} {i : Nat} {g : Int}, (∀ y ∈ l.take i, y.2.1.isNone = false) → l[i]? = some (g, none, ()) → freeX l = i
 | [], i, g, _, h => by simp at h
 | y :: l, 0, g, _, h => by
  simp at h
  subst h
  rfl
 | y :: l, i + 1, g, ha, h => by
  simp only [freeX]
  rw [ha y (by simp), if_neg (by decide), freeX_at (i := i) (fun z hz => ha z (by rw [List.take_succ_cons]; exact List.mem_cons_of_mem _ hz)) (by simpa using h)]
theorem freeX_end : ∀ {l : List (Int × Option Nat × Unit)}, (∀ y ∈ l, y.2.1.isNone = false) → freeX l = l.length
 | [], _ => rfl
 | y :: l, ha => by
  simp only [freeX]
  rw [ha y (by simp), if_neg (by decide), freeX_end (fun z hz => ha z (by simp [hz]))]
  rfl
def spIxp : DSpec
 | [.lst (.st [.int .i64, .raw 0]) P, .fn (.func n) [] []] => some (n = 101 ∧ P.length ≤ 1000, .int .i64 (ixX P))
 | _ => none
noncomputable def cxIxp : Cx := ⟨tb, [(101, Try.f101)], []⟩
theorem fnsIxp : FnsOk Try.prog cxIxp.fns := .cons fnOk_tpGive1 .nil
set_option maxRecDepth 100000 in
set_option maxHeartbeats 4000000 in
theorem pIx_ok : SpecOk Try.prog 100 spIxp := by
 refine spec_body (C := cxIxp) mixed tbOk SpecsOk.nil (callN_ok (C := cxIxp) mixed tbOk SpecsOk.nil fnsIxp 1) fnOk_tpIdx ?_
 intro ys p r h hp
 unfold spIxp at h
 split at h
 ·rename_i P n
  cases h
  obtain ⟨rfl, hp⟩ := hp
  conv => whnf
  repeat' first | ((first | refine auTq ?_ | refine auFq ?_ | refine auIk ?_ | refine auIi ?_ | refine auT ?_ | refine auF ?_ | with_reducible first | refine auKt ?_ | refine auKf ?_ | refine auNt ?_ | refine auNf ?_ | refine auEt ?_ | refine auEf ?_); conv => whnf) | ((with_reducible first | refine br_dec ?_ ?_ | refine br_ndec ?_ ?_ | refine br_ne ?_ ?_ | refine br_eq ?_ ?_) <;> intro h <;> first | (exfalso; omega) | conv => whnf) | (refine br_intro ?_ ?_ <;> intro h <;> conv => whnf) | ((first | refine auNd ?_ | refine idx_nat (by omega) (fun x hx => ?_) | refine frz_auto ?_ | refine draw_plain ?_ | refine auIx (fun x hx => ?_)); conv => whnf)
  refine loop_inv [] [8] (fun vs h => ∃ i : Nat, vs = [.int .i64 (i : Int)] ∧ h = [] ∧ i ≤ P.length ∧ ∀ y ∈ P.take i, y.2.1.isNone = false) (fun vs _ => match vs with | [.int _ k] => P.length - k.toNat | _ => 0) ?_
  conv => whnf
  refine ⟨⟨0, rfl, rfl, Nat.zero_le _, by simp⟩, ?_⟩
  rintro vs h' - ⟨i, rfl, rfl, hi, hall⟩
  by_cases hil : i < P.length
  ·obtain ⟨x, hx⟩ : ∃ x, P[i]? = some x := ⟨_, List.getElem?_eq_getElem hil⟩
   obtain ⟨g, o, u⟩ := x
   cases o with
   | none =>
    have hf : ixX P = (i : Int) := by unfold ixX; rw [freeX_at hall hx, if_pos hil]
    rw [hf]
    conv => whnf
    repeat' first | ((first | refine auTq ?_ | refine auFq ?_ | refine auIk ?_ | refine auIi ?_ | refine auT ?_ | refine auF ?_ | with_reducible first | refine auKt ?_ | refine auKf ?_ | refine auNt ?_ | refine auNf ?_ | refine auEt ?_ | refine auEf ?_); conv => whnf) | ((with_reducible first | refine br_dec ?_ ?_ | refine br_ndec ?_ ?_ | refine br_ne ?_ ?_ | refine br_eq ?_ ?_) <;> intro h <;> first | (exfalso; omega) | conv => whnf) | (refine br_intro ?_ ?_ <;> intro h <;> conv => whnf) | ((first | refine auNd ?_ | refine idx_nat (by omega) (fun x hx => ?_) | refine frz_auto ?_ | refine draw_plain ?_ | refine auIx (fun x hx => ?_)); conv => whnf)
   | some b =>
    conv => whnf
    repeat' first | ((first | refine auTq ?_ | refine auFq ?_ | refine auIk ?_ | refine auIi ?_ | refine auT ?_ | refine auF ?_ | with_reducible first | refine auKt ?_ | refine auKf ?_ | refine auNt ?_ | refine auNf ?_ | refine auEt ?_ | refine auEf ?_); conv => whnf) | ((with_reducible first | refine br_dec ?_ ?_ | refine br_ndec ?_ ?_ | refine br_ne ?_ ?_ | refine br_eq ?_ ?_) <;> intro h <;> first | (exfalso; omega) | conv => whnf) | (refine br_intro ?_ ?_ <;> intro h <;> conv => whnf) | ((first | refine auNd ?_ | refine idx_nat (by omega) (fun x hx => ?_) | refine frz_auto ?_ | refine draw_plain ?_ | refine auIx (fun x hx => ?_)); conv => whnf)
    refine back_intro (by conv => whnf) rfl ⟨i + 1, rfl, rfl, by omega, ?_⟩ ?_
    ·intro y hy
     rw [List.take_add_one, hx] at hy
     rcases List.mem_append.1 hy with hy | hy
     ·exact hall y hy
     ·simp at hy
      subst hy
      rfl
    ·show P.length - ((i : Int) + 1).toNat < P.length - (i : Int).toNat
     omega
  ·have hf : ixX P = -1 := by
    unfold ixX
    rw [freeX_end (fun y hy => hall y (by rw [List.take_of_length_le (by omega)]; exact hy)), if_neg (Nat.lt_irrefl _)]
   rw [hf]
   conv => whnf
   repeat' first | ((first | refine auTq ?_ | refine auFq ?_ | refine auIk ?_ | refine auIi ?_ | refine auT ?_ | refine auF ?_ | with_reducible first | refine auKt ?_ | refine auKf ?_ | refine auNt ?_ | refine auNf ?_ | refine auEt ?_ | refine auEf ?_); conv => whnf) | ((with_reducible first | refine br_dec ?_ ?_ | refine br_ndec ?_ ?_ | refine br_ne ?_ ?_ | refine br_eq ?_ ?_) <;> intro h <;> first | (exfalso; omega) | conv => whnf) | (refine br_intro ?_ ?_ <;> intro h <;> conv => whnf) | ((first | refine auNd ?_ | refine idx_nat (by omega) (fun x hx => ?_) | refine frz_auto ?_ | refine draw_plain ?_ | refine auIx (fun x hx => ?_)); conv => whnf)
 ·cases h
def spIxc : DSpec
 | [.lst (.st [.int .i64, .raw 1]) P, .fn (.func n) [] []] => some (n = 97 ∧ P.length ≤ 1000, .int .i64 (ixX P))
 | _ => none
noncomputable def cxIxc : Cx := ⟨tb, [(97, Try.f97)], []⟩
theorem fnsIxc : FnsOk Try.prog cxIxc.fns := .cons fnOk_tcGive1 .nil
set_option maxRecDepth 100000 in
set_option maxHeartbeats 4000000 in
theorem cIx_ok : SpecOk Try.prog 96 spIxc := by
 refine spec_body (C := cxIxc) mixed tbOk SpecsOk.nil (callN_ok (C := cxIxc) mixed tbOk SpecsOk.nil fnsIxc 1) fnOk_tcIdx ?_
 intro ys p r h hp
 unfold spIxc at h
 split at h
 ·rename_i P n
  cases h
  obtain ⟨rfl, hp⟩ := hp
  conv => whnf
  repeat' first | ((first | refine auTq ?_ | refine auFq ?_ | refine auIk ?_ | refine auIi ?_ | refine auT ?_ | refine auF ?_ | with_reducible first | refine auKt ?_ | refine auKf ?_ | refine auNt ?_ | refine auNf ?_ | refine auEt ?_ | refine auEf ?_); conv => whnf) | ((with_reducible first | refine br_dec ?_ ?_ | refine br_ndec ?_ ?_ | refine br_ne ?_ ?_ | refine br_eq ?_ ?_) <;> intro h <;> first | (exfalso; omega) | conv => whnf) | (refine br_intro ?_ ?_ <;> intro h <;> conv => whnf) | ((first | refine auNd ?_ | refine idx_nat (by omega) (fun x hx => ?_) | refine frz_auto ?_ | refine draw_plain ?_ | refine auIx (fun x hx => ?_)); conv => whnf)
  refine loop_inv [] [8] (fun vs h => ∃ i : Nat, vs = [.int .i64 (i : Int)] ∧ h = [] ∧ i ≤ P.length ∧ ∀ y ∈ P.take i, y.2.1.isNone = false) (fun vs _ => match vs with | [.int _ k] => P.length - k.toNat | _ => 0) ?_
  conv => whnf
  refine ⟨⟨0, rfl, rfl, Nat.zero_le _, by simp⟩, ?_⟩
  rintro vs h' - ⟨i, rfl, rfl, hi, hall⟩
  by_cases hil : i < P.length
  ·obtain ⟨x, hx⟩ : ∃ x, P[i]? = some x := ⟨_, List.getElem?_eq_getElem hil⟩
   obtain ⟨g, o, u⟩ := x
   cases o with
   | none =>
    have hf : ixX P = (i : Int) := by unfold ixX; rw [freeX_at hall hx, if_pos hil]
    rw [hf]
    conv => whnf
    repeat' first | ((first | refine auTq ?_ | refine auFq ?_ | refine auIk ?_ | refine auIi ?_ | refine auT ?_ | refine auF ?_ | with_reducible first | refine auKt ?_ | refine auKf ?_ | refine auNt ?_ | refine auNf ?_ | refine auEt ?_ | refine auEf ?_); conv => whnf) | ((with_reducible first | refine br_dec ?_ ?_ | refine br_ndec ?_ ?_ | refine br_ne ?_ ?_ | refine br_eq ?_ ?_) <;> intro h <;> first | (exfalso; omega) | conv => whnf) | (refine br_intro ?_ ?_ <;> intro h <;> conv => whnf) | ((first | refine auNd ?_ | refine idx_nat (by omega) (fun x hx => ?_) | refine frz_auto ?_ | refine draw_plain ?_ | refine auIx (fun x hx => ?_)); conv => whnf)
   | some b =>
    conv => whnf
    repeat' first | ((first | refine auTq ?_ | refine auFq ?_ | refine auIk ?_ | refine auIi ?_ | refine auT ?_ | refine auF ?_ | with_reducible first | refine auKt ?_ | refine auKf ?_ | refine auNt ?_ | refine auNf ?_ | refine auEt ?_ | refine auEf ?_); conv => whnf) | ((with_reducible first | refine br_dec ?_ ?_ | refine br_ndec ?_ ?_ | refine br_ne ?_ ?_ | refine br_eq ?_ ?_) <;> intro h <;> first | (exfalso; omega) | conv => whnf) | (refine br_intro ?_ ?_ <;> intro h <;> conv => whnf) | ((first | refine auNd ?_ | refine idx_nat (by omega) (fun x hx => ?_) | refine frz_auto ?_ | refine draw_plain ?_ | refine auIx (fun x hx => ?_)); conv => whnf)
    refine back_intro (by conv => whnf) rfl ⟨i + 1, rfl, rfl, by omega, ?_⟩ ?_
    ·intro y hy
     rw [List.take_add_one, hx] at hy
     rcases List.mem_append.1 hy with hy | hy
     ·exact hall y hy
     ·simp at hy
      subst hy
      rfl
    ·show P.length - ((i : Int) + 1).toNat < P.length - (i : Int).toNat
     omega
  ·have hf : ixX P = -1 := by
    unfold ixX
    rw [freeX_end (fun y hy => hall y (by rw [List.take_of_length_le (by omega)]; exact hy)), if_neg (Nat.lt_irrefl _)]
   rw [hf]
   conv => whnf
   repeat' first | ((first | refine auTq ?_ | refine auFq ?_ | refine auIk ?_ | refine auIi ?_ | refine auT ?_ | refine auF ?_ | with_reducible first | refine auKt ?_ | refine auKf ?_ | refine auNt ?_ | refine auNf ?_ | refine auEt ?_ | refine auEf ?_); conv => whnf) | ((with_reducible first | refine br_dec ?_ ?_ | refine br_ndec ?_ ?_ | refine br_ne ?_ ?_ | refine br_eq ?_ ?_) <;> intro h <;> first | (exfalso; omega) | conv => whnf) | (refine br_intro ?_ ?_ <;> intro h <;> conv => whnf) | ((first | refine auNd ?_ | refine idx_nat (by omega) (fun x hx => ?_) | refine frz_auto ?_ | refine draw_plain ?_ | refine auIx (fun x hx => ?_)); conv => whnf)
 ·cases h
end Go.Proofs.Ytbbklijmnknmhaa
namespace Go.Proofs.Ytbbklijmnknmhaa
open Av Bk

theorem free_eq {β : Type} : ∀ {A : List (Int × Option Nat × Unit)} {B : List (Int × Option β)}, A.length = B.length → (∀ (j : Nat) x q, A[j]? = some x → B[j]? = some q → x.2.1.isNone = q.2.isNone) → freeX A = freeI B
 | [], [], _, _ => rfl
 | [], _ :: _, h, _ => by simp at h
 | _ :: _, [], h, _ => by simp at h
 | a :: A, q :: B, h, hp => by
  simp only [freeX, freeI]
  rw [hp 0 a q rfl rfl, free_eq (A := A) (B := B) (by simpa using h) (fun j x q hx hq => hp (j + 1) x q (by simpa using hx) (by simpa using hq))]
theorem freeI_at {β : Type} : ∀ {l : List (Int × Option β)}, freeI l < l.length → ∃ g, l[freeI l]? = some (g, none)
 | [], h => by simp at h
 | q :: l, h => by
  simp only [freeI] at h ⊢
  by_cases e : q.2.isNone = true
  ·rw [if_pos e]
   obtain ⟨g, o⟩ := q
   cases o with
   | none => exact ⟨g, rfl⟩
   | some x => cases e
  ·rw [if_neg e] at h ⊢
   obtain ⟨g, hg⟩ := freeI_at (l := l) (by simpa using h)
   exact ⟨g, by simpa using hg⟩
theorem freeI_le {β : Type} : ∀ (l : List (Int × Option β)), freeI l ≤ l.length
 | [] => Nat.le_refl _
 | y :: l => by
  simp only [freeI]
  split
  ·exact Nat.zero_le _
  ·exact Nat.succ_le_succ (freeI_le l)
theorem give_set {β : Type} {l : List (Int × Option β)} {g : Int} (h : l[freeI l]? = some (g, none)) (x : β) : giveL l x = l.set (freeI l) (g + 1, some x) ∧ giveH l = (((freeI l : Int) + 1, g + 1), 0) := by
 unfold giveL giveH
 rw [h]
 exact ⟨rfl, rfl⟩
theorem give_full {β : Type} {l : List (Int × Option β)} (h : freeI l = l.length) (h16 : l.length = 16) (x : β) : giveL l x = l ∧ giveH l = ((0, 0), 5) := by
 unfold giveL giveH
 rw [List.getElem?_eq_none (by omega)]
 exact ⟨if_pos h16, if_pos h16⟩
theorem give_new {β : Type} {l : List (Int × Option β)} (h : freeI l = l.length) (h16 : l.length ≠ 16) (x : β) : giveL l x = l ++ [(1, some x)] ∧ giveH l = (((l.length : Int) + 1, 1), 0) := by
 unfold giveL giveH
 rw [List.getElem?_eq_none (by omega)]
 exact ⟨if_neg h16, if_neg h16⟩
theorem lkB_cons {α : Type} {m : List (Nat × α)} {b b' : Nat} {x y : α} (hb : lkB m b = none) (h : lkB m b' = some y) : lkB ((b, x) :: m) b' = some y := by
 simp only [lkB]
 rw [if_neg]
 ·exact h
 ·rintro rfl
  rw [hb] at h
  cases h
theorem lkB_new {α : Type} {m : List (Nat × α)} {b : Nat} {x : α} : lkB ((b, x) :: m) b = some x := by
 simp only [lkB, if_true]
section
variable {p : PM} {m0 : List (Nat × List pairT.El)} {m1 : List (Nat × cuT.El)} {P : List slT.El} {C : List scT.El}
theorem XRel.pFree (h : XRel p m0 m1 P C) : freeX P = freeI p.pins := free_eq h.pl (fun j x q hx hq => by
 obtain ⟨_, h2⟩ := h.pr j x q hx hq
 rcases h2 with ⟨e1, e2⟩ | ⟨b, m, e1, e2, _⟩ <;> rw [e1, e2] <;> rfl)
theorem XRel.cFree (h : XRel p m0 m1 P C) : freeX C = freeI p.curs := free_eq h.cl (fun j x q hx hq => by
 obtain ⟨_, h2⟩ := h.cr j x q hx hq
 rcases h2 with ⟨e1, e2⟩ | ⟨b, m, a, e1, e2, _⟩ <;> rw [e1, e2] <;> rfl)
theorem XRel.pBox (h : XRel p m0 m1 P C) {b : Nat} (hb : lkB m0 b = none) {m : List pairT.El} : XRel p ((b, m) :: m0) m1 P C :=
 ⟨h.pl, h.cl, fun j x q hx hq => by
  obtain ⟨h1, h2⟩ := h.pr j x q hx hq
  refine ⟨h1, ?_⟩
  rcases h2 with h2 | ⟨b', m', e1, e2, e3⟩
  ·exact .inl h2
  ·exact .inr ⟨b', m', e1, e2, lkB_cons hb e3⟩, h.cr, h.inj⟩
theorem XRel.cBox (h : XRel p m0 m1 P C) {b : Nat} (hb : lkB m1 b = none) {m : cuT.El} : XRel p m0 ((b, m) :: m1) P C :=
 ⟨h.pl, h.cl, h.pr, fun j x q hx hq => by
  obtain ⟨h1, h2⟩ := h.cr j x q hx hq
  refine ⟨h1, ?_⟩
  rcases h2 with h2 | ⟨b', m', a', e1, e2, e3⟩
  ·exact .inl h2
  ·exact .inr ⟨b', m', a', e1, e2, lkB_cons hb e3⟩, h.inj⟩
theorem XRel.pGive (h : XRel p m0 m1 P C) {b : Nat} (hb : lkB m0 b = none) {m : List pairT.El} {j : Nat} {g : Int} : XRel { p with pins := p.pins.set j (g, some m) } ((b, m) :: m0) m1 (P.set j (g, some b, ())) C where
 pl := by rw [List.length_set]; show P.length = (List.set _ _ _).length; rw [List.length_set]; exact h.pl
 cl := h.cl
 pr := fun i x q hx hq => by
  have hq : (p.pins.set j (g, some m))[i]? = some q := hq
  rw [List.getElem?_set] at hx hq
  by_cases e : j = i
  ·rw [if_pos e] at hx hq
   split at hx
   ·split at hq
    ·cases hx; cases hq; exact ⟨rfl, .inr ⟨b, m, rfl, rfl, lkB_new⟩⟩
    ·cases hq
   ·cases hx
  ·rw [if_neg e] at hx hq
   exact (h.pBox hb).pr i x q hx hq
 cr := h.cr
 inj := h.inj
theorem XRel.pApp (h : XRel p m0 m1 P C) {b : Nat} (hb : lkB m0 b = none) {m : List pairT.El} {g : Int} : XRel { p with pins := p.pins ++ [(g, some m)] } ((b, m) :: m0) m1 (P ++ [(g, some b, ())]) C where
 pl := by show _ = List.length (_ ++ _); rw [List.length_append, List.length_append, h.pl]; rfl
 cl := h.cl
 pr := fun i x q hx hq => by
  have hq : (p.pins ++ [(g, some m)])[i]? = some q := hq
  by_cases e : i < P.length
  ·rw [List.getElem?_append_left e] at hx
   rw [List.getElem?_append_left (by rw [← h.pl]; exact e)] at hq
   exact (h.pBox hb).pr i x q hx hq
  ·rw [List.getElem?_append_right (by omega)] at hx
   rw [List.getElem?_append_right (by rw [← h.pl]; omega)] at hq
   rw [← h.pl] at hq
   cases hi : i - P.length with
   | zero =>
    rw [hi] at hx hq
    cases hx; cases hq
    exact ⟨rfl, .inr ⟨b, m, rfl, rfl, lkB_new⟩⟩
   | succ n =>
    rw [hi] at hx
    simp at hx
 cr := h.cr
 inj := h.inj
theorem XRel.bUsed (h : XRel p m0 m1 P C) {i b : Nat} {x : scT.El} (hx : C[i]? = some x) (he : x.2.1 = some b) : lkB m1 b ≠ none := by
 have hi : i < p.curs.length := by rw [← h.cl]; exact (List.getElem?_eq_some_iff.1 hx).1
 obtain ⟨_, h2⟩ := h.cr i x _ hx (List.getElem?_eq_getElem hi)
 rcases h2 with ⟨e1, _⟩ | ⟨b', m, a, e1, _, e3⟩
 ·rw [he] at e1; cases e1
 ·rw [he] at e1
  cases e1
  rw [e3]
  simp
theorem XRel.cGive (h : XRel p m0 m1 P C) {b : Nat} (hb : lkB m1 b = none) {m : List pairT.El} {a : Int} {j : Nat} {g : Int} : XRel { p with curs := p.curs.set j (g, some (m, a)) } m0 ((b, (m, a, ())) :: m1) P (C.set j (g, some b, ())) where
 pl := h.pl
 cl := by rw [List.length_set]; show C.length = (List.set _ _ _).length; rw [List.length_set]; exact h.cl
 pr := h.pr
 cr := fun i x q hx hq => by
  have hq : (p.curs.set j (g, some (m, a)))[i]? = some q := hq
  rw [List.getElem?_set] at hx hq
  by_cases e : j = i
  ·rw [if_pos e] at hx hq
   split at hx
   ·split at hq
    ·cases hx; cases hq; exact ⟨rfl, .inr ⟨b, m, a, rfl, rfl, lkB_new⟩⟩
    ·cases hq
   ·cases hx
  ·rw [if_neg e] at hx hq
   exact (h.cBox hb).cr i x q hx hq
 inj := fun i k x y c hx hy hxb hyb => by
  rw [List.getElem?_set] at hx hy
  split at hx
  ·split at hx
   ·cases hx
    cases hxb
    split at hy
    ·omega
    ·exact absurd hb (h.bUsed hy hyb)
   ·cases hx
  ·split at hy
   ·split at hy
    ·cases hy
     cases hyb
     exact absurd hb (h.bUsed hx hxb)
    ·cases hy
   ·exact h.inj i k x y c hx hy hxb hyb
theorem XRel.cApp (h : XRel p m0 m1 P C) {b : Nat} (hb : lkB m1 b = none) {m : List pairT.El} {a : Int} {g : Int} : XRel { p with curs := p.curs ++ [(g, some (m, a))] } m0 ((b, (m, a, ())) :: m1) P (C ++ [(g, some b, ())]) where
 pl := h.pl
 cl := by show _ = List.length (_ ++ _); rw [List.length_append, List.length_append, h.cl]; rfl
 pr := h.pr
 cr := fun i x q hx hq => by
  have hq : (p.curs ++ [(g, some (m, a))])[i]? = some q := hq
  by_cases e : i < C.length
  ·rw [List.getElem?_append_left e] at hx
   rw [List.getElem?_append_left (by rw [← h.cl]; exact e)] at hq
   exact (h.cBox hb).cr i x q hx hq
  ·rw [List.getElem?_append_right (by omega)] at hx
   rw [List.getElem?_append_right (by rw [← h.cl]; omega)] at hq
   rw [← h.cl] at hq
   cases hi : i - C.length with
   | zero =>
    rw [hi] at hx hq
    cases hx; cases hq
    exact ⟨rfl, .inr ⟨b, m, a, rfl, rfl, lkB_new⟩⟩
   | succ n =>
    rw [hi] at hx
    simp at hx
 inj := fun i k x y c hx hy hxb hyb => by
  have one : ∀ {i : Nat} {x : scT.El}, (C ++ [(g, some b, ())])[i]? = some x → C[i]? = some x ∨ (i = C.length ∧ x = (g, some b, ())) := by
   intro i x hx
   by_cases e : i < C.length
   ·rw [List.getElem?_append_left e] at hx; exact .inl hx
   ·rw [List.getElem?_append_right (by omega)] at hx
    cases hi : i - C.length with
    | zero => rw [hi] at hx; cases hx; exact .inr ⟨by omega, rfl⟩
    | succ n => rw [hi] at hx; simp at hx
  rcases one hx with hx | ⟨e1, rfl⟩
  ·rcases one hy with hy | ⟨e2, rfl⟩
   ·exact h.inj i k x y c hx hy hxb hyb
   ·cases hyb; exact absurd hb (h.bUsed hx hxb)
  ·cases hxb
   rcases one hy with hy | ⟨e2, rfl⟩
   ·exact absurd hb (h.bUsed hy hyb)
   ·omega
end
theorem set_app {α : Type} {l : List α} {x y : α} : (l ++ [x]).set l.length y = l ++ [y] := by
 rw [List.set_append_right _ _ (Nat.le_refl _), Nat.sub_self]
 rfl
theorem get_app {α : Type} {l : List α} {y : α} : (l ++ [y])[((l.length : Nat) : Int).toNat]? = some y := by
 rw [Int.toNat_natCast, List.getElem?_append_right (Nat.le_refl _), Nat.sub_self]
 rfl
theorem get_set {α : Type} {l : List α} {j : Nat} {y : α} (h : j < l.length) : (l.set j y)[j]? = some y := by
 rw [List.getElem?_set, if_pos rfl, if_pos h]
noncomputable def cxG : Cx := ⟨tb, [], [(100, .d spIxp), (96, .d spIxc)]⟩
theorem specsG : SpecsOk Try.prog cxG.specs := .cons pIx_ok (.cons cIx_ok .nil)
theorem callG : CallOk Try.prog (callN cxG 1) := callN_ok mixed tbOk specsG FnsOk.nil 1
def tpGiveA : LocA := fun ys h K => ∃ m : List pairT.El, xP [.ptr 2 2, .lst pairT m, .int .i64 16] (fun p => { p with pins := giveL p.pins m }) (fun p => .tup [.agg [.int .i64 (giveH p.pins).1.1, .int .i64 (giveH p.pins).1.2], .int .i64 (giveH p.pins).2]) ys h K
set_option maxRecDepth 100000 in
set_option maxHeartbeats 4000000 in
theorem tpGive_ok : LocOk Try.prog 84 tpGiveA := by
 refine loc_body (C := cxG) mixed tbOk specsG callG fnOk_tpGive ?_
 rintro ys h0 K ⟨m, p, k, m0, m1, gP, P, gC, C, rfl, rfl, hw, hk, hr, hK⟩
 have hpl := hr.pl
 have hpl2 := hw.pl
 have hfr := hr.pFree
 have hfl := freeI_le p.pins
 by_cases hf : freeI p.pins < p.pins.length
 ·obtain ⟨g, hg⟩ := freeI_at hf
  obtain ⟨e1, e2⟩ := give_set hg m
  have hq0 := hw.pin _ (List.mem_of_getElem? hg)
  have c3 : 0 ≤ g := hq0.1
  have c4 : g ≤ (k : Int) := hq0.2.1
  simp only [e1, e2] at hK
  have hix : ixX (List.take P.length P) = (freeI p.pins : Int) := by rw [List.take_length]; unfold ixX; rw [hfr, if_pos (by rw [hpl]; exact hf)]
  have hs : (ixX (List.take P.length P)).toNat = freeI p.pins := by rw [hix, Int.toNat_natCast]
  have hlt : (ixX (List.take P.length P)).toNat < P.length := by rw [hs, hpl]; exact hf
  have hp : P[(ixX (List.take P.length P)).toNat]? = some (g, none, ()) := by
   rw [hs]
   rcases hr.pAt hg with ⟨_, hp⟩ | ⟨b, m', h, _⟩
   ·exact hp
   ·cases h
  have q1 : (P.set (ixX (List.take P.length P)).toNat (g + 1, none, ()))[(ixX (List.take P.length P)).toNat]? = some (g + 1, none, ()) := get_set hlt
  have q2 : ∀ b : Nat, ((P.set (ixX (List.take P.length P)).toNat (g + 1, none, ())).set (ixX (List.take P.length P)).toNat (g + 1, some b, ()))[(ixX (List.take P.length P)).toNat]? = some (g + 1, some b, ()) := fun b => get_set (by rw [List.length_set]; exact hlt)
  conv => whnf
  repeat' first | ((first | refine auTq ?_ | refine auFq ?_ | refine auIi ?_ (q2 _) | refine auIk ?_ | refine auIi ?_ | refine auT ?_ | refine auF ?_ | with_reducible first | refine auKt ?_ | refine auKf ?_ | refine auNt ?_ | refine auNf ?_ | refine auEt ?_ | refine auEf ?_); conv => whnf) | ((with_reducible first | refine br_dec ?_ ?_ | refine br_ndec ?_ ?_ | refine br_ne ?_ ?_ | refine br_eq ?_ ?_) <;> intro h <;> first | (exfalso; omega) | conv => whnf) | (refine br_intro ?_ ?_ <;> intro h <;> conv => whnf) | ((first | refine auNd ?_ | refine idx_nat (by omega) (fun x hx => ?_) | refine frz_auto ?_ | refine draw_plain ?_ | refine auIx (fun x hx => ?_)); conv => whnf) | (refine both.mk ?_ ?_ <;> conv => whnf) | ((first | refine bx_idx ?_ | refine bx_intro (fun b hb => ?_)); conv => whnf)
  all_goals rw [List.take_length] at hix hs
  all_goals
   refine exA [0, 1, 2, 3, 4] ?_
   conv => whnf
   repeat' first | ((first | refine auTq ?_ | refine auFq ?_ | refine auIk ?_ | refine auIi ?_ | refine auT ?_ | refine auF ?_ | with_reducible first | refine auKt ?_ | refine auKf ?_ | refine auNt ?_ | refine auNf ?_ | refine auEt ?_ | refine auEf ?_); conv => whnf) | ((with_reducible first | refine br_dec ?_ ?_ | refine br_ndec ?_ ?_ | refine br_ne ?_ ?_ | refine br_eq ?_ ?_) <;> intro h <;> first | (exfalso; omega) | conv => whnf) | (refine br_intro ?_ ?_ <;> intro h <;> conv => whnf) | ((first | refine auNd ?_ | refine idx_nat (by omega) (fun x hx => ?_) | refine frz_auto ?_ | refine draw_plain ?_ | refine auIx (fun x hx => ?_)); conv => whnf) | (refine both.mk ?_ ?_ <;> conv => whnf) | ((first | refine bx_idx ?_ | refine bx_intro (fun b hb => ?_)); conv => whnf)
   have h9 := hK _ _ (gP) _ gC C (hr.pGive (by assumption))
   simp only [XH, List.length_set, List.length_append, List.length_singleton] at h9
   simp only [List.set_set, List.take_length, set_app, Int.toNat_natCast, hs, hix, List.length_set, List.length_append, List.length_singleton]
   exact h9
 ·have hf : freeI p.pins = p.pins.length := by omega
  have hix : ixX (List.take P.length P) = -1 := by rw [List.take_length]; unfold ixX; rw [hfr, if_neg (by omega)]
  have hs : (P.length : Int).toNat = P.length := Int.toNat_natCast _
  by_cases h16 : p.pins.length = 16
  ·obtain ⟨e1, e2⟩ := give_full hf h16 m
   simp only [e1, e2] at hK
   conv => whnf
   repeat' first | ((first | refine auTq ?_ | refine auFq ?_ | refine auIk ?_ | refine auIi ?_ | refine auT ?_ | refine auF ?_ | with_reducible first | refine auKt ?_ | refine auKf ?_ | refine auNt ?_ | refine auNf ?_ | refine auEt ?_ | refine auEf ?_); conv => whnf) | ((with_reducible first | refine br_dec ?_ ?_ | refine br_ndec ?_ ?_ | refine br_ne ?_ ?_ | refine br_eq ?_ ?_) <;> intro h <;> first | (exfalso; omega) | conv => whnf) | (refine br_intro ?_ ?_ <;> intro h <;> conv => whnf) | ((first | refine auNd ?_ | refine idx_nat (by omega) (fun x hx => ?_) | refine frz_auto ?_ | refine draw_plain ?_ | refine auIx (fun x hx => ?_)); conv => whnf) | (refine both.mk ?_ ?_ <;> conv => whnf) | ((first | refine bx_idx ?_ | refine bx_intro (fun b hb => ?_)); conv => whnf)
   all_goals
    refine exA [0, 1, 2, 3, 4] ?_
    conv => whnf
    repeat' first | ((first | refine auTq ?_ | refine auFq ?_ | refine auIk ?_ | refine auIi ?_ | refine auT ?_ | refine auF ?_ | with_reducible first | refine auKt ?_ | refine auKf ?_ | refine auNt ?_ | refine auNf ?_ | refine auEt ?_ | refine auEf ?_); conv => whnf) | ((with_reducible first | refine br_dec ?_ ?_ | refine br_ndec ?_ ?_ | refine br_ne ?_ ?_ | refine br_eq ?_ ?_) <;> intro h <;> first | (exfalso; omega) | conv => whnf) | (refine br_intro ?_ ?_ <;> intro h <;> conv => whnf) | ((first | refine auNd ?_ | refine idx_nat (by omega) (fun x hx => ?_) | refine frz_auto ?_ | refine draw_plain ?_ | refine auIx (fun x hx => ?_)); conv => whnf) | (refine both.mk ?_ ?_ <;> conv => whnf) | ((first | refine bx_idx ?_ | refine bx_intro (fun b hb => ?_)); conv => whnf)
    exact hK _ _ _ _ _ _ hr
  ·obtain ⟨e1, e2⟩ := give_new hf h16 m
   simp only [e1, e2] at hK
   have q0 : (List.take P.length P ++ [((0 : Int), (none : Option Nat), ())])[(P.length : Int).toNat]? = some (0, none, ()) := by rw [List.take_length]; exact get_app
   have q1 : ((List.take P.length P ++ [((0 : Int), (none : Option Nat), ())]).set (P.length : Int).toNat (0 + 1, none, ()))[(P.length : Int).toNat]? = some (0 + 1, none, ()) := get_set (by simp)
   have q2 : ∀ b : Nat, (((List.take P.length P ++ [((0 : Int), (none : Option Nat), ())]).set (P.length : Int).toNat (0 + 1, none, ())).set (P.length : Int).toNat (0 + 1, some b, ()))[(P.length : Int).toNat]? = some (0 + 1, some b, ()) := fun b => get_set (by simp)
   conv => whnf
   repeat' first | ((first | refine auTq ?_ | refine auFq ?_ | refine auIi ?_ (q2 _) | refine auIk ?_ | refine auIi ?_ | refine auT ?_ | refine auF ?_ | with_reducible first | refine auKt ?_ | refine auKf ?_ | refine auNt ?_ | refine auNf ?_ | refine auEt ?_ | refine auEf ?_); conv => whnf) | ((with_reducible first | refine br_dec ?_ ?_ | refine br_ndec ?_ ?_ | refine br_ne ?_ ?_ | refine br_eq ?_ ?_) <;> intro h <;> first | (exfalso; omega) | conv => whnf) | (refine br_intro ?_ ?_ <;> intro h <;> conv => whnf) | ((first | refine auNd ?_ | refine idx_nat (by omega) (fun x hx => ?_) | refine frz_auto ?_ | refine draw_plain ?_ | refine auIx (fun x hx => ?_)); conv => whnf) | (refine both.mk ?_ ?_ <;> conv => whnf) | ((first | refine bx_idx ?_ | refine bx_intro (fun b hb => ?_)); conv => whnf)
   all_goals
    refine exA [0, 1, 2, 3, 4] ?_
    conv => whnf
    repeat' first | ((first | refine auTq ?_ | refine auFq ?_ | refine auIk ?_ | refine auIi ?_ | refine auT ?_ | refine auF ?_ | with_reducible first | refine auKt ?_ | refine auKf ?_ | refine auNt ?_ | refine auNf ?_ | refine auEt ?_ | refine auEf ?_); conv => whnf) | ((with_reducible first | refine br_dec ?_ ?_ | refine br_ndec ?_ ?_ | refine br_ne ?_ ?_ | refine br_eq ?_ ?_) <;> intro h <;> first | (exfalso; omega) | conv => whnf) | (refine br_intro ?_ ?_ <;> intro h <;> conv => whnf) | ((first | refine auNd ?_ | refine idx_nat (by omega) (fun x hx => ?_) | refine frz_auto ?_ | refine draw_plain ?_ | refine auIx (fun x hx => ?_)); conv => whnf) | (refine both.mk ?_ ?_ <;> conv => whnf) | ((first | refine bx_idx ?_ | refine bx_intro (fun b hb => ?_)); conv => whnf)
    have h9 := hK _ _ (gP + 1) _ gC C (hr.pApp (by assumption))
    simp only [XH, List.length_set, List.length_append, List.length_singleton, ← hpl] at h9
    simp only [List.set_set, List.take_length, set_app, Int.toNat_natCast, hs, List.take_succ_cons, List.take_nil, List.take_zero, Int.zero_add, List.length_set, List.length_append, List.length_singleton]
    exact h9
def tcGiveA : LocA := fun ys h K => ∃ m : List pairT.El, xP [.ptr 2 3, .agg [.lst pairT m, .int .i64 0], .int .i64 16] (fun p => { p with curs := giveL p.curs (m, 0) }) (fun p => .tup [.agg [.int .i64 (giveH p.curs).1.1, .int .i64 (giveH p.curs).1.2], .int .i64 (giveH p.curs).2]) ys h K
set_option maxRecDepth 100000 in
set_option maxHeartbeats 4000000 in
theorem tcGive_ok : LocOk Try.prog 76 tcGiveA := by
 refine loc_body (C := cxG) mixed tbOk specsG callG fnOk_tcGive ?_
 rintro ys h0 K ⟨m, p, k, m0, m1, gP, P, gC, C, rfl, rfl, hw, hk, hr, hK⟩
 have hpl := hr.cl
 have hpl2 := hw.cl
 have hfr := hr.cFree
 have hfl := freeI_le p.curs
 by_cases hf : freeI p.curs < p.curs.length
 ·obtain ⟨g, hg⟩ := freeI_at hf
  obtain ⟨e1, e2⟩ := give_set hg (m, 0)
  have hq0 := hw.cur _ (List.mem_of_getElem? hg)
  have c3 : 0 ≤ g := hq0.1
  have c4 : g ≤ (k : Int) := hq0.2.1
  simp only [e1, e2] at hK
  have hix : ixX (List.take C.length C) = (freeI p.curs : Int) := by rw [List.take_length]; unfold ixX; rw [hfr, if_pos (by rw [hpl]; exact hf)]
  have hs : (ixX (List.take C.length C)).toNat = freeI p.curs := by rw [hix, Int.toNat_natCast]
  have hlt : (ixX (List.take C.length C)).toNat < C.length := by rw [hs, hpl]; exact hf
  have hp : C[(ixX (List.take C.length C)).toNat]? = some (g, none, ()) := by
   rw [hs]
   rcases hr.cAt hg with ⟨_, hp⟩ | ⟨b, m', a, h, _⟩
   ·exact hp
   ·cases h
  have q1 : (C.set (ixX (List.take C.length C)).toNat (g + 1, none, ()))[(ixX (List.take C.length C)).toNat]? = some (g + 1, none, ()) := get_set hlt
  have q2 : ∀ b : Nat, ((C.set (ixX (List.take C.length C)).toNat (g + 1, none, ())).set (ixX (List.take C.length C)).toNat (g + 1, some b, ()))[(ixX (List.take C.length C)).toNat]? = some (g + 1, some b, ()) := fun b => get_set (by rw [List.length_set]; exact hlt)
  conv => whnf
  repeat' first | ((first | refine auTq ?_ | refine auFq ?_ | refine auIi ?_ (q2 _) | refine auIk ?_ | refine auIi ?_ | refine auT ?_ | refine auF ?_ | with_reducible first | refine auKt ?_ | refine auKf ?_ | refine auNt ?_ | refine auNf ?_ | refine auEt ?_ | refine auEf ?_); conv => whnf) | ((with_reducible first | refine br_dec ?_ ?_ | refine br_ndec ?_ ?_ | refine br_ne ?_ ?_ | refine br_eq ?_ ?_) <;> intro h <;> first | (exfalso; omega) | conv => whnf) | (refine br_intro ?_ ?_ <;> intro h <;> conv => whnf) | ((first | refine auNd ?_ | refine idx_nat (by omega) (fun x hx => ?_) | refine frz_auto ?_ | refine draw_plain ?_ | refine auIx (fun x hx => ?_)); conv => whnf) | (refine both.mk ?_ ?_ <;> conv => whnf) | ((first | refine bx_idx ?_ | refine bx_intro (fun b hb => ?_)); conv => whnf)
  all_goals rw [List.take_length] at hix hs
  all_goals
   refine exA [0, 1, 2, 3, 4] ?_
   conv => whnf
   repeat' first | ((first | refine auTq ?_ | refine auFq ?_ | refine auIk ?_ | refine auIi ?_ | refine auT ?_ | refine auF ?_ | with_reducible first | refine auKt ?_ | refine auKf ?_ | refine auNt ?_ | refine auNf ?_ | refine auEt ?_ | refine auEf ?_); conv => whnf) | ((with_reducible first | refine br_dec ?_ ?_ | refine br_ndec ?_ ?_ | refine br_ne ?_ ?_ | refine br_eq ?_ ?_) <;> intro h <;> first | (exfalso; omega) | conv => whnf) | (refine br_intro ?_ ?_ <;> intro h <;> conv => whnf) | ((first | refine auNd ?_ | refine idx_nat (by omega) (fun x hx => ?_) | refine frz_auto ?_ | refine draw_plain ?_ | refine auIx (fun x hx => ?_)); conv => whnf) | (refine both.mk ?_ ?_ <;> conv => whnf) | ((first | refine bx_idx ?_ | refine bx_intro (fun b hb => ?_)); conv => whnf)
   have h9 := hK _ _ gP P (gC) _ (hr.cGive (by assumption))
   simp only [XH, List.length_set, List.length_append, List.length_singleton] at h9
   simp only [List.set_set, List.take_length, set_app, Int.toNat_natCast, hs, hix, List.length_set, List.length_append, List.length_singleton]
   exact h9
 ·have hf : freeI p.curs = p.curs.length := by omega
  have hix : ixX (List.take C.length C) = -1 := by rw [List.take_length]; unfold ixX; rw [hfr, if_neg (by omega)]
  have hs : (C.length : Int).toNat = C.length := Int.toNat_natCast _
  by_cases h16 : p.curs.length = 16
  ·obtain ⟨e1, e2⟩ := give_full hf h16 (m, 0)
   simp only [e1, e2] at hK
   conv => whnf
   repeat' first | ((first | refine auTq ?_ | refine auFq ?_ | refine auIk ?_ | refine auIi ?_ | refine auT ?_ | refine auF ?_ | with_reducible first | refine auKt ?_ | refine auKf ?_ | refine auNt ?_ | refine auNf ?_ | refine auEt ?_ | refine auEf ?_); conv => whnf) | ((with_reducible first | refine br_dec ?_ ?_ | refine br_ndec ?_ ?_ | refine br_ne ?_ ?_ | refine br_eq ?_ ?_) <;> intro h <;> first | (exfalso; omega) | conv => whnf) | (refine br_intro ?_ ?_ <;> intro h <;> conv => whnf) | ((first | refine auNd ?_ | refine idx_nat (by omega) (fun x hx => ?_) | refine frz_auto ?_ | refine draw_plain ?_ | refine auIx (fun x hx => ?_)); conv => whnf) | (refine both.mk ?_ ?_ <;> conv => whnf) | ((first | refine bx_idx ?_ | refine bx_intro (fun b hb => ?_)); conv => whnf)
   all_goals
    refine exA [0, 1, 2, 3, 4] ?_
    conv => whnf
    repeat' first | ((first | refine auTq ?_ | refine auFq ?_ | refine auIk ?_ | refine auIi ?_ | refine auT ?_ | refine auF ?_ | with_reducible first | refine auKt ?_ | refine auKf ?_ | refine auNt ?_ | refine auNf ?_ | refine auEt ?_ | refine auEf ?_); conv => whnf) | ((with_reducible first | refine br_dec ?_ ?_ | refine br_ndec ?_ ?_ | refine br_ne ?_ ?_ | refine br_eq ?_ ?_) <;> intro h <;> first | (exfalso; omega) | conv => whnf) | (refine br_intro ?_ ?_ <;> intro h <;> conv => whnf) | ((first | refine auNd ?_ | refine idx_nat (by omega) (fun x hx => ?_) | refine frz_auto ?_ | refine draw_plain ?_ | refine auIx (fun x hx => ?_)); conv => whnf) | (refine both.mk ?_ ?_ <;> conv => whnf) | ((first | refine bx_idx ?_ | refine bx_intro (fun b hb => ?_)); conv => whnf)
    exact hK _ _ _ _ _ _ hr
  ·obtain ⟨e1, e2⟩ := give_new hf h16 (m, 0)
   simp only [e1, e2] at hK
   have q0 : (List.take C.length C ++ [((0 : Int), (none : Option Nat), ())])[(C.length : Int).toNat]? = some (0, none, ()) := by rw [List.take_length]; exact get_app
   have q1 : ((List.take C.length C ++ [((0 : Int), (none : Option Nat), ())]).set (C.length : Int).toNat (0 + 1, none, ()))[(C.length : Int).toNat]? = some (0 + 1, none, ()) := get_set (by simp)
   have q2 : ∀ b : Nat, (((List.take C.length C ++ [((0 : Int), (none : Option Nat), ())]).set (C.length : Int).toNat (0 + 1, none, ())).set (C.length : Int).toNat (0 + 1, some b, ()))[(C.length : Int).toNat]? = some (0 + 1, some b, ()) := fun b => get_set (by simp)
   conv => whnf
   repeat' first | ((first | refine auTq ?_ | refine auFq ?_ | refine auIi ?_ (q2 _) | refine auIk ?_ | refine auIi ?_ | refine auT ?_ | refine auF ?_ | with_reducible first | refine auKt ?_ | refine auKf ?_ | refine auNt ?_ | refine auNf ?_ | refine auEt ?_ | refine auEf ?_); conv => whnf) | ((with_reducible first | refine br_dec ?_ ?_ | refine br_ndec ?_ ?_ | refine br_ne ?_ ?_ | refine br_eq ?_ ?_) <;> intro h <;> first | (exfalso; omega) | conv => whnf) | (refine br_intro ?_ ?_ <;> intro h <;> conv => whnf) | ((first | refine auNd ?_ | refine idx_nat (by omega) (fun x hx => ?_) | refine frz_auto ?_ | refine draw_plain ?_ | refine auIx (fun x hx => ?_)); conv => whnf) | (refine both.mk ?_ ?_ <;> conv => whnf) | ((first | refine bx_idx ?_ | refine bx_intro (fun b hb => ?_)); conv => whnf)
   all_goals
    refine exA [0, 1, 2, 3, 4] ?_
    conv => whnf
    repeat' first | ((first | refine auTq ?_ | refine auFq ?_ | refine auIk ?_ | refine auIi ?_ | refine auT ?_ | refine auF ?_ | with_reducible first | refine auKt ?_ | refine auKf ?_ | refine auNt ?_ | refine auNf ?_ | refine auEt ?_ | refine auEf ?_); conv => whnf) | ((with_reducible first | refine br_dec ?_ ?_ | refine br_ndec ?_ ?_ | refine br_ne ?_ ?_ | refine br_eq ?_ ?_) <;> intro h <;> first | (exfalso; omega) | conv => whnf) | (refine br_intro ?_ ?_ <;> intro h <;> conv => whnf) | ((first | refine auNd ?_ | refine idx_nat (by omega) (fun x hx => ?_) | refine frz_auto ?_ | refine draw_plain ?_ | refine auIx (fun x hx => ?_)); conv => whnf) | (refine both.mk ?_ ?_ <;> conv => whnf) | ((first | refine bx_idx ?_ | refine bx_intro (fun b hb => ?_)); conv => whnf)
    have h9 := hK _ _ gP P (gC + 1) _ (hr.cApp (by assumption))
    simp only [XH, List.length_set, List.length_append, List.length_singleton, ← hpl] at h9
    simp only [List.set_set, List.take_length, set_app, Int.toNat_natCast, hs, List.take_succ_cons, List.take_nil, List.take_zero, Int.zero_add, List.length_set, List.length_append, List.length_singleton]
    exact h9
end Go.Proofs.Ytbbklijmnknmhaa
