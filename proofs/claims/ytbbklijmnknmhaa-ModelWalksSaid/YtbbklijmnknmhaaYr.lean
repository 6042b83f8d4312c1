/-
  A model, plainly: what its calls answer, and what they leave.
  A model's memory; its calls, each with its memory alone: Write.
-/
import Derived.Test.YtbbklijmnknmhaaYk
import Derived.Test.YtbbklijmnknmhaaFr
namespace Go.Proofs.Ytbbklijmnknmhaa
open Av Bk

structure PM where
 hd : List pairT.El
 pins : List (Int × Option (List pairT.El))
 curs : List (Int × Option (List pairT.El × Int))
abbrev hanT : Ty := .st [.int .i64, .int .i64]
def lookE {β : Type} (l : List (Int × Option β)) (i g : Int) : Int :=
 if i < 1 ∨ (l.length : Int) < i then 4 else match l[(i - 1).toNat]? with
  | some q => if g < 1 ∨ q.1 < g then 4 else if g < q.1 ∨ q.2.isNone = true then 11 else 0
  | none => 4
def lookV {β : Type} (l : List (Int × Option β)) (i : Int) : Option β := match l[(i - 1).toNat]? with | some q => q.2 | none => none
def isHd (i g : Int) : Bool := eqT (.st [.int .i64, .int .i64]) (i, g, ()) (0, 0, ())
def PM.mapR (p : PM) (i g : Int) : List pairT.El × Int :=
 if isHd i g = true then (p.hd, 0) else if lookE p.pins i g = 0 then ((lookV p.pins i).getD [], 0) else ([], lookE p.pins i g)
def PM.writeN (p : PM) (ws : List wrT.El) : PM := if (wrR p.hd ws).2 = 0 then { p with hd := (wrR p.hd ws).1 } else p
def PM.writeE (p : PM) (ws : List wrT.El) : Int := (wrR p.hd ws).2
def freeI {β : Type} : List (Int × Option β) → Nat
 | [] => 0
 | q :: l => if q.2.isNone = true then 0 else freeI l + 1
def giveL {β : Type} (l : List (Int × Option β)) (x : β) : List (Int × Option β) :=
 match l[freeI l]? with
 | some q => l.set (freeI l) (q.1 + 1, some x)
 | none => if l.length = 16 then l else l ++ [(1, some x)]
def giveH {β : Type} (l : List (Int × Option β)) : (Int × Int) × Int :=
 match l[freeI l]? with
 | some q => (((freeI l : Int) + 1, q.1 + 1), 0)
 | none => if l.length = 16 then ((0, 0), 5) else (((l.length : Int) + 1, 1), 0)
def dropL {β : Type} (l : List (Int × Option β)) (i g : Int) : List (Int × Option β) :=
 if lookE l i g = 0 then l.set (i - 1).toNat (g, none) else l
def PM.pinN (p : PM) : PM := { p with pins := giveL p.pins p.hd }
def PM.unpinN (p : PM) (i g : Int) : PM := { p with pins := dropL p.pins i g }
def PM.shutN (p : PM) (i g : Int) : PM := { p with curs := dropL p.curs i g }
def partR (m : List pairT.El) (lo hi : ByteArray) (bd : Bool) : List pairT.El := m.filter (fun p => hasB lo hi bd p.1)
def PM.openE (p : PM) (i g : Int) (lo hi : ByteArray) (bd : Bool) : Int := if (p.mapR i g).2 ≠ 0 then (p.mapR i g).2 else rgE lo hi bd
def PM.openN (p : PM) (i g : Int) (lo hi : ByteArray) (bd : Bool) : PM :=
 if p.openE i g lo hi bd = 0 then { p with curs := giveL p.curs (partR (p.mapR i g).1 lo hi bd, 0) } else p
def PM.openR (p : PM) (i g : Int) (lo hi : ByteArray) (bd : Bool) : (Int × Int) × Int :=
 if p.openE i g lo hi bd = 0 then giveH p.curs else ((0, 0), p.openE i g lo hi bd)
def noP : pairT.El := (⟨#[]⟩, ⟨#[]⟩, ())
def PM.curV (p : PM) (i : Int) : List pairT.El × Int := (lookV p.curs i).getD ([], 0)
def PM.nextE (p : PM) (i g : Int) : Int := if lookE p.curs i g ≠ 0 then lookE p.curs i g else if (p.curV i).2 = ((p.curV i).1.length : Int) then 12 else 0
def PM.nextP (p : PM) (i g : Int) : pairT.El := if p.nextE i g = 0 then ((p.curV i).1[(p.curV i).2.toNat]?).getD noP else noP
def PM.nextN (p : PM) (i g : Int) : PM := if p.nextE i g = 0 then { p with curs := p.curs.set (i - 1).toNat (g, some ((p.curV i).1, (p.curV i).2 + 1)) } else p
def PM.prevE (p : PM) (i g : Int) : Int := if lookE p.curs i g ≠ 0 then lookE p.curs i g else if (p.curV i).2 = 0 then 12 else 0
def PM.prevP (p : PM) (i g : Int) : pairT.El := if p.prevE i g = 0 then ((p.curV i).1[((p.curV i).2 - 1).toNat]?).getD noP else noP
def PM.prevN (p : PM) (i g : Int) : PM := if p.prevE i g = 0 then { p with curs := p.curs.set (i - 1).toNat (g, some ((p.curV i).1, (p.curV i).2 - 1)) } else p
def liveGo {β : Type} : Nat → List (Int × Option β) → List hanT.El
 | _, [] => []
 | n, q :: l => if q.2.isNone = true then liveGo (n + 1) l else ((n : Int) + 1, q.1, ()) :: liveGo (n + 1) l
structure Fit (m : List pairT.El) : Prop where
 len : m.length ≤ 4000
 ok : (mcL m).2 = 0
structure Wf (k : Nat) (p : PM) : Prop where
 hd : Fit p.hd
 pl : p.pins.length ≤ 16
 cl : p.curs.length ≤ 16
 pin : ∀ q ∈ p.pins, 0 ≤ q.1 ∧ q.1 ≤ (k : Int) ∧ ∀ m, q.2 = some m → Fit m
 cur : ∀ q ∈ p.curs, 0 ≤ q.1 ∧ q.1 ≤ (k : Int) ∧ ∀ m a, q.2 = some (m, a) → m.length ≤ 4000 ∧ 0 ≤ a ∧ a ≤ (m.length : Int)

theorem foldl_good {ws : List wrT.El} (hw : ∀ y ∈ ws, wE1 y = 0) : ∀ {m : List pairT.El}, (∀ x ∈ m, prE x = 0) → ascP m → (∀ x ∈ ws.foldl wr1 m, prE x = 0) ∧ ascP (ws.foldl wr1 m) := by
 induction ws with
 | nil => exact fun h1 h2 => ⟨h1, h2⟩
 | cons w ws ih =>
  intro m h1 h2
  refine ih (fun y hy => hw y (by simp [hy])) (fun p hp => ?_) (show ascP (chT _ _ _) from chT_asc h2 _ _)
  have hp2 := chT_mem.1 hp
  by_cases hk : p.1 = w.1
  ·rw [if_pos hk] at hp2
   have hs := wE1_sz (hw w (by simp))
   have hv : w.2.1 = p.2.1 := by
    unfold wOf at hp2
    split at hp2
    ·cases hp2
    ·exact Option.some.inj hp2
   exact prE_zero (by rw [hk]; exact hs.1) (by rw [← hv]; exact hs.2)
  ·rw [if_neg hk] at hp2
   exact h1 p hp2
theorem wr_fit {m : List pairT.El} {ws : List wrT.El} (h : (wrR m ws).2 = 0) : Fit (wrR m ws).1 := by
 obtain ⟨h1, h2, h3⟩ := wrR_ok h
 obtain ⟨m1, m2, m3⟩ := mcL_zero h1
 have hl : (wrR m ws).1.length ≤ 4000 := wrR_len
 obtain ⟨g1, g2⟩ := foldl_good h2 m2 m3
 refine ⟨hl, ?_⟩
 rw [h3] at hl ⊢
 rw [mcL_good hl g1 g2]
theorem fit_nil : Fit [] := ⟨by simp, rfl⟩
section
variable {β : Type} {l : List (Int × Option β)} {i g : Int}
theorem lookE_far (h : i < 1 ∨ (l.length : Int) < i) : lookE l i g = 4 := if_pos h
theorem lookE_at (h1 : 1 ≤ i) (h2 : i ≤ (l.length : Int)) {q : Int × Option β} (hq : l[(i - 1).toNat]? = some q) : lookE l i g = if g < 1 ∨ q.1 < g then 4 else if g < q.1 ∨ q.2.isNone = true then 11 else 0 := by
 unfold lookE
 rw [if_neg (by omega), hq]
theorem lookE_zero (h : lookE l i g = 0) : 1 ≤ i ∧ i ≤ (l.length : Int) ∧ 1 ≤ g ∧ ∃ x, l[(i - 1).toNat]? = some (g, some x) := by
 unfold lookE at h
 split at h
 ·exact absurd h (by decide)
 ·split at h
  ·rename_i q hq
   split at h
   ·exact absurd h (by decide)
   ·split at h
    ·exact absurd h (by decide)
    ·rename_i h1 h2 h3
     obtain ⟨g', o⟩ := q
     have e : g' = g := by have h2 : ¬ (g < 1 ∨ g' < g) := h2; have h3 : ¬ (g < g' ∨ _) := h3; omega
     subst e
     cases o with
     | none => exact absurd (.inr rfl) h3
     | some x => exact ⟨by omega, by omega, by have h2 : ¬ (g' < 1 ∨ g' < g') := h2; omega, x, hq⟩
  ·exact absurd h (by decide)
theorem lookV_at {q : Int × Option β} (hq : l[(i - 1).toNat]? = some q) : lookV l i = q.2 := by
 unfold lookV
 rw [hq]
end
theorem wf_up {k : Nat} {p : PM} (h : Wf k p) : Wf (k + 1) p :=
 ⟨h.hd, h.pl, h.cl, fun q hq => ⟨(h.pin q hq).1, by have := (h.pin q hq).2.1; omega, (h.pin q hq).2.2⟩, fun q hq => ⟨(h.cur q hq).1, by have := (h.cur q hq).2.1; omega, (h.cur q hq).2.2⟩⟩
theorem wf_write {k : Nat} {p : PM} (h : Wf k p) (ws : List wrT.El) : Wf k (p.writeN ws) := by
 unfold PM.writeN
 split
 ·rename_i he
  exact ⟨wr_fit he, h.pl, h.cl, h.pin, h.cur⟩
 ·exact h
theorem mapR_fit {k : Nat} {p : PM} (h : Wf k p) (i g : Int) : Fit (p.mapR i g).1 := by
 unfold PM.mapR
 split
 ·exact h.hd
 ·split
  ·rename_i he
   obtain ⟨_, _, _, x, hx⟩ := lookE_zero he
   rw [lookV_at hx]
   exact (h.pin _ (List.mem_of_getElem? hx)).2.2 x rfl
  ·exact fit_nil
theorem giveL_len {β : Type} {l : List (Int × Option β)} {x : β} (h : l.length ≤ 16) : (giveL l x).length ≤ 16 := by
 unfold giveL
 split
 ·rw [List.length_set]; exact h
 ·split
  ·exact h
  ·rw [List.length_append]; simp; omega
theorem giveL_mem {β : Type} {l : List (Int × Option β)} {x : β} {q : Int × Option β} (h : q ∈ giveL l x) : q ∈ l ∨ (q.2 = some x ∧ (q.1 = 1 ∨ ∃ q' ∈ l, q.1 = q'.1 + 1)) := by
 unfold giveL at h
 split at h
 ·rename_i q' hq'
  rcases List.mem_or_eq_of_mem_set h with h | rfl
  ·exact .inl h
  ·exact .inr ⟨rfl, .inr ⟨q', List.mem_of_getElem? hq', rfl⟩⟩
 ·split at h
  ·exact .inl h
  ·rcases List.mem_append.1 h with h | h
   ·exact .inl h
   ·rw [List.mem_singleton] at h
    subst h
    exact .inr ⟨rfl, .inl rfl⟩
theorem wf_pin {k : Nat} {p : PM} (h : Wf k p) : Wf (k + 1) p.pinN where
 hd := h.hd
 pl := giveL_len h.pl
 cl := h.cl
 cur := (wf_up h).cur
 pin := fun q hq => by
  rcases giveL_mem hq with hq | ⟨h1, h2⟩
  ·exact (wf_up h).pin q hq
  ·refine ⟨?_, ?_, fun m hm => ?_⟩
   ·rcases h2 with h2 | ⟨q', hq', h2⟩
    ·omega
    ·have := (h.pin q' hq').1; omega
   ·rcases h2 with h2 | ⟨q', hq', h2⟩
    ·omega
    ·have := (h.pin q' hq').2.1; omega
   ·rw [h1] at hm
    cases hm
    exact h.hd
theorem wf_drop {β : Type} {l : List (Int × Option β)} {i g : Int} {q : Int × Option β} (h : q ∈ dropL l i g) : q ∈ l ∨ (q.2 = none ∧ ∃ q' ∈ l, q.1 = q'.1) := by
 unfold dropL at h
 split at h
 ·rename_i he
  obtain ⟨_, _, _, x, hx⟩ := lookE_zero he
  rcases List.mem_or_eq_of_mem_set h with h | rfl
  ·exact .inl h
  ·exact .inr ⟨rfl, _, List.mem_of_getElem? hx, rfl⟩
 ·exact .inl h
theorem dropL_len {β : Type} {l : List (Int × Option β)} {i g : Int} : (dropL l i g).length = l.length := by
 unfold dropL
 split
 ·rw [List.length_set]
 ·rfl
theorem wf_unpin {k : Nat} {p : PM} (h : Wf k p) (i g : Int) : Wf k (p.unpinN i g) where
 hd := h.hd
 pl := by show (dropL _ _ _).length ≤ 16; rw [dropL_len]; exact h.pl
 cl := h.cl
 cur := h.cur
 pin := fun q hq => by
  rcases wf_drop hq with hq | ⟨h1, q', hq', h2⟩
  ·exact h.pin q hq
  ·rw [h2, h1]
   exact ⟨(h.pin q' hq').1, (h.pin q' hq').2.1, fun m hm => by cases hm⟩
theorem wf_shut {k : Nat} {p : PM} (h : Wf k p) (i g : Int) : Wf k (p.shutN i g) where
 hd := h.hd
 pl := h.pl
 cl := by show (dropL _ _ _).length ≤ 16; rw [dropL_len]; exact h.cl
 pin := h.pin
 cur := fun q hq => by
  rcases wf_drop hq with hq | ⟨h1, q', hq', h2⟩
  ·exact h.cur q hq
  ·rw [h2, h1]
   exact ⟨(h.cur q' hq').1, (h.cur q' hq').2.1, fun m a hm => by cases hm⟩
theorem partR_len {m : List pairT.El} {lo hi : ByteArray} {bd : Bool} : (partR m lo hi bd).length ≤ m.length := List.length_filter_le _ _
theorem wf_open {k : Nat} {p : PM} (h : Wf k p) (i g : Int) (lo hi : ByteArray) (bd : Bool) : Wf (k + 1) (p.openN i g lo hi bd) := by
 unfold PM.openN
 split
 ·exact {
   hd := h.hd
   pl := h.pl
   cl := giveL_len h.cl
   pin := (wf_up h).pin
   cur := fun q hq => by
    rcases giveL_mem hq with hq | ⟨h1, h2⟩
    ·exact (wf_up h).cur q hq
    ·refine ⟨?_, ?_, fun m a hm => ?_⟩
     ·rcases h2 with h2 | ⟨q', hq', h2⟩
      ·omega
      ·have := (h.cur q' hq').1; omega
     ·rcases h2 with h2 | ⟨q', hq', h2⟩
      ·omega
      ·have := (h.cur q' hq').2.1; omega
     ·rw [h1] at hm
      cases hm
      exact ⟨Nat.le_trans partR_len (mapR_fit h i g).len, by omega, by omega⟩ }
 ·exact wf_up h
theorem cur_at {k : Nat} {p : PM} (h : Wf k p) {i g : Int} (he : lookE p.curs i g = 0) : 1 ≤ i ∧ i ≤ (p.curs.length : Int) ∧ p.curs[(i - 1).toNat]? = some (g, some (p.curV i)) ∧ (p.curV i).1.length ≤ 4000 ∧ 0 ≤ (p.curV i).2 ∧ (p.curV i).2 ≤ ((p.curV i).1.length : Int) := by
 obtain ⟨h1, h2, _, ⟨m, a⟩, hx⟩ := lookE_zero he
 have hv : p.curV i = (m, a) := by unfold PM.curV; rw [lookV_at hx]; rfl
 rw [hv]
 obtain ⟨q1, q2, q3⟩ := (h.cur _ (List.mem_of_getElem? hx)).2.2 m a rfl
 exact ⟨h1, h2, hx, q1, q2, q3⟩
theorem wf_move {k : Nat} {p : PM} (h : Wf k p) {i g a : Int} (he : lookE p.curs i g = 0) (h0 : 0 ≤ a) (h1 : a ≤ ((p.curV i).1.length : Int)) : Wf k { p with curs := p.curs.set (i - 1).toNat (g, some ((p.curV i).1, a)) } := by
 obtain ⟨_, _, hx, q1, q2, q3⟩ := cur_at h he
 have hq := h.cur _ (List.mem_of_getElem? hx)
 exact ⟨h.hd, h.pl, by show (List.set _ _ _).length ≤ 16; rw [List.length_set]; exact h.cl, h.pin, fun q hq2 => by
  rcases List.mem_or_eq_of_mem_set hq2 with hq2 | rfl
  ·exact h.cur q hq2
  ·exact ⟨hq.1, hq.2.1, fun m' a' hm => by cases hm; exact ⟨q1, h0, h1⟩⟩⟩
theorem nextE_zero {p : PM} {i g : Int} (h : p.nextE i g = 0) : lookE p.curs i g = 0 ∧ (p.curV i).2 ≠ ((p.curV i).1.length : Int) := by
 unfold PM.nextE at h
 split at h
 ·rename_i h1; exact absurd h h1
 ·rename_i h1
  split at h
  ·exact absurd h (by decide)
  ·rename_i h2
   exact ⟨by simpa using h1, h2⟩
theorem prevE_zero {p : PM} {i g : Int} (h : p.prevE i g = 0) : lookE p.curs i g = 0 ∧ (p.curV i).2 ≠ 0 := by
 unfold PM.prevE at h
 split at h
 ·rename_i h1; exact absurd h h1
 ·rename_i h1
  split at h
  ·exact absurd h (by decide)
  ·rename_i h2
   exact ⟨by simpa using h1, h2⟩
theorem wf_next {k : Nat} {p : PM} (h : Wf k p) (i g : Int) : Wf k (p.nextN i g) := by
 unfold PM.nextN
 split
 ·rename_i he
  obtain ⟨h1, h2⟩ := nextE_zero he
  obtain ⟨_, _, _, _, q2, q3⟩ := cur_at h h1
  exact wf_move h h1 (by omega) (by omega)
 ·exact h
theorem wf_prev {k : Nat} {p : PM} (h : Wf k p) (i g : Int) : Wf k (p.prevN i g) := by
 unfold PM.prevN
 split
 ·rename_i he
  obtain ⟨h1, h2⟩ := prevE_zero he
  obtain ⟨_, _, _, _, q2, q3⟩ := cur_at h h1
  exact wf_move h h1 (by omega) (by omega)
 ·exact h
theorem wf_new : Wf 0 ⟨[], [], []⟩ := ⟨fit_nil, by simp, by simp, by simp, by simp⟩
end Go.Proofs.Ytbbklijmnknmhaa
namespace Go.Proofs.Ytbbklijmnknmhaa
open Av Bk

set_option maxRecDepth 100000 in
theorem fnOk_tpLive : FnOk Try.prog 72 Try.f72 := ⟨by rfl, by kernel_rfl, by
 show okCode _ _ = true ∧ drawsOk _ = true
 exact ⟨by kernel_rfl, by kernel_rfl⟩⟩
set_option maxRecDepth 100000 in
theorem fnOk_tcLive : FnOk Try.prog 73 Try.f73 := ⟨by rfl, by kernel_rfl, by
 show okCode _ _ = true ∧ drawsOk _ = true
 exact ⟨by kernel_rfl, by kernel_rfl⟩⟩
set_option maxRecDepth 100000 in
theorem fnOk_tcGive : FnOk Try.prog 76 Try.f76 := ⟨by rfl, by kernel_rfl, by
 show okCode _ _ = true ∧ drawsOk _ = true
 exact ⟨by kernel_rfl, by kernel_rfl⟩⟩
set_option maxRecDepth 100000 in
theorem fnOk_tcGive1 : FnOk Try.prog 97 Try.f97 := ⟨by rfl, by kernel_rfl, by
 show okCode _ _ = true ∧ drawsOk _ = true
 exact ⟨by kernel_rfl, by kernel_rfl⟩⟩
set_option maxRecDepth 100000 in
theorem fnOk_tcLook : FnOk Try.prog 99 Try.f99 := ⟨by rfl, by kernel_rfl, by
 show okCode _ _ = true ∧ drawsOk _ = true
 exact ⟨by kernel_rfl, by kernel_rfl⟩⟩
set_option maxRecDepth 100000 in
theorem fnOk_tcDrop : FnOk Try.prog 83 Try.f83 := ⟨by rfl, by kernel_rfl, by
 show okCode _ _ = true ∧ drawsOk _ = true
 exact ⟨by kernel_rfl, by kernel_rfl⟩⟩
set_option maxRecDepth 100000 in
theorem fnOk_tcIdx : FnOk Try.prog 96 Try.f96 := ⟨by rfl, by kernel_rfl, by
 show okCode _ _ = true ∧ drawsOk _ = true
 exact ⟨by kernel_rfl, by kernel_rfl⟩⟩
set_option maxRecDepth 100000 in
theorem fnOk_cuNext : FnOk Try.prog 80 Try.f80 := ⟨by rfl, by kernel_rfl, by
 show okCode _ _ = true ∧ drawsOk _ = true
 exact ⟨by kernel_rfl, by kernel_rfl⟩⟩
set_option maxRecDepth 100000 in
theorem fnOk_cuPrev : FnOk Try.prog 82 Try.f82 := ⟨by rfl, by kernel_rfl, by
 show okCode _ _ = true ∧ drawsOk _ = true
 exact ⟨by kernel_rfl, by kernel_rfl⟩⟩
abbrev slT : Ty := .st [.int .i64, .raw 0]
abbrev scT : Ty := .st [.int .i64, .raw 1]
abbrev XH (m0 : List (Nat × List pairT.El)) (m1 : List (Nat × cuT.El)) (hd : List pairT.El) (gP : Nat) (P : List slT.El) (gC : Nat) (C : List scT.El) : Hp :=
 [.oth (.bxs 22 (.sl pairT) m0), .oth (.bxs 109 cuT m1), .cells 88 [.bool true, .lst pairT hd, .own 3 gP P.length, .own 4 gC C.length], .arr 133 slT P false gP, .arr 136 scT C false gC]
structure XRel (p : PM) (m0 : List (Nat × List pairT.El)) (m1 : List (Nat × cuT.El)) (P : List slT.El) (C : List scT.El) : Prop where
 pl : P.length = p.pins.length
 cl : C.length = p.curs.length
 pr : ∀ (j : Nat) (x : slT.El) (q : Int × Option (List pairT.El)), P[j]? = some x → p.pins[j]? = some q → x.1 = q.1 ∧ ((x.2.1 = none ∧ q.2 = none) ∨ ∃ b m, x.2.1 = some b ∧ q.2 = some m ∧ lkB m0 b = some m)
 cr : ∀ (j : Nat) (x : scT.El) (q : Int × Option (List pairT.El × Int)), C[j]? = some x → p.curs[j]? = some q → x.1 = q.1 ∧ ((x.2.1 = none ∧ q.2 = none) ∨ ∃ b m a, x.2.1 = some b ∧ q.2 = some (m, a) ∧ lkB m1 b = some (m, a, ()))
 inj : ∀ (i j : Nat) (x y : scT.El) (b : Nat), C[i]? = some x → C[j]? = some y → x.2.1 = some b → y.2.1 = some b → i = j
inductive xP (ar : List AV) (nx : PM → PM) (rt : PM → AV) (ys : List AV) (h : Hp) (K : AV → Hp → Prop) : Prop where
 | mk (p : PM) (k : Nat) (m0 : List (Nat × List pairT.El)) (m1 : List (Nat × cuT.El)) (gP : Nat) (P : List slT.El) (gC : Nat) (C : List scT.El) (hy : ys = ar) (hh : h = XH m0 m1 p.hd gP P gC C) (hw : Wf k p) (hk : k ≤ 1000000) (hr : XRel p m0 m1 P C)
  (hK : ∀ m0' m1' gP' P' gC' C', XRel (nx p) m0' m1' P' C' → K (rt p) (XH m0' m1' (nx p).hd gP' P' gC' C')) : xP ar nx rt ys h K
noncomputable def cxX : Cx := ⟨tb, [(72, Try.f72), (73, Try.f73), (76, Try.f76), (97, Try.f97), (99, Try.f99), (83, Try.f83), (96, Try.f96), (80, Try.f80), (82, Try.f82), (71, Try.f71), (75, Try.f75), (84, Try.f84), (101, Try.f101), (85, Try.f85), (95, Try.f95), (100, Try.f100), (79, Try.f79), (81, Try.f81), (78, Try.f78)], [(16, .d spWr), (30, .d spPt5), (51, .f spClP)]⟩
theorem specsX : SpecsOk Try.prog cxX.specs := .cons mWrite_ok (.cons mPart_ok (.consF cloneP_ok .nil))
theorem fnsX : FnsOk Try.prog cxX.fns := .cons fnOk_tpLive (.cons fnOk_tcLive (.cons fnOk_tcGive (.cons fnOk_tcGive1 (.cons fnOk_tcLook (.cons fnOk_tcDrop (.cons fnOk_tcIdx (.cons fnOk_cuNext (.cons fnOk_cuPrev (.cons fnOk_xNone (.cons fnOk_xVer (.cons fnOk_tpGive (.cons fnOk_tpGive1 (.cons fnOk_tpDrop (.cons fnOk_tpLook (.cons fnOk_tpIdx (.cons fnOk_xNext1 (.cons fnOk_xPrev1 (.cons fnOk_xMove .nil))))))))))))))))))
theorem callX : CallOk Try.prog (callN cxX 6) := callN_ok mixed tbOk specsX fnsX 6
theorem XRel.head {p : PM} {m0 : List (Nat × List pairT.El)} {m1 : List (Nat × cuT.El)} {P : List slT.El} {C : List scT.El} (h : XRel p m0 m1 P C) (hd : List pairT.El) : XRel { p with hd := hd } m0 m1 P C := ⟨h.pl, h.cl, h.pr, h.cr, h.inj⟩
def xWriteA : LocA := fun ys h K => ∃ ws : List wrT.El, ws.length ≤ 1000000 ∧ xP [.ptr 2 0, .lst wrT ws] (fun p => p.writeN ws) (fun p => .int .i64 (p.writeE ws)) ys h K
set_option maxRecDepth 100000 in
set_option maxHeartbeats 4000000 in
theorem xWrite_ok : LocOk Try.prog 43 xWriteA := by
 refine loc_body (C := cxX) mixed tbOk specsX callX fnOk_xWrite ?_
 rintro ys h0 K ⟨ws, hws, p, k, m0, m1, gP, P, gC, C, rfl, rfl, hw, hk, hr, hK⟩
 have h0 := hw.hd.len
 have h1 : p.hd.length ≤ 4611686018427387904 := Nat.le_trans h0 (by decide)
 have h2 : ws.length ≤ 4611686018427387904 := Nat.le_trans hws (by decide)
 by_cases he : (wrR p.hd ws).2 = 0
 ·have e1 : p.writeN ws = { p with hd := (wrR p.hd ws).1 } := if_pos he
  rw [e1] at hK
  conv => whnf
  repeat' first | ((first | refine auTq ?_ | refine auFq ?_ | refine auIk ?_ | refine auIi ?_ | refine auT ?_ | refine auF ?_ | with_reducible first | refine auKt ?_ | refine auKf ?_ | refine auNt ?_ | refine auNf ?_ | refine auEt ?_ | refine auEf ?_); conv => whnf) | ((with_reducible first | refine br_dec ?_ ?_ | refine br_ndec ?_ ?_ | refine br_ne ?_ ?_ | refine br_eq ?_ ?_) <;> intro h <;> first | (exfalso; omega) | conv => whnf) | (refine br_intro ?_ ?_ <;> intro h <;> conv => whnf) | ((first | refine auNd ?_ | refine idx_nat (by omega) (fun x hx => ?_) | refine frz_auto ?_ | refine draw_plain ?_ | refine auIx (fun x hx => ?_)); conv => whnf)
  refine .mk [0, 1, 2, 3, 4] [] ?_
  conv => whnf
  repeat' first | ((first | refine auTq ?_ | refine auFq ?_ | refine auIk ?_ | refine auIi ?_ | refine auT ?_ | refine auF ?_ | with_reducible first | refine auKt ?_ | refine auKf ?_ | refine auNt ?_ | refine auNf ?_ | refine auEt ?_ | refine auEf ?_); conv => whnf) | ((with_reducible first | refine br_dec ?_ ?_ | refine br_ndec ?_ ?_ | refine br_ne ?_ ?_ | refine br_eq ?_ ?_) <;> intro h <;> first | (exfalso; omega) | conv => whnf) | (refine br_intro ?_ ?_ <;> intro h <;> conv => whnf) | ((first | refine auNd ?_ | refine idx_nat (by omega) (fun x hx => ?_) | refine frz_auto ?_ | refine draw_plain ?_ | refine auIx (fun x hx => ?_)); conv => whnf)
  exact hK _ _ _ _ _ _ (hr.head _)
 ·have e1 : p.writeN ws = p := if_neg he
  rw [e1] at hK
  conv => whnf
  repeat' first | ((first | refine auTq ?_ | refine auFq ?_ | refine auIk ?_ | refine auIi ?_ | refine auT ?_ | refine auF ?_ | with_reducible first | refine auKt ?_ | refine auKf ?_ | refine auNt ?_ | refine auNf ?_ | refine auEt ?_ | refine auEf ?_); conv => whnf) | ((with_reducible first | refine br_dec ?_ ?_ | refine br_ndec ?_ ?_ | refine br_ne ?_ ?_ | refine br_eq ?_ ?_) <;> intro h <;> first | (exfalso; omega) | conv => whnf) | (refine br_intro ?_ ?_ <;> intro h <;> conv => whnf) | ((first | refine auNd ?_ | refine idx_nat (by omega) (fun x hx => ?_) | refine frz_auto ?_ | refine draw_plain ?_ | refine auIx (fun x hx => ?_)); conv => whnf)
  refine .mk [0, 1, 2, 3, 4] [] ?_
  conv => whnf
  repeat' first | ((first | refine auTq ?_ | refine auFq ?_ | refine auIk ?_ | refine auIi ?_ | refine auT ?_ | refine auF ?_ | with_reducible first | refine auKt ?_ | refine auKf ?_ | refine auNt ?_ | refine auNf ?_ | refine auEt ?_ | refine auEf ?_); conv => whnf) | ((with_reducible first | refine br_dec ?_ ?_ | refine br_ndec ?_ ?_ | refine br_ne ?_ ?_ | refine br_eq ?_ ?_) <;> intro h <;> first | (exfalso; omega) | conv => whnf) | (refine br_intro ?_ ?_ <;> intro h <;> conv => whnf) | ((first | refine auNd ?_ | refine idx_nat (by omega) (fun x hx => ?_) | refine frz_auto ?_ | refine draw_plain ?_ | refine auIx (fun x hx => ?_)); conv => whnf)
  exact hK _ _ _ _ _ _ hr
end Go.Proofs.Ytbbklijmnknmhaa
