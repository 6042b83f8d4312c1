/-
  The reference's memory; its calls, each with its memory alone.
-/
import Derived.Test.YtbbklijmnknmhaaYv
namespace Go.Proofs.Ytbbklijmnknmhaa
open Av Bk

set_option maxRecDepth 100000 in
theorem fnOk_yWrite : FnOk Try.prog 63 Try.f63 := ⟨by rfl, by kernel_rfl, by
 show okCode _ _ = true ∧ drawsOk _ = true
 exact ⟨by kernel_rfl, by kernel_rfl⟩⟩
set_option maxRecDepth 100000 in
theorem fnOk_yPin : FnOk Try.prog 64 Try.f64 := ⟨by rfl, by kernel_rfl, by
 show okCode _ _ = true ∧ drawsOk _ = true
 exact ⟨by kernel_rfl, by kernel_rfl⟩⟩
set_option maxRecDepth 100000 in
theorem fnOk_yUnpin : FnOk Try.prog 65 Try.f65 := ⟨by rfl, by kernel_rfl, by
 show okCode _ _ = true ∧ drawsOk _ = true
 exact ⟨by kernel_rfl, by kernel_rfl⟩⟩
set_option maxRecDepth 100000 in
theorem fnOk_yOpen : FnOk Try.prog 66 Try.f66 := ⟨by rfl, by kernel_rfl, by
 show okCode _ _ = true ∧ drawsOk _ = true
 exact ⟨by kernel_rfl, by kernel_rfl⟩⟩
set_option maxRecDepth 100000 in
theorem fnOk_yNext : FnOk Try.prog 67 Try.f67 := ⟨by rfl, by kernel_rfl, by
 show okCode _ _ = true ∧ drawsOk _ = true
 exact ⟨by kernel_rfl, by kernel_rfl⟩⟩
set_option maxRecDepth 100000 in
theorem fnOk_yPrev : FnOk Try.prog 68 Try.f68 := ⟨by rfl, by kernel_rfl, by
 show okCode _ _ = true ∧ drawsOk _ = true
 exact ⟨by kernel_rfl, by kernel_rfl⟩⟩
set_option maxRecDepth 100000 in
theorem fnOk_yShut : FnOk Try.prog 69 Try.f69 := ⟨by rfl, by kernel_rfl, by
 show okCode _ _ = true ∧ drawsOk _ = true
 exact ⟨by kernel_rfl, by kernel_rfl⟩⟩
set_option maxRecDepth 100000 in
theorem fnOk_yMap : FnOk Try.prog 70 Try.f70 := ⟨by rfl, by kernel_rfl, by
 show okCode _ _ = true ∧ drawsOk _ = true
 exact ⟨by kernel_rfl, by kernel_rfl⟩⟩
set_option maxRecDepth 100000 in
theorem fnOk_yLive : FnOk Try.prog 37 Try.f37 := ⟨by rfl, by kernel_rfl, by
 show okCode _ _ = true ∧ drawsOk _ = true
 exact ⟨by kernel_rfl, by kernel_rfl⟩⟩
set_option maxRecDepth 100000 in
theorem fnOk_rLive : FnOk Try.prog 74 Try.f74 := ⟨by rfl, by kernel_rfl, by
 show okCode _ _ = true ∧ drawsOk _ = true
 exact ⟨by kernel_rfl, by kernel_rfl⟩⟩
set_option maxRecDepth 100000 in
theorem fnOk_rGive : FnOk Try.prog 93 Try.f93 := ⟨by rfl, by kernel_rfl, by
 show okCode _ _ = true ∧ drawsOk _ = true
 exact ⟨by kernel_rfl, by kernel_rfl⟩⟩
set_option maxRecDepth 100000 in
theorem fnOk_rLook : FnOk Try.prog 94 Try.f94 := ⟨by rfl, by kernel_rfl, by
 show okCode _ _ = true ∧ drawsOk _ = true
 exact ⟨by kernel_rfl, by kernel_rfl⟩⟩
abbrev rsT : Ty := .st [.int .i64, .bool, .sl pairT, .int .i64]
abbrev YH (hd : List pairT.El) (gQ : Nat) (Q : List rsT.El) (gD : Nat) (D : List rsT.El) : Hp :=
 [.cells 106 [.lst pairT hd, .own 1 gQ Q.length, .own 2 gD D.length], .arr 128 rsT Q false gQ, .arr 128 rsT D false gD]
structure YRel (p : PM) (Q D : List rsT.El) : Prop where
 pl : Q.length = p.pins.length
 cl : D.length = p.curs.length
 pr : ∀ (j : Nat) (x : rsT.El) (q : Int × Option (List pairT.El)), Q[j]? = some x → p.pins[j]? = some q → x.1 = q.1 ∧ q.2 = if x.2.1 = true then some x.2.2.1 else none
 cr : ∀ (j : Nat) (x : rsT.El) (q : Int × Option (List pairT.El × Int)), D[j]? = some x → p.curs[j]? = some q → x.1 = q.1 ∧ q.2 = if x.2.1 = true then some (x.2.2.1, x.2.2.2.1) else none
inductive yP (ar : List AV) (nx : PM → PM) (rt : PM → AV) (ys : List AV) (h : Hp) (K : AV → Hp → Prop) : Prop where
 | mk (p : PM) (k : Nat) (gQ : Nat) (Q : List rsT.El) (gD : Nat) (D : List rsT.El) (hy : ys = ar) (hh : h = YH p.hd gQ Q gD D) (hw : Wf k p) (hk : k ≤ 1000000) (hr : YRel p Q D)
  (hK : ∀ gQ' Q' gD' D', YRel (nx p) Q' D' → K (rt p) (YH (nx p).hd gQ' Q' gD' D')) : yP ar nx rt ys h K
section
variable {p : PM} {Q D : List rsT.El}
theorem YRel.head (h : YRel p Q D) (hd : List pairT.El) : YRel { p with hd := hd } Q D := ⟨h.pl, h.cl, h.pr, h.cr⟩
theorem YRel.pAt (h : YRel p Q D) {j : Nat} {g0 : Int} {o : Option (List pairT.El)} (hq : p.pins[j]? = some (g0, o)) : (o = none ∧ ∃ m a, Q[j]? = some (g0, false, m, a, ())) ∨ ∃ m a, o = some m ∧ Q[j]? = some (g0, true, m, a, ()) := by
 have hj : j < Q.length := by rw [h.pl]; exact (List.getElem?_eq_some_iff.1 hq).1
 have h1 := List.getElem?_eq_getElem hj
 generalize Q[j] = x at h1
 obtain ⟨g, hl, m, a, u⟩ := x
 obtain ⟨e, h2⟩ := h.pr j _ _ h1 hq
 have e : g = g0 := e
 subst e
 cases hl with
 | false => exact .inl ⟨h2, m, a, h1⟩
 | true => exact .inr ⟨m, a, h2, h1⟩
theorem YRel.cAt (h : YRel p Q D) {j : Nat} {g0 : Int} {o : Option (List pairT.El × Int)} (hq : p.curs[j]? = some (g0, o)) : (o = none ∧ ∃ m a, D[j]? = some (g0, false, m, a, ())) ∨ ∃ m a, o = some (m, a) ∧ D[j]? = some (g0, true, m, a, ()) := by
 have hj : j < D.length := by rw [h.cl]; exact (List.getElem?_eq_some_iff.1 hq).1
 have h1 := List.getElem?_eq_getElem hj
 generalize D[j] = x at h1
 obtain ⟨g, hl, m, a, u⟩ := x
 obtain ⟨e, h2⟩ := h.cr j _ _ h1 hq
 have e : g = g0 := e
 subst e
 cases hl with
 | false => exact .inl ⟨h2, m, a, h1⟩
 | true => exact .inr ⟨m, a, h2, h1⟩
theorem YRel.pSet (h : YRel p Q D) {j : Nat} {x : rsT.El} {q : Int × Option (List pairT.El)} (h1 : x.1 = q.1) (h2 : q.2 = if x.2.1 = true then some x.2.2.1 else none) : YRel { p with pins := p.pins.set j q } (Q.set j x) D where
 pl := by rw [List.length_set]; show Q.length = List.length (List.set _ _ _); rw [List.length_set]; exact h.pl
 cl := h.cl
 pr := fun i y r hx hq => by
  have hq : (p.pins.set j q)[i]? = some r := hq
  rw [List.getElem?_set] at hx hq
  by_cases e : j = i
  ·rw [if_pos e] at hx hq
   split at hx
   ·split at hq
    ·cases hx; cases hq; exact ⟨h1, h2⟩
    ·cases hq
   ·cases hx
  ·rw [if_neg e] at hx hq
   exact h.pr i y r hx hq
 cr := h.cr
theorem YRel.cSet (h : YRel p Q D) {j : Nat} {x : rsT.El} {q : Int × Option (List pairT.El × Int)} (h1 : x.1 = q.1) (h2 : q.2 = if x.2.1 = true then some (x.2.2.1, x.2.2.2.1) else none) : YRel { p with curs := p.curs.set j q } Q (D.set j x) where
 pl := h.pl
 cl := by rw [List.length_set]; show D.length = List.length (List.set _ _ _); rw [List.length_set]; exact h.cl
 cr := fun i y r hx hq => by
  have hq : (p.curs.set j q)[i]? = some r := hq
  rw [List.getElem?_set] at hx hq
  by_cases e : j = i
  ·rw [if_pos e] at hx hq
   split at hx
   ·split at hq
    ·cases hx; cases hq; exact ⟨h1, h2⟩
    ·cases hq
   ·cases hx
  ·rw [if_neg e] at hx hq
   exact h.cr i y r hx hq
 pr := h.pr
theorem app_rel {α β : Type} {P : α → β → Prop} {A : List α} {B : List β} (hl : A.length = B.length) (h : ∀ (j : Nat) x q, A[j]? = some x → B[j]? = some q → P x q) {a : α} {b : β} (hab : P a b) : ∀ (j : Nat) x q, (A ++ [a])[j]? = some x → (B ++ [b])[j]? = some q → P x q := by
 intro i x q hx hq
 by_cases e : i < A.length
 ·rw [List.getElem?_append_left e] at hx
  rw [List.getElem?_append_left (by rw [← hl]; exact e)] at hq
  exact h i x q hx hq
 ·rw [List.getElem?_append_right (by omega)] at hx
  rw [List.getElem?_append_right (by rw [← hl]; omega)] at hq
  rw [← hl] at hq
  cases hi : i - A.length with
  | zero =>
   rw [hi] at hx hq
   cases hx; cases hq
   exact hab
  | succ n =>
   rw [hi] at hx
   simp at hx
theorem YRel.pApp (h : YRel p Q D) {x : rsT.El} {q : Int × Option (List pairT.El)} (h1 : x.1 = q.1) (h2 : q.2 = if x.2.1 = true then some x.2.2.1 else none) : YRel { p with pins := p.pins ++ [q] } (Q ++ [x]) D where
 pl := by show _ = List.length (_ ++ _); rw [List.length_append, List.length_append, h.pl]; rfl
 cl := h.cl
 pr := app_rel h.pl h.pr ⟨h1, h2⟩
 cr := h.cr
theorem YRel.cApp (h : YRel p Q D) {x : rsT.El} {q : Int × Option (List pairT.El × Int)} (h1 : x.1 = q.1) (h2 : q.2 = if x.2.1 = true then some (x.2.2.1, x.2.2.2.1) else none) : YRel { p with curs := p.curs ++ [q] } Q (D ++ [x]) where
 pl := h.pl
 cl := by show _ = List.length (_ ++ _); rw [List.length_append, List.length_append, h.cl]; rfl
 cr := app_rel h.cl h.cr ⟨h1, h2⟩
 pr := h.pr
end
def lookQ (l : List rsT.El) (i g : Int) : Int :=
 if i < 1 ∨ (l.length : Int) < i then 4 else match l[(i - 1).toNat]? with
  | some q => if g < 1 ∨ q.1 < g then 4 else if g < q.1 ∨ q.2.1 = false then 11 else 0
  | none => 4
theorem lookQ_at {l : List rsT.El} {i g : Int} (h1 : 1 ≤ i) (h2 : i ≤ (l.length : Int)) {q : rsT.El} (hq : l[(i - 1).toNat]? = some q) : lookQ l i g = if g < 1 ∨ q.1 < g then 4 else if g < q.1 ∨ q.2.1 = false then 11 else 0 := by
 unfold lookQ
 rw [if_neg (by omega), hq]
def spLkQ : DSpec
 | [.lst (.st [.int .i64, .bool, .sl (.st [.str, .str]), .int .i64]) Q, .agg [.int .i64 i, .int .i64 g]] => some (Q.length ≤ 1000, .tup [.int .i64 (if lookQ Q i g = 0 then i - 1 else 0), .int .i64 (lookQ Q i g)])
 | _ => none
set_option maxRecDepth 100000 in
set_option maxHeartbeats 4000000 in
theorem rLook_ok : SpecOk Try.prog 94 spLkQ := by
 refine spec_body (C := cx0) mixed tbOk SpecsOk.nil (callN_ok (C := cx0) mixed tbOk SpecsOk.nil FnsOk.nil 0) fnOk_rLook ?_
 intro ys p r h hp
 unfold spLkQ at h
 split at h
 ·rename_i Q i0 g0
  obtain ⟨i, hi⟩ : ∃ i : Int, i = i0 := ⟨_, rfl⟩
  obtain ⟨g, hg⟩ : ∃ g : Int, g = g0 := ⟨_, rfl⟩
  subst hi hg
  cases h
  by_cases hc : i < 1 ∨ (Q.length : Int) < i
  ·have he : lookQ Q i g = 4 := if_pos hc
   rw [he]
   conv => whnf
   repeat' first | ((first | refine auTq ?_ | refine auFq ?_ | refine auIk ?_ | refine auIi ?_ | refine auT ?_ | refine auF ?_ | with_reducible first | refine auKt ?_ | refine auKf ?_ | refine auNt ?_ | refine auNf ?_ | refine auEt ?_ | refine auEf ?_); conv => whnf) | ((with_reducible first | refine br_dec ?_ ?_ | refine br_ndec ?_ ?_ | refine br_ne ?_ ?_ | refine br_eq ?_ ?_) <;> intro h <;> first | (exfalso; omega) | conv => whnf) | (refine br_intro ?_ ?_ <;> intro h <;> conv => whnf) | ((first | refine auNd ?_ | refine idx_nat (by omega) (fun x hx => ?_) | refine frz_auto ?_ | refine draw_plain ?_ | refine auIx (fun x hx => ?_)); conv => whnf)
   all_goals first | rfl | contradiction | (exfalso; rename_i h; cases h; done) | (exfalso; rename_i h _; cases h; done)
  ·obtain ⟨⟨g0, hl, m, a, u⟩, hq⟩ : ∃ x : Int × Bool × List pairT.El × Int × Unit, Q[(i - 1).toNat]? = some x := ⟨_, List.getElem?_eq_getElem (by omega)⟩
   have c1 : 1 ≤ i := by omega
   have c2 : i ≤ (Q.length : Int) := by omega
   have c5 : inR .i64 (i - 1) := by simp only [inR]; omega
   have c6 : 0 ≤ i - 1 := by omega
   have he := lookQ_at (g := g) c1 c2 hq
   by_cases hb : g < 1 ∨ g0 < g
   ·rw [if_pos hb] at he
    rw [he]
    conv => whnf
    repeat' first | ((first | refine auTq ?_ | refine auFq ?_ | refine auIk ?_ | refine auIi ?_ | refine auT ?_ | refine auF ?_ | with_reducible first | refine auKt ?_ | refine auKf ?_ | refine auNt ?_ | refine auNf ?_ | refine auEt ?_ | refine auEf ?_); conv => whnf) | ((with_reducible first | refine br_dec ?_ ?_ | refine br_ndec ?_ ?_ | refine br_ne ?_ ?_ | refine br_eq ?_ ?_) <;> intro h <;> first | (exfalso; omega) | conv => whnf) | (refine br_intro ?_ ?_ <;> intro h <;> conv => whnf) | ((first | refine auNd ?_ | refine idx_nat (by omega) (fun x hx => ?_) | refine frz_auto ?_ | refine draw_plain ?_ | refine auIx (fun x hx => ?_)); conv => whnf)
    all_goals first | rfl | contradiction | (exfalso; rename_i h; cases h; done) | (exfalso; rename_i h _; cases h; done)
   ·rw [if_neg hb] at he
    cases hl with
    | false =>
     rw [if_pos (.inr rfl)] at he
     rw [he]
     conv => whnf
     repeat' first | ((first | refine auTq ?_ | refine auFq ?_ | refine auIk ?_ | refine auIi ?_ | refine auT ?_ | refine auF ?_ | with_reducible first | refine auKt ?_ | refine auKf ?_ | refine auNt ?_ | refine auNf ?_ | refine auEt ?_ | refine auEf ?_); conv => whnf) | ((with_reducible first | refine br_dec ?_ ?_ | refine br_ndec ?_ ?_ | refine br_ne ?_ ?_ | refine br_eq ?_ ?_) <;> intro h <;> first | (exfalso; omega) | conv => whnf) | (refine br_intro ?_ ?_ <;> intro h <;> conv => whnf) | ((first | refine auNd ?_ | refine idx_nat (by omega) (fun x hx => ?_) | refine frz_auto ?_ | refine draw_plain ?_ | refine auIx (fun x hx => ?_)); conv => whnf)
     all_goals first | rfl | contradiction | (exfalso; rename_i h; cases h; done) | (exfalso; rename_i h _; cases h; done)
    | true =>
     by_cases ho : g < g0
     ·rw [if_pos (.inl ho)] at he
      rw [he]
      conv => whnf
      repeat' first | ((first | refine auTq ?_ | refine auFq ?_ | refine auIk ?_ | refine auIi ?_ | refine auT ?_ | refine auF ?_ | with_reducible first | refine auKt ?_ | refine auKf ?_ | refine auNt ?_ | refine auNf ?_ | refine auEt ?_ | refine auEf ?_); conv => whnf) | ((with_reducible first | refine br_dec ?_ ?_ | refine br_ndec ?_ ?_ | refine br_ne ?_ ?_ | refine br_eq ?_ ?_) <;> intro h <;> first | (exfalso; omega) | conv => whnf) | (refine br_intro ?_ ?_ <;> intro h <;> conv => whnf) | ((first | refine auNd ?_ | refine idx_nat (by omega) (fun x hx => ?_) | refine frz_auto ?_ | refine draw_plain ?_ | refine auIx (fun x hx => ?_)); conv => whnf)
      all_goals first | rfl | contradiction | (exfalso; rename_i h; cases h; done) | (exfalso; rename_i h _; cases h; done)
     ·rw [if_neg (by rintro (h | h); exact ho h; cases h)] at he
      rw [he]
      conv => whnf
      repeat' first | ((first | refine auTq ?_ | refine auFq ?_ | refine auIk ?_ | refine auIi ?_ | refine auT ?_ | refine auF ?_ | with_reducible first | refine auKt ?_ | refine auKf ?_ | refine auNt ?_ | refine auNf ?_ | refine auEt ?_ | refine auEf ?_); conv => whnf) | ((with_reducible first | refine br_dec ?_ ?_ | refine br_ndec ?_ ?_ | refine br_ne ?_ ?_ | refine br_eq ?_ ?_) <;> intro h <;> first | (exfalso; omega) | conv => whnf) | (refine br_intro ?_ ?_ <;> intro h <;> conv => whnf) | ((first | refine auNd ?_ | refine idx_nat (by omega) (fun x hx => ?_) | refine frz_auto ?_ | refine draw_plain ?_ | refine auIx (fun x hx => ?_)); conv => whnf)
      all_goals first | rfl | contradiction | (exfalso; rename_i h; cases h; done) | (exfalso; rename_i h _; cases h; done)
 ·cases h
theorem lookQ_eq {β : Type} {l : List rsT.El} {L : List (Int × Option β)} {F : rsT.El → β} (hl : l.length = L.length) (h : ∀ (j : Nat) x q, l[j]? = some x → L[j]? = some q → x.1 = q.1 ∧ q.2 = if x.2.1 = true then some (F x) else none) (i g : Int) : lookQ l i g = lookE L i g := by
 by_cases hc : i < 1 ∨ (l.length : Int) < i
 ·rw [show lookQ l i g = 4 from if_pos hc, lookE_far (by omega)]
 ·have h1 : (i - 1).toNat < l.length := by omega
  have hx := List.getElem?_eq_getElem h1
  have hq := List.getElem?_eq_getElem (l := L) (i := (i - 1).toNat) (by omega)
  obtain ⟨e1, e2⟩ := h _ _ _ hx hq
  rw [lookQ_at (by omega) (by omega) hx, lookE_at (by omega) (by omega) hq, e1, e2]
  cases l[(i - 1).toNat].2.1 <;> simp
theorem YRel.pLook {p : PM} {Q D : List rsT.El} (h : YRel p Q D) (i g : Int) : lookQ Q i g = lookE p.pins i g := lookQ_eq (F := fun x => x.2.2.1) h.pl h.pr i g
theorem YRel.cLook {p : PM} {Q D : List rsT.El} (h : YRel p Q D) (i g : Int) : lookQ D i g = lookE p.curs i g := lookQ_eq (F := fun x => (x.2.2.1, x.2.2.2.1)) h.cl h.cr i g
noncomputable def cxY : Cx := ⟨tb, [], [(17, .d spWr), (94, .d spLkQ)]⟩
theorem specsY : SpecsOk Try.prog cxY.specs := .cons rWr5_ok (.cons rLook_ok .nil)
theorem callY : CallOk Try.prog (callN cxY 1) := callN_ok mixed tbOk specsY FnsOk.nil 1
def yWriteA : LocA := fun ys h K => ∃ ws : List wrT.El, ws.length ≤ 1000000 ∧ yP [.ptr 0 0, .lst wrT ws] (fun p => p.writeN ws) (fun p => .int .i64 (p.writeE ws)) ys h K
set_option maxRecDepth 100000 in
set_option maxHeartbeats 4000000 in
theorem yWrite_ok : LocOk Try.prog 63 yWriteA := by
 refine loc_body (C := cxY) mixed tbOk specsY callY fnOk_yWrite ?_
 rintro ys h0 K ⟨ws, hws, p, k, gQ, Q, gD, D, rfl, rfl, hw, hk, hr, hK⟩
 have h0 := hw.hd.len
 have h1 : p.hd.length ≤ 4611686018427387904 := Nat.le_trans h0 (by decide)
 have h2 : ws.length ≤ 4611686018427387904 := Nat.le_trans hws (by decide)
 by_cases he : (wrR p.hd ws).2 = 0
 ·have e1 : p.writeN ws = { p with hd := (wrR p.hd ws).1 } := if_pos he
  rw [e1] at hK
  conv => whnf
  repeat' first | ((first | refine auTq ?_ | refine auFq ?_ | refine auIk ?_ | refine auIi ?_ | refine auT ?_ | refine auF ?_ | with_reducible first | refine auKt ?_ | refine auKf ?_ | refine auNt ?_ | refine auNf ?_ | refine auEt ?_ | refine auEf ?_); conv => whnf) | ((with_reducible first | refine br_dec ?_ ?_ | refine br_ndec ?_ ?_ | refine br_ne ?_ ?_ | refine br_eq ?_ ?_) <;> intro h <;> first | (exfalso; omega) | conv => whnf) | (refine br_intro ?_ ?_ <;> intro h <;> conv => whnf) | ((first | refine auNd ?_ | refine idx_nat (by omega) (fun x hx => ?_) | refine frz_auto ?_ | refine draw_plain ?_ | refine auIx (fun x hx => ?_)); conv => whnf)
  refine exA [0, 1, 2] ?_
  conv => whnf
  repeat' first | ((first | refine auTq ?_ | refine auFq ?_ | refine auIk ?_ | refine auIi ?_ | refine auT ?_ | refine auF ?_ | with_reducible first | refine auKt ?_ | refine auKf ?_ | refine auNt ?_ | refine auNf ?_ | refine auEt ?_ | refine auEf ?_); conv => whnf) | ((with_reducible first | refine br_dec ?_ ?_ | refine br_ndec ?_ ?_ | refine br_ne ?_ ?_ | refine br_eq ?_ ?_) <;> intro h <;> first | (exfalso; omega) | conv => whnf) | (refine br_intro ?_ ?_ <;> intro h <;> conv => whnf) | ((first | refine auNd ?_ | refine idx_nat (by omega) (fun x hx => ?_) | refine frz_auto ?_ | refine draw_plain ?_ | refine auIx (fun x hx => ?_)); conv => whnf)
  exact hK _ _ _ _ (hr.head _)
 ·have e1 : p.writeN ws = p := if_neg he
  rw [e1] at hK
  conv => whnf
  repeat' first | ((first | refine auTq ?_ | refine auFq ?_ | refine auIk ?_ | refine auIi ?_ | refine auT ?_ | refine auF ?_ | with_reducible first | refine auKt ?_ | refine auKf ?_ | refine auNt ?_ | refine auNf ?_ | refine auEt ?_ | refine auEf ?_); conv => whnf) | ((with_reducible first | refine br_dec ?_ ?_ | refine br_ndec ?_ ?_ | refine br_ne ?_ ?_ | refine br_eq ?_ ?_) <;> intro h <;> first | (exfalso; omega) | conv => whnf) | (refine br_intro ?_ ?_ <;> intro h <;> conv => whnf) | ((first | refine auNd ?_ | refine idx_nat (by omega) (fun x hx => ?_) | refine frz_auto ?_ | refine draw_plain ?_ | refine auIx (fun x hx => ?_)); conv => whnf)
  refine exA [0, 1, 2] ?_
  conv => whnf
  repeat' first | ((first | refine auTq ?_ | refine auFq ?_ | refine auIk ?_ | refine auIi ?_ | refine auT ?_ | refine auF ?_ | with_reducible first | refine auKt ?_ | refine auKf ?_ | refine auNt ?_ | refine auNf ?_ | refine auEt ?_ | refine auEf ?_); conv => whnf) | ((with_reducible first | refine br_dec ?_ ?_ | refine br_ndec ?_ ?_ | refine br_ne ?_ ?_ | refine br_eq ?_ ?_) <;> intro h <;> first | (exfalso; omega) | conv => whnf) | (refine br_intro ?_ ?_ <;> intro h <;> conv => whnf) | ((first | refine auNd ?_ | refine idx_nat (by omega) (fun x hx => ?_) | refine frz_auto ?_ | refine draw_plain ?_ | refine auIx (fun x hx => ?_)); conv => whnf)
  exact hK _ _ _ _ hr
def yMapA : LocA := fun ys h K => ∃ i g : Int, yP [.ptr 0 0, .agg [.int .i64 i, .int .i64 g]] (fun p => p) (fun p => .tup [.lst pairT (p.mapR i g).1, .int .i64 (p.mapR i g).2]) ys h K
set_option maxRecDepth 100000 in
set_option maxHeartbeats 4000000 in
theorem yMap_ok : LocOk Try.prog 70 yMapA := by
 refine loc_body (C := cxY) mixed tbOk specsY callY fnOk_yMap ?_
 rintro ys h0 K ⟨i, g, p, k, gQ, Q, gD, D, rfl, rfl, hw, hk, hr, hK⟩
 have h0 := hw.hd.len
 have h1 : p.hd.length ≤ 4611686018427387904 := Nat.le_trans h0 (by decide)
 have hpl := hr.pl
 have hpl2 := hw.pl
 have hcl := hr.cl
 have hcl2 := hw.cl
 cases hz : isHd i g with
 | true =>
  have hz : eqT (Ty.st [Ty.int IntKind.i64, Ty.int IntKind.i64]) (i, g, ()) (0, 0, ()) = true := hz
  have er : p.mapR i g = (p.hd, 0) := if_pos hz
  rw [er] at hK
  conv => whnf
  repeat' first | ((first | refine auTq ?_ | refine auFq ?_ | refine auIk ?_ | refine auIi ?_ | refine auT ?_ | refine auF ?_ | with_reducible first | refine auKt ?_ | refine auKf ?_ | refine auNt ?_ | refine auNf ?_ | refine auEt ?_ | refine auEf ?_); conv => whnf) | ((with_reducible first | refine br_dec ?_ ?_ | refine br_ndec ?_ ?_ | refine br_ne ?_ ?_ | refine br_eq ?_ ?_) <;> intro h <;> first | (exfalso; omega) | conv => whnf) | (refine br_intro ?_ ?_ <;> intro h <;> conv => whnf) | ((first | refine auNd ?_ | refine idx_nat (by omega) (fun x hx => ?_) | refine frz_auto ?_ | refine draw_plain ?_ | refine auIx (fun x hx => ?_)); conv => whnf)
  all_goals
   refine exA [0, 1, 2] ?_
   conv => whnf
   repeat (refine auNd ?_; conv => whnf)
   exact K_tup (by first | rfl | exact List.take_length | simp only [cast_self, List.take_zero, List.nil_append, Nat.zero_add, List.take_length]) (hK _ _ _ _ hr)
 | false =>
  have hz0 := hz
  have hz : eqT (Ty.st [Ty.int IntKind.i64, Ty.int IntKind.i64]) (i, g, ()) (0, 0, ()) = false := hz
  have hlk : lookQ (List.take Q.length Q) i g = lookE p.pins i g := by rw [List.take_length]; exact hr.pLook i g
  by_cases he : lookE p.pins i g = 0
  ·obtain ⟨c1, c2, _, x, hq⟩ := lookE_zero he
   have hix : (if lookQ (List.take Q.length Q) i g = 0 then i - 1 else 0) = i - 1 := if_pos (hlk.trans he)
   have c2 : i ≤ (Q.length : Int) := by omega
   have c5 : inR .i64 (i - 1) := by simp only [inR]; omega
   have c6 : 0 ≤ i - 1 := by omega
   have hlt : (i - 1).toNat < Q.length := by omega
   have hq0 := hw.pin _ (List.mem_of_getElem? hq)
   obtain ⟨a, hp0⟩ : ∃ a, Q[(i - 1).toNat]? = some (g, true, x, a, ()) := by
    rcases hr.pAt hq with ⟨h, _⟩ | ⟨m, a, h, h2⟩
    ·cases h
    ·cases h; exact ⟨a, h2⟩
   have hm := (hq0.2.2 x rfl).len
   have hm1 : x.length ≤ 4611686018427387904 := Nat.le_trans hm (by decide)
   have hp : Q[(if lookQ (List.take Q.length Q) i g = 0 then i - 1 else 0).toNat]? = some (g, true, x, a, ()) := by rw [hix]; exact hp0
   have c7 : 0 ≤ (if lookQ (List.take Q.length Q) i g = 0 then i - 1 else 0) := by rw [hix]; exact c6
   have hq1 : lookQ (List.take Q.length Q) i g = 0 := hlk.trans he
   have er : p.mapR i g = (x, 0) := by unfold PM.mapR; rw [if_neg (by rw [hz0]; decide), he, if_pos rfl, lookV_at hq]; rfl
   rw [er] at hK
   conv => whnf
   repeat' first | ((first | refine auTq ?_ | refine auFq ?_ | refine auIk ?_ | refine auIi ?_ | refine auT ?_ | refine auF ?_ | with_reducible first | refine auKt ?_ | refine auKf ?_ | refine auNt ?_ | refine auNf ?_ | refine auEt ?_ | refine auEf ?_); conv => whnf) | ((with_reducible first | refine br_dec ?_ ?_ | refine br_ndec ?_ ?_ | refine br_ne ?_ ?_ | refine br_eq ?_ ?_) <;> intro h <;> first | (exfalso; omega) | conv => whnf) | (refine br_intro ?_ ?_ <;> intro h <;> conv => whnf) | ((first | refine auNd ?_ | refine idx_nat (by omega) (fun x hx => ?_) | refine frz_auto ?_ | refine draw_plain ?_ | refine auIx (fun x hx => ?_)); conv => whnf)
   all_goals
    refine exA [0, 1, 2] ?_
    conv => whnf
    repeat (refine auNd ?_; conv => whnf)
    exact K_tup (by first | rfl | exact List.take_length | simp only [cast_self, List.take_zero, List.nil_append, Nat.zero_add, List.take_length]) (hK _ _ _ _ hr)
  ·have hq1 : lookQ (List.take Q.length Q) i g ≠ 0 := by rw [hlk]; exact he
   have er : p.mapR i g = ([], lookE p.pins i g) := by unfold PM.mapR; rw [if_neg (by rw [hz0]; decide), if_neg he]
   rw [er, ← hlk] at hK
   conv => whnf
   repeat' first | ((first | refine auTq ?_ | refine auFq ?_ | refine auIk ?_ | refine auIi ?_ | refine auT ?_ | refine auF ?_ | with_reducible first | refine auKt ?_ | refine auKf ?_ | refine auNt ?_ | refine auNf ?_ | refine auEt ?_ | refine auEf ?_); conv => whnf) | ((with_reducible first | refine br_dec ?_ ?_ | refine br_ndec ?_ ?_ | refine br_ne ?_ ?_ | refine br_eq ?_ ?_) <;> intro h <;> first | (exfalso; omega) | conv => whnf) | (refine br_intro ?_ ?_ <;> intro h <;> conv => whnf) | ((first | refine auNd ?_ | refine idx_nat (by omega) (fun x hx => ?_) | refine frz_auto ?_ | refine draw_plain ?_ | refine auIx (fun x hx => ?_)); conv => whnf)
   all_goals
    refine exA [0, 1, 2] ?_
    conv => whnf
    repeat (refine auNd ?_; conv => whnf)
    exact K_tup (by first | rfl | exact List.take_length | simp only [cast_self, List.take_zero, List.nil_append, Nat.zero_add, List.take_length]) (hK _ _ _ _ hr)
def yUnpinA : LocA := fun ys h K => ∃ i g : Int, yP [.ptr 0 0, .agg [.int .i64 i, .int .i64 g]] (fun p => p.unpinN i g) (fun p => .int .i64 (lookE p.pins i g)) ys h K
set_option maxRecDepth 100000 in
set_option maxHeartbeats 4000000 in
theorem yUnpin_ok : LocOk Try.prog 65 yUnpinA := by
 refine loc_body (C := cxY) mixed tbOk specsY callY fnOk_yUnpin ?_
 rintro ys h0 K ⟨i, g, p, k, gQ, Q, gD, D, rfl, rfl, hw, hk, hr, hK⟩
 have h0 := hw.hd.len
 have h1 : p.hd.length ≤ 4611686018427387904 := Nat.le_trans h0 (by decide)
 have hpl := hr.pl
 have hpl2 := hw.pl
 have hcl := hr.cl
 have hcl2 := hw.cl
 have hlk : lookQ (List.take Q.length Q) i g = lookE p.pins i g := by rw [List.take_length]; exact hr.pLook i g
 by_cases he : lookE p.pins i g = 0
 ·obtain ⟨c1, c2, _, x, hq⟩ := lookE_zero he
  have hix : (if lookQ (List.take Q.length Q) i g = 0 then i - 1 else 0) = i - 1 := if_pos (hlk.trans he)
  have c2 : i ≤ (Q.length : Int) := by omega
  have c5 : inR .i64 (i - 1) := by simp only [inR]; omega
  have c6 : 0 ≤ i - 1 := by omega
  have hlt : (i - 1).toNat < Q.length := by omega
  have hq0 := hw.pin _ (List.mem_of_getElem? hq)
  obtain ⟨a, hp0⟩ : ∃ a, Q[(i - 1).toNat]? = some (g, true, x, a, ()) := by
   rcases hr.pAt hq with ⟨h, _⟩ | ⟨m, a, h, h2⟩
   ·cases h
   ·cases h; exact ⟨a, h2⟩
  have hm := (hq0.2.2 x rfl).len
  have hm1 : x.length ≤ 4611686018427387904 := Nat.le_trans hm (by decide)
  have hp : Q[(if lookQ (List.take Q.length Q) i g = 0 then i - 1 else 0).toNat]? = some (g, true, x, a, ()) := by rw [hix]; exact hp0
  have c7 : 0 ≤ (if lookQ (List.take Q.length Q) i g = 0 then i - 1 else 0) := by rw [hix]; exact c6
  have hq1 : lookQ (List.take Q.length Q) i g = 0 := hlk.trans he
  have er : p.unpinN i g = { p with pins := p.pins.set (i - 1).toNat (g, none) } := by unfold PM.unpinN dropL; rw [he, if_pos rfl]
  rw [er, ← hlk] at hK
  conv => whnf
  repeat' first | ((first | refine auTq ?_ | refine auFq ?_ | refine auIk ?_ | refine auIi ?_ | refine auT ?_ | refine auF ?_ | with_reducible first | refine auKt ?_ | refine auKf ?_ | refine auNt ?_ | refine auNf ?_ | refine auEt ?_ | refine auEf ?_); conv => whnf) | ((with_reducible first | refine br_dec ?_ ?_ | refine br_ndec ?_ ?_ | refine br_ne ?_ ?_ | refine br_eq ?_ ?_) <;> intro h <;> first | (exfalso; omega) | conv => whnf) | (refine br_intro ?_ ?_ <;> intro h <;> conv => whnf) | ((first | refine auNd ?_ | refine idx_nat (by omega) (fun x hx => ?_) | refine frz_auto ?_ | refine draw_plain ?_ | refine auIx (fun x hx => ?_)); conv => whnf)
  all_goals
   refine exA [0, 1, 2] ?_
   conv => whnf
   repeat (refine auNd ?_; conv => whnf)
   have h9 := hK gQ _ gD D (hr.pSet (j := (i - 1).toNat) (x := (g, false, x, a, ())) (q := (g, none)) rfl rfl)
   simp only [YH, List.length_set] at h9
   rw [hix]
   exact h9
 ·have hq1 : lookQ (List.take Q.length Q) i g ≠ 0 := by rw [hlk]; exact he
  have er : p.unpinN i g = p := by unfold PM.unpinN dropL; rw [if_neg he]
  rw [er, ← hlk] at hK
  conv => whnf
  repeat' first | ((first | refine auTq ?_ | refine auFq ?_ | refine auIk ?_ | refine auIi ?_ | refine auT ?_ | refine auF ?_ | with_reducible first | refine auKt ?_ | refine auKf ?_ | refine auNt ?_ | refine auNf ?_ | refine auEt ?_ | refine auEf ?_); conv => whnf) | ((with_reducible first | refine br_dec ?_ ?_ | refine br_ndec ?_ ?_ | refine br_ne ?_ ?_ | refine br_eq ?_ ?_) <;> intro h <;> first | (exfalso; omega) | conv => whnf) | (refine br_intro ?_ ?_ <;> intro h <;> conv => whnf) | ((first | refine auNd ?_ | refine idx_nat (by omega) (fun x hx => ?_) | refine frz_auto ?_ | refine draw_plain ?_ | refine auIx (fun x hx => ?_)); conv => whnf)
  all_goals
   refine exA [0, 1, 2] ?_
   conv => whnf
   repeat (refine auNd ?_; conv => whnf)
   exact hK _ _ _ _ hr
def yShutA : LocA := fun ys h K => ∃ i g : Int, yP [.ptr 0 0, .agg [.int .i64 i, .int .i64 g]] (fun p => p.shutN i g) (fun p => .int .i64 (lookE p.curs i g)) ys h K
set_option maxRecDepth 100000 in
set_option maxHeartbeats 4000000 in
theorem yShut_ok : LocOk Try.prog 69 yShutA := by
 refine loc_body (C := cxY) mixed tbOk specsY callY fnOk_yShut ?_
 rintro ys h0 K ⟨i, g, p, k, gQ, Q, gD, D, rfl, rfl, hw, hk, hr, hK⟩
 have h0 := hw.hd.len
 have h1 : p.hd.length ≤ 4611686018427387904 := Nat.le_trans h0 (by decide)
 have hpl := hr.pl
 have hpl2 := hw.pl
 have hcl := hr.cl
 have hcl2 := hw.cl
 have hlk : lookQ (List.take D.length D) i g = lookE p.curs i g := by rw [List.take_length]; exact hr.cLook i g
 by_cases he : lookE p.curs i g = 0
 ·obtain ⟨c1, c2, _, x, hq⟩ := lookE_zero he
  have hix : (if lookQ (List.take D.length D) i g = 0 then i - 1 else 0) = i - 1 := if_pos (hlk.trans he)
  have c2 : i ≤ (D.length : Int) := by omega
  have c5 : inR .i64 (i - 1) := by simp only [inR]; omega
  have c6 : 0 ≤ i - 1 := by omega
  have hlt : (i - 1).toNat < D.length := by omega
  have hq0 := hw.cur _ (List.mem_of_getElem? hq)
  obtain ⟨m, a⟩ := x
  have hp0 : D[(i - 1).toNat]? = some (g, true, m, a, ()) := by
   rcases hr.cAt hq with ⟨h, _⟩ | ⟨m, a, h, h2⟩
   ·cases h
   ·cases h; exact h2
  obtain ⟨hm, ha0, ha1⟩ := hq0.2.2 m a rfl
  have hm1 : m.length ≤ 4611686018427387904 := Nat.le_trans hm (by decide)
  have hp : D[(if lookQ (List.take D.length D) i g = 0 then i - 1 else 0).toNat]? = some (g, true, m, a, ()) := by rw [hix]; exact hp0
  have c7 : 0 ≤ (if lookQ (List.take D.length D) i g = 0 then i - 1 else 0) := by rw [hix]; exact c6
  have hq1 : lookQ (List.take D.length D) i g = 0 := hlk.trans he
  have er : p.shutN i g = { p with curs := p.curs.set (i - 1).toNat (g, none) } := by unfold PM.shutN dropL; rw [he, if_pos rfl]
  rw [er, ← hlk] at hK
  conv => whnf
  repeat' first | ((first | refine auTq ?_ | refine auFq ?_ | refine auIk ?_ | refine auIi ?_ | refine auT ?_ | refine auF ?_ | with_reducible first | refine auKt ?_ | refine auKf ?_ | refine auNt ?_ | refine auNf ?_ | refine auEt ?_ | refine auEf ?_); conv => whnf) | ((with_reducible first | refine br_dec ?_ ?_ | refine br_ndec ?_ ?_ | refine br_ne ?_ ?_ | refine br_eq ?_ ?_) <;> intro h <;> first | (exfalso; omega) | conv => whnf) | (refine br_intro ?_ ?_ <;> intro h <;> conv => whnf) | ((first | refine auNd ?_ | refine idx_nat (by omega) (fun x hx => ?_) | refine frz_auto ?_ | refine draw_plain ?_ | refine auIx (fun x hx => ?_)); conv => whnf)
  all_goals
   refine exA [0, 1, 2] ?_
   conv => whnf
   repeat (refine auNd ?_; conv => whnf)
   have h9 := hK gQ Q gD _ (hr.cSet (j := (i - 1).toNat) (x := (g, false, m, a, ())) (q := (g, none)) rfl rfl)
   simp only [YH, List.length_set] at h9
   rw [hix]
   exact h9
 ·have hq1 : lookQ (List.take D.length D) i g ≠ 0 := by rw [hlk]; exact he
  have er : p.shutN i g = p := by unfold PM.shutN dropL; rw [if_neg he]
  rw [er, ← hlk] at hK
  conv => whnf
  repeat' first | ((first | refine auTq ?_ | refine auFq ?_ | refine auIk ?_ | refine auIi ?_ | refine auT ?_ | refine auF ?_ | with_reducible first | refine auKt ?_ | refine auKf ?_ | refine auNt ?_ | refine auNf ?_ | refine auEt ?_ | refine auEf ?_); conv => whnf) | ((with_reducible first | refine br_dec ?_ ?_ | refine br_ndec ?_ ?_ | refine br_ne ?_ ?_ | refine br_eq ?_ ?_) <;> intro h <;> first | (exfalso; omega) | conv => whnf) | (refine br_intro ?_ ?_ <;> intro h <;> conv => whnf) | ((first | refine auNd ?_ | refine idx_nat (by omega) (fun x hx => ?_) | refine frz_auto ?_ | refine draw_plain ?_ | refine auIx (fun x hx => ?_)); conv => whnf)
  all_goals
   refine exA [0, 1, 2] ?_
   conv => whnf
   repeat (refine auNd ?_; conv => whnf)
   exact hK _ _ _ _ hr
def yNextA : LocA := fun ys h K => ∃ i g : Int, yP [.ptr 0 0, .agg [.int .i64 i, .int .i64 g]] (fun p => p.nextN i g) (fun p => .tup [avV pairT (p.nextP i g), .int .i64 (p.nextE i g)]) ys h K
set_option maxRecDepth 100000 in
set_option maxHeartbeats 4000000 in
theorem yNext_ok : LocOk Try.prog 67 yNextA := by
 refine loc_body (C := cxY) mixed tbOk specsY callY fnOk_yNext ?_
 rintro ys h0 K ⟨i, g, p, k, gQ, Q, gD, D, rfl, rfl, hw, hk, hr, hK⟩
 have h0 := hw.hd.len
 have h1 : p.hd.length ≤ 4611686018427387904 := Nat.le_trans h0 (by decide)
 have hpl := hr.pl
 have hpl2 := hw.pl
 have hcl := hr.cl
 have hcl2 := hw.cl
 have hlk : lookQ (List.take D.length D) i g = lookE p.curs i g := by rw [List.take_length]; exact hr.cLook i g
 by_cases he : lookE p.curs i g = 0
 ·obtain ⟨c1, c2, _, x, hq⟩ := lookE_zero he
  have hix : (if lookQ (List.take D.length D) i g = 0 then i - 1 else 0) = i - 1 := if_pos (hlk.trans he)
  have c2 : i ≤ (D.length : Int) := by omega
  have c5 : inR .i64 (i - 1) := by simp only [inR]; omega
  have c6 : 0 ≤ i - 1 := by omega
  have hlt : (i - 1).toNat < D.length := by omega
  have hq0 := hw.cur _ (List.mem_of_getElem? hq)
  obtain ⟨m, a⟩ := x
  have hp0 : D[(i - 1).toNat]? = some (g, true, m, a, ()) := by
   rcases hr.cAt hq with ⟨h, _⟩ | ⟨m, a, h, h2⟩
   ·cases h
   ·cases h; exact h2
  obtain ⟨hm, ha0, ha1⟩ := hq0.2.2 m a rfl
  have hm1 : m.length ≤ 4611686018427387904 := Nat.le_trans hm (by decide)
  have hp : D[(if lookQ (List.take D.length D) i g = 0 then i - 1 else 0).toNat]? = some (g, true, m, a, ()) := by rw [hix]; exact hp0
  have c7 : 0 ≤ (if lookQ (List.take D.length D) i g = 0 then i - 1 else 0) := by rw [hix]; exact c6
  have hq1 : lookQ (List.take D.length D) i g = 0 := hlk.trans he
  have ev : p.curV i = (m, a) := by unfold PM.curV; rw [lookV_at hq]; rfl
  by_cases hend : a = (m.length : Int)
  ·have er : p.nextE i g = 12 := by unfold PM.nextE; rw [he, if_neg (by decide), ev, if_pos hend]
   have eN : p.nextN i g = p := by unfold PM.nextN; rw [er, if_neg (by decide)]
   have eP : p.nextP i g = noP := by unfold PM.nextP; rw [er, if_neg (by decide)]
   rw [eN, er, eP] at hK
   conv => whnf
   repeat' first | ((first | refine auTq ?_ | refine auFq ?_ | refine auIk ?_ | refine auIi ?_ | refine auT ?_ | refine auF ?_ | with_reducible first | refine auKt ?_ | refine auKf ?_ | refine auNt ?_ | refine auNf ?_ | refine auEt ?_ | refine auEf ?_); conv => whnf) | ((with_reducible first | refine br_dec ?_ ?_ | refine br_ndec ?_ ?_ | refine br_ne ?_ ?_ | refine br_eq ?_ ?_) <;> intro h <;> first | (exfalso; omega) | conv => whnf) | (refine br_intro ?_ ?_ <;> intro h <;> conv => whnf) | ((first | refine auNd ?_ | refine idx_nat (by omega) (fun x hx => ?_) | refine frz_auto ?_ | refine draw_plain ?_ | refine auIx (fun x hx => ?_)); conv => whnf)
   all_goals
    refine exA [0, 1, 2] ?_
    conv => whnf
    repeat (refine auNd ?_; conv => whnf)
    exact hK _ _ _ _ hr
  ·have er : p.nextE i g = 0 := by unfold PM.nextE; rw [he, if_neg (by decide), ev, if_neg hend]
   have hj : a.toNat < m.length := by omega
   obtain ⟨y, hy⟩ : ∃ y, m[a.toNat]? = some y := ⟨_, List.getElem?_eq_getElem hj⟩
   have eN : p.nextN i g = { p with curs := p.curs.set (i - 1).toNat (g, some (m, a + 1)) } := by unfold PM.nextN; rw [er, if_pos rfl, ev]
   have eP : p.nextP i g = y := by unfold PM.nextP; rw [er, if_pos rfl, ev]; show (m[a.toNat]?).getD noP = y; rw [hy]; rfl
   rw [eN, er, eP] at hK
   have hb2 : (D.set (if lookQ (List.take D.length D) i g = 0 then i - 1 else 0).toNat (g, true, m, a + 1, ()))[(if lookQ (List.take D.length D) i g = 0 then i - 1 else 0).toNat]? = some (g, true, m, a + 1, ()) := get_set (by rw [hix]; exact hlt)
   have hy2 : m[(a + 1 - 1).toNat]? = some y := by rw [show a + 1 - 1 = a by omega]; exact hy
   have ha3 : 0 ≤ a + 1 - 1 := by omega
   conv => whnf
   repeat' first | ((first | refine auTq ?_ | refine auFq ?_ | refine auIk ?_ | refine auIi ?_ | refine auT ?_ | refine auF ?_ | with_reducible first | refine auKt ?_ | refine auKf ?_ | refine auNt ?_ | refine auNf ?_ | refine auEt ?_ | refine auEf ?_); conv => whnf) | ((with_reducible first | refine br_dec ?_ ?_ | refine br_ndec ?_ ?_ | refine br_ne ?_ ?_ | refine br_eq ?_ ?_) <;> intro h <;> first | (exfalso; omega) | conv => whnf) | (refine br_intro ?_ ?_ <;> intro h <;> conv => whnf) | ((first | refine auNd ?_ | refine idx_nat (by omega) (fun x hx => ?_) | refine frz_auto ?_ | refine draw_plain ?_ | refine auIx (fun x hx => ?_)); conv => whnf)
   all_goals
    refine exA [0, 1, 2] ?_
    conv => whnf
    repeat (refine auNd ?_; conv => whnf)
    have h9 := hK gQ Q gD _ (hr.cSet (j := (i - 1).toNat) (x := (g, true, m, a + 1, ())) (q := (g, some (m, a + 1))) rfl rfl)
    simp only [YH, List.length_set] at h9
    rw [hix]
    exact h9
 ·have hq1 : lookQ (List.take D.length D) i g ≠ 0 := by rw [hlk]; exact he
  have er : p.nextE i g = lookE p.curs i g := by unfold PM.nextE; rw [if_pos he]
  have eN : p.nextN i g = p := by unfold PM.nextN; rw [er, if_neg he]
  have eP : p.nextP i g = noP := by unfold PM.nextP; rw [er, if_neg he]
  rw [eN, er, eP, ← hlk] at hK
  conv => whnf
  repeat' first | ((first | refine auTq ?_ | refine auFq ?_ | refine auIk ?_ | refine auIi ?_ | refine auT ?_ | refine auF ?_ | with_reducible first | refine auKt ?_ | refine auKf ?_ | refine auNt ?_ | refine auNf ?_ | refine auEt ?_ | refine auEf ?_); conv => whnf) | ((with_reducible first | refine br_dec ?_ ?_ | refine br_ndec ?_ ?_ | refine br_ne ?_ ?_ | refine br_eq ?_ ?_) <;> intro h <;> first | (exfalso; omega) | conv => whnf) | (refine br_intro ?_ ?_ <;> intro h <;> conv => whnf) | ((first | refine auNd ?_ | refine idx_nat (by omega) (fun x hx => ?_) | refine frz_auto ?_ | refine draw_plain ?_ | refine auIx (fun x hx => ?_)); conv => whnf)
  all_goals
   refine exA [0, 1, 2] ?_
   conv => whnf
   repeat (refine auNd ?_; conv => whnf)
   exact hK _ _ _ _ hr
def yPrevA : LocA := fun ys h K => ∃ i g : Int, yP [.ptr 0 0, .agg [.int .i64 i, .int .i64 g]] (fun p => p.prevN i g) (fun p => .tup [avV pairT (p.prevP i g), .int .i64 (p.prevE i g)]) ys h K
set_option maxRecDepth 100000 in
set_option maxHeartbeats 4000000 in
theorem yPrev_ok : LocOk Try.prog 68 yPrevA := by
 refine loc_body (C := cxY) mixed tbOk specsY callY fnOk_yPrev ?_
 rintro ys h0 K ⟨i, g, p, k, gQ, Q, gD, D, rfl, rfl, hw, hk, hr, hK⟩
 have h0 := hw.hd.len
 have h1 : p.hd.length ≤ 4611686018427387904 := Nat.le_trans h0 (by decide)
 have hpl := hr.pl
 have hpl2 := hw.pl
 have hcl := hr.cl
 have hcl2 := hw.cl
 have hlk : lookQ (List.take D.length D) i g = lookE p.curs i g := by rw [List.take_length]; exact hr.cLook i g
 by_cases he : lookE p.curs i g = 0
 ·obtain ⟨c1, c2, _, x, hq⟩ := lookE_zero he
  have hix : (if lookQ (List.take D.length D) i g = 0 then i - 1 else 0) = i - 1 := if_pos (hlk.trans he)
  have c2 : i ≤ (D.length : Int) := by omega
  have c5 : inR .i64 (i - 1) := by simp only [inR]; omega
  have c6 : 0 ≤ i - 1 := by omega
  have hlt : (i - 1).toNat < D.length := by omega
  have hq0 := hw.cur _ (List.mem_of_getElem? hq)
  obtain ⟨m, a⟩ := x
  have hp0 : D[(i - 1).toNat]? = some (g, true, m, a, ()) := by
   rcases hr.cAt hq with ⟨h, _⟩ | ⟨m, a, h, h2⟩
   ·cases h
   ·cases h; exact h2
  obtain ⟨hm, ha0, ha1⟩ := hq0.2.2 m a rfl
  have hm1 : m.length ≤ 4611686018427387904 := Nat.le_trans hm (by decide)
  have hp : D[(if lookQ (List.take D.length D) i g = 0 then i - 1 else 0).toNat]? = some (g, true, m, a, ()) := by rw [hix]; exact hp0
  have c7 : 0 ≤ (if lookQ (List.take D.length D) i g = 0 then i - 1 else 0) := by rw [hix]; exact c6
  have hq1 : lookQ (List.take D.length D) i g = 0 := hlk.trans he
  have ev : p.curV i = (m, a) := by unfold PM.curV; rw [lookV_at hq]; rfl
  by_cases hend : a = 0
  ·have er : p.prevE i g = 12 := by unfold PM.prevE; rw [he, if_neg (by decide), ev, if_pos hend]
   have eN : p.prevN i g = p := by unfold PM.prevN; rw [er, if_neg (by decide)]
   have eP : p.prevP i g = noP := by unfold PM.prevP; rw [er, if_neg (by decide)]
   rw [eN, er, eP] at hK
   conv => whnf
   repeat' first | ((first | refine auTq ?_ | refine auFq ?_ | refine auIk ?_ | refine auIi ?_ | refine auT ?_ | refine auF ?_ | with_reducible first | refine auKt ?_ | refine auKf ?_ | refine auNt ?_ | refine auNf ?_ | refine auEt ?_ | refine auEf ?_); conv => whnf) | ((with_reducible first | refine br_dec ?_ ?_ | refine br_ndec ?_ ?_ | refine br_ne ?_ ?_ | refine br_eq ?_ ?_) <;> intro h <;> first | (exfalso; omega) | conv => whnf) | (refine br_intro ?_ ?_ <;> intro h <;> conv => whnf) | ((first | refine auNd ?_ | refine idx_nat (by omega) (fun x hx => ?_) | refine frz_auto ?_ | refine draw_plain ?_ | refine auIx (fun x hx => ?_)); conv => whnf)
   all_goals
    refine exA [0, 1, 2] ?_
    conv => whnf
    repeat (refine auNd ?_; conv => whnf)
    exact hK _ _ _ _ hr
  ·have er : p.prevE i g = 0 := by unfold PM.prevE; rw [he, if_neg (by decide), ev, if_neg hend]
   have hj : (a - 1).toNat < m.length := by omega
   obtain ⟨y, hy⟩ : ∃ y, m[(a - 1).toNat]? = some y := ⟨_, List.getElem?_eq_getElem hj⟩
   have eN : p.prevN i g = { p with curs := p.curs.set (i - 1).toNat (g, some (m, a - 1)) } := by unfold PM.prevN; rw [er, if_pos rfl, ev]
   have eP : p.prevP i g = y := by unfold PM.prevP; rw [er, if_pos rfl, ev]; show (m[(a - 1).toNat]?).getD noP = y; rw [hy]; rfl
   rw [eN, er, eP] at hK
   have hb2 : (D.set (if lookQ (List.take D.length D) i g = 0 then i - 1 else 0).toNat (g, true, m, a - 1, ()))[(if lookQ (List.take D.length D) i g = 0 then i - 1 else 0).toNat]? = some (g, true, m, a - 1, ()) := get_set (by rw [hix]; exact hlt)
   have ha3 : 0 ≤ a - 1 := by omega
   conv => whnf
   repeat' first | ((first | refine auTq ?_ | refine auFq ?_ | refine auIk ?_ | refine auIi ?_ | refine auT ?_ | refine auF ?_ | with_reducible first | refine auKt ?_ | refine auKf ?_ | refine auNt ?_ | refine auNf ?_ | refine auEt ?_ | refine auEf ?_); conv => whnf) | ((with_reducible first | refine br_dec ?_ ?_ | refine br_ndec ?_ ?_ | refine br_ne ?_ ?_ | refine br_eq ?_ ?_) <;> intro h <;> first | (exfalso; omega) | conv => whnf) | (refine br_intro ?_ ?_ <;> intro h <;> conv => whnf) | ((first | refine auNd ?_ | refine idx_nat (by omega) (fun x hx => ?_) | refine frz_auto ?_ | refine draw_plain ?_ | refine auIx (fun x hx => ?_)); conv => whnf)
   all_goals
    refine exA [0, 1, 2] ?_
    conv => whnf
    repeat (refine auNd ?_; conv => whnf)
    have h9 := hK gQ Q gD _ (hr.cSet (j := (i - 1).toNat) (x := (g, true, m, a - 1, ())) (q := (g, some (m, a - 1))) rfl rfl)
    simp only [YH, List.length_set] at h9
    rw [hix]
    exact h9
 ·have hq1 : lookQ (List.take D.length D) i g ≠ 0 := by rw [hlk]; exact he
  have er : p.prevE i g = lookE p.curs i g := by unfold PM.prevE; rw [if_pos he]
  have eN : p.prevN i g = p := by unfold PM.prevN; rw [er, if_neg he]
  have eP : p.prevP i g = noP := by unfold PM.prevP; rw [er, if_neg he]
  rw [eN, er, eP, ← hlk] at hK
  conv => whnf
  repeat' first | ((first | refine auTq ?_ | refine auFq ?_ | refine auIk ?_ | refine auIi ?_ | refine auT ?_ | refine auF ?_ | with_reducible first | refine auKt ?_ | refine auKf ?_ | refine auNt ?_ | refine auNf ?_ | refine auEt ?_ | refine auEf ?_); conv => whnf) | ((with_reducible first | refine br_dec ?_ ?_ | refine br_ndec ?_ ?_ | refine br_ne ?_ ?_ | refine br_eq ?_ ?_) <;> intro h <;> first | (exfalso; omega) | conv => whnf) | (refine br_intro ?_ ?_ <;> intro h <;> conv => whnf) | ((first | refine auNd ?_ | refine idx_nat (by omega) (fun x hx => ?_) | refine frz_auto ?_ | refine draw_plain ?_ | refine auIx (fun x hx => ?_)); conv => whnf)
  all_goals
   refine exA [0, 1, 2] ?_
   conv => whnf
   repeat (refine auNd ?_; conv => whnf)
   exact hK _ _ _ _ hr
end Go.Proofs.Ytbbklijmnknmhaa
