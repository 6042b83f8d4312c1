/-
  An abstract reading of values and memory: a region does the same in whatever order.
-/
import Derived.Test.YtkjoofinfhdcaaaAvi
namespace Av
open Go

theorem LW_none {β : Type} {w : Nat → Bool} {val : Nat → β} {x0 : β} {S : Nat → Bool} : ∀ n, (∀ i, i < n → w i = true → S i = false) → LW w val x0 S n = x0
 | 0, _ => rfl
 | n + 1, h => by
  simp only [LW]
  have : (S n && w n) = false := by
   cases hw : w n with
   | false => simp
   | true => rw [h n (by omega) hw]; rfl
  rw [this]
  exact LW_none n (fun i hi => h i (by omega))
theorem LW_all {β : Type} {w : Nat → Bool} {val : Nat → β} {x0 : β} {S : Nat → Bool} : ∀ n, (∀ i, i < n → w i = true → S i = true) → LW w val x0 S n = LW w val x0 (fun _ => true) n
 | 0, _ => rfl
 | n + 1, h => by
  simp only [LW]
  rw [LW_all n (fun i hi => h i (by omega))]
  cases hw : w n with
  | false => simp
  | true => rw [h n (by omega) hw]
def cntF (S : Nat → Bool) : Nat → Nat
 | 0 => 0
 | m + 1 => cntF S m + (bif S m then 0 else 1)
theorem cntF_add {S : Nat → Bool} {j : Nat} (hj : S j = false) : ∀ m, cntF S m = cntF (fun i => S i || decide (i = j)) m + (if j < m then 1 else 0)
 | 0 => by simp [cntF]
 | m + 1 => by
  simp only [cntF]
  rw [cntF_add hj m]
  by_cases h : j = m
  ·subst h
   simp [hj]
  ·have hd : decide (m = j) = false := by simp; omega
   rw [hd, Bool.or_false]
   by_cases h2 : j < m
   ·rw [if_pos h2, if_pos (by omega)]; omega
   ·rw [if_neg h2, if_neg (by omega)]
    cases S m <;> simp
theorem cntF_zero {S : Nat → Bool} : ∀ m, cntF S m = 0 → ∀ i, i < m → S i = true
 | 0, _, i, hi => by omega
 | m + 1, h, i, hi => by
  simp only [cntF] at h
  by_cases he : i = m
  ·subst he
   cases hS : S i with
   | true => rfl
   | false => rw [hS] at h; simp at h
  ·exact cntF_zero m (by omega) i (by omega)

/-! ### Masks -/
theorem hasId_iff : ∀ {l : List Nat} {n : Nat}, hasId l n = true ↔ n ∈ l
 | [], n => by simp [hasId]
 | x :: l, n => by
  simp only [hasId, Bool.or_eq_true, List.mem_cons, hasId_iff (l := l)]
  constructor
  ·rintro (h | h)
   ·exact .inl (Nat.eq_of_beq_eq_true h).symm
   ·exact .inr h
  ·rintro (rfl | h)
   ·exact .inl (by simp)
   ·exact .inr h
theorem maskGo_get : ∀ (p : AObj → Bool) (ids : List Nat) (h : Hp) (i k : Nat) (o : AObj), (maskGo p ids i h)[k]? = some o → o.alive = true → h[k]? = some o ∧ hasId ids (i + k) = true ∧ p o = true
 | p, ids, [], i, k, o, hk, _ => by simp [maskGo] at hk
 | p, ids, x :: h, i, k, o, hk, ha => by
  simp only [maskGo] at hk
  cases k with
  | zero =>
   simp only [List.getElem?_cons_zero, Option.some.injEq] at hk
   split at hk
   ·rename_i hi
    subst hk
    rw [Bool.and_eq_true] at hi
    exact ⟨by simp, by simpa using hi.1, hi.2⟩
   ·subst hk; cases ha
  | succ k =>
   have := maskGo_get p ids h (i + 1) k o (by simpa using hk) ha
   exact ⟨by simpa using this.1, by rw [show i + (k + 1) = i + 1 + k by omega]; exact this.2.1, this.2.2⟩
theorem looks_sub {o : Oper} {x : Operand} (h : x ∈ looks o) : x ∈ o.op.operands := by
 unfold looks at h
 split at h
 ·rename_i ho
  rw [ho]
  simp only [List.mem_singleton] at h
  subst h
  simp [Op.operands]
 ·exact Array.mem_toList_iff.1 h
theorem maskH_get {o : Oper} {ρ : Operand → AV} {h : Hp} {id : Nat} {ob : AObj} (hg : (maskH o ρ h)[id]? = some ob) (ha : ob.alive = true) : memT o = true ∧ h[id]? = some ob ∧ (∃ x ∈ looks o, id ∈ idsM o (ρ x)) ∧ sees o ρ ob = true := by
 unfold maskH at hg
 split at hg
 ·rename_i hm
  obtain ⟨h1, h2, h3⟩ := maskGo_get _ _ _ _ _ _ hg ha
  rw [Nat.zero_add, hasId_iff, List.mem_flatMap] at h2
  obtain ⟨x, hx, hi⟩ := h2
  exact ⟨hm, h1, ⟨x, hx, hi⟩, h3⟩
 ·simp at hg
theorem idsM_W {o : Oper} {v : AV} {id : Nat} (hm : memW o = true) (h : id ∈ idsM o v) : id ∈ idsV v := by
 have : isLd o = false := by
  unfold isLd
  split
  ·rename_i ho; unfold memW at hm; rw [ho] at hm; cases hm
  ·rfl
 unfold idsM at h
 rw [this] at h
 simpa using h
theorem idsM_no {o : Oper} {v : AV} (h : rawI v = []) : idsM o v = idsV v := by
 unfold idsM
 rw [h]
 cases isLd o <;> simp
theorem idsM_sub {o : Oper} {v : AV} {id : Nat} (h : id ∈ idsM o v) : id ∈ idsV v ++ rawI v := by
 unfold idsM at h
 cases hl : isLd o with
 | true => rw [hl] at h; exact h
 | false => rw [hl] at h; simp at h; simp [h]
theorem idsM_low {o : Oper} {ρ : Operand → AV} {x : Operand} {id base : Nat} (hx : x ∈ looks o) (h : id ∈ idsM o (ρ x)) (hr : rawOk base ρ o = true) : id ∈ idsV (ρ x) ∨ id < base := by
 unfold idsM at h
 rcases List.mem_append.1 h with h | h
 ·exact .inl h
 ·cases hl : isLd o with
  | false => rw [hl] at h; simp at h
  | true =>
   rw [hl] at h
   unfold isLd at hl
   split at hl
   ·rename_i T a ho
    unfold looks at hx
    rw [ho] at hx
    have hx : x = a := by simpa [Op.operands] using hx
    subst hx
    unfold rawOk at hr
    rw [ho] at hr
    simp only at hr h
    unfold rawI at h
    split at h
    ·rename_i K b off hv
     rw [hv] at hr
     simp only [List.mem_singleton] at h
     subst h
     simp only [Nat.blt] at hr
     exact .inr (Nat.le_of_ble_eq_true hr)
    ·simp at h
   ·cases hl
mutual
theorem ids_kn {s : St} : ∀ (a : AV) (v : Value) (id : Nat), R s a v → id ∈ idsV a → kn s.h id = true
 | .ptr i o, v, id, hr, h => by simp only [idsV, List.mem_singleton] at h; subst h; simp only [R] at hr; exact hr.1
 | .csl i n c, v, id, hr, h => by simp only [idsV, List.mem_singleton] at h; subst h; simp only [R] at hr; exact hr.1
 | .raw _ _ _, _, _, _, h => by simp [idsV] at h
 | .optr i g t k o, v, id, hr, h => by simp only [idsV, List.mem_singleton] at h; subst h; simp only [R] at hr; exact hr.1
 | .own i g n, v, id, hr, h => by simp only [idsV, List.mem_singleton] at h; subst h; simp only [R] at hr; exact hr.1
 | .osl i g l n, v, id, hr, h => by simp only [idsV, List.mem_singleton] at h; subst h; simp only [R] at hr; exact hr.1
 | .tosl i g l n, v, id, hr, h => by simp only [idsV, List.mem_singleton] at h; subst h; simp only [R] at hr; exact hr.1.1
 | .agg cs, v, id, hr, h => by
  simp only [idsV] at h
  simp only [R] at hr
  obtain ⟨vs, _, hl, _⟩ := hr
  exact ids_knL cs vs id hl h
 | .tup cs, v, id, hr, h => by
  simp only [idsV] at h
  simp only [R] at hr
  obtain ⟨vs, _, hl⟩ := hr
  exact ids_knL cs vs id hl h
 | .pv cs, v, id, hr, h => by
  simp only [idsV] at h
  simp only [R] at hr
  obtain ⟨b, o, _, _, _, hc⟩ := hr
  exact ids_knC cs _ id hc h
 | .iface t x, v, id, hr, h => by
  simp only [idsV] at h
  simp only [R] at hr
  obtain ⟨y, _, hy⟩ := hr
  exact ids_kn x y id hy h
 | .fn f a b, v, id, hr, h => by
  simp only [idsV, List.mem_append] at h
  simp only [R] at hr
  obtain ⟨xs, ys, _, h1, h2⟩ := hr
  rcases h with h | h
  ·exact ids_knL a xs id h1 h
  ·exact ids_knL b ys id h2 h
 | .any, _, _, _, h => by simp [idsV] at h
 | .und, _, _, _, h => by simp [idsV] at h
 | .bool _, _, _, _, h => by simp [idsV] at h
 | .int _ _, _, _, _, h => by simp [idsV] at h
 | .str _, _, _, _, h => by simp [idsV] at h
 | .nilp, _, _, _, h => by simp [idsV] at h
 | .nsl, _, _, _, h => by simp [idsV] at h
 | .zsl _, _, _, _, h => by simp [idsV] at h
 | .lst _ _, _, _, _, h => by simp [idsV] at h
 | .tlst _ _, _, _, _, h => by simp [idsV] at h
 | .nilfn, _, _, _, h => by simp [idsV] at h
 | .nili, _, _, _, h => by simp [idsV] at h
 | .nilm, _, _, _, h => by simp [idsV] at h
 | .oth i, v, id, hr, h => by simp only [idsV, List.mem_singleton] at h; subst h; simp only [R] at hr; exact hr.1
theorem ids_knL {s : St} : ∀ (cs : List AV) (vs : List Value) (id : Nat), RL s cs vs → id ∈ idsVs cs → kn s.h id = true
 | [], _, _, _, h => by simp [idsVs] at h
 | c :: cs, vs, id, hr, h => by
  simp only [idsVs, List.mem_append] at h
  simp only [RL] at hr
  obtain ⟨v, vs', _, h1, h2⟩ := hr
  rcases h with h | h
  ·exact ids_kn c v id h1 h
  ·exact ids_knL cs vs' id h2 h
theorem ids_knC {s : St} : ∀ (cs : List AV) (c : Nat → Option Value) (id : Nat), RC s cs c → id ∈ idsVs cs → kn s.h id = true
 | [], _, _, _, h => by simp [idsVs] at h
 | x :: cs, c, id, hr, h => by
  simp only [idsVs, List.mem_append] at h
  simp only [RC] at hr
  obtain ⟨⟨v, _, h1, _⟩, h2⟩ := hr
  rcases h with h | h
  ·exact ids_kn x v id h1 h
  ·exact ids_knC cs _ id h2 h
end
theorem pos_cases {C : Cx} {h0 : Hp} {nid : Nat} {ρ : Operand → AV} {o : Oper} {v : AV} {ob : AObj} (h : (opR C h0 nid ρ o).Is v (some ob)) : posR nid ρ o = nid ∨ (memW o = true ∧ ∃ oo, h0[posR nid ρ o]? = some oo ∧ oo.alive = true) := by
 by_cases hst : ∃ t x y, o.op = .store t x y
 ·obtain ⟨t, x, y, ho⟩ := hst
  refine .inr ⟨by unfold memW; rw [ho], ?_⟩
  unfold opR at h
  simp only [ho] at h
  have hp : posR nid ρ o = pid (ρ x) := by unfold posR; rw [ho]
  rw [hp]
  unfold pStore at h
  split at h
  ·split at h
   ·rename_i id off hx
    rw [hx]
    split at h
    ·rename_i hc; exact ⟨_, hc, rfl⟩
    ·exact h.elim
   ·rename_i id g t' i off hx
    rw [hx]
    split at h
    ·rename_i hc; exact ⟨_, hc, rfl⟩
    ·exact h.elim
   ·rename_i K b off hx
    rw [hx]
    split at h
    ·rename_i hc; exact ⟨_, hc, rfl⟩
    ·exact h.elim
   ·exact h.elim
  ·exact h.elim
 ·by_cases hcl : ∃ c, o.op = .call c
  ·obtain ⟨c, ho⟩ := hcl
   have hpos : posR nid ρ o = posC nid ρ c := by unfold posR; rw [ho]
   rw [hpos]
   unfold posC
   split
   ·rename_i x y t t' hc hargs htys
    have hm : memW o = true := by unfold memW; simp only [ho, hc]
    unfold opR at h
    simp only [ho, hc, hargs, htys] at h
    split at h
    ·unfold posA
     split
     ·rename_i id g n hx
      refine .inr ⟨hm, ?_⟩
      unfold pAppend at h
      rw [hx] at h
      split at h
      ·split at h
       ·split at h
        ·split at h
         ·simp only at h
          split at h
          ·rename_i hc2; exact ⟨_, hc2, rfl⟩
          ·exact h.elim
         ·exact h.elim
        ·exact h.elim
       ·exact h.elim
      ·exact h.elim
     ·exact .inl rfl
    ·exact h.elim
   ·rename_i x y t t' hc hargs htys
    have hm : memW o = true := by unfold memW; simp only [ho, hc]
    unfold opR at h
    simp only [ho, hc, hargs, htys] at h
    split at h
    ·refine .inr ⟨hm, ?_⟩
     unfold pCopy at h
     split at h
     ·split at h
      ·split at h
       ·split at h
        ·simp only at h
         split at h
         ·rename_i id g n hx
          rw [hx]
          split at h
          ·rename_i hc2; exact ⟨_, hc2, rfl⟩
          ·exact h.elim
         ·rename_i id g lo n hx
          rw [hx]
          split at h
          ·rename_i hc2; exact ⟨_, hc2, rfl⟩
          ·exact h.elim
         ·exact h.elim
        ·exact h.elim
       ·exact h.elim
      ·exact h.elim
     ·exact h.elim
    ·exact h.elim
   ·exact .inl rfl
  ·refine .inl ?_
   unfold posR
   split
   ·rename_i ho; exact absurd ⟨_, _, _, ho⟩ hst
   ·rename_i ho; exact absurd ⟨_, ho⟩ hcl
   ·rfl
theorem srcOf_P {h : Hp} {t : Ty} {x : AV} {K : List t.El → Res} {v : AV} {ob : Option AObj} {Q : Prop} (hK : ∀ l, (K l).Is v ob → Q) (his : (srcOf h t x K).Is v ob) : Q := by
 unfold srcOf at his
 split at his
 ·exact hK _ his
 ·split at his
  ·exact hK _ his
  ·exact his.elim
 ·split at his
  ·exact hK _ his
  ·exact his.elim
 ·split at his
  ·split at his
   ·exact hK _ his.2
   ·exact his.elim
  ·exact his.elim
 ·split at his
  ·split at his
   ·exact hK _ his.2
   ·exact his.elim
  ·exact his.elim
 ·exact his.elim
theorem opRd_ok {P : Program} {C : Cx} {ops : Array Oper} (hT : TbOk P C.tb) (hD : SpecsOk P C.specs) {s : St} (hok : Ok s) {h0 : Hp} (hs : SubH h0 s.h) {nid : Nat} (hf : Free s.h nid) {ρ : Operand → AV} {a : Act} (hρ : ∀ x, R s (ρ x) (a.eval x)) {o : Oper} {v : AV} {ob : Option AObj}
  (h : (opRd C ops h0 nid ρ o).Is v ob) : OpOk P o a s (posR nid ρ o) v ob := by
 unfold opRd at h
 split at h
 ·rename_i hd
  obtain ⟨g, T, t, l, f, h1, rfl, rfl⟩ := lstR_is h
  obtain ⟨p, hp⟩ : ∃ p, p = posR nid ρ o := ⟨_, rfl⟩
  have key := opR_ok hT hD hok hs hf hρ (o := o) (v := .own (posR nid ρ o) g l.length) (ob := some (.arr T t l f g)) h1
  rw [← hp] at key ⊢
  intro K Q hK
  refine key K Q ?_
  intro cv s' hst hok' hv hh
  have hh : s'.h = put s.h p (.arr T t l f g) := hh
  by_cases hlp : p ≤ s.h.length
  ·have hg : s'.h[p]? = some (.arr T t l f g) := by
    rw [hh]
    unfold put
    by_cases hlt : p < s.h.length
    ·rw [if_pos hlt, List.getElem?_set_self hlt]
    ·rw [if_neg hlt, show p = s.h.length by omega]
     simp
   have hlt : p < s'.h.length := (List.getElem?_eq_some_iff.1 hg).1
   obtain ⟨u, rfl, hu⟩ := frzV_ok hok' (i0 := p) hv (K := fun u => u = .lst t l) (by
    unfold frzV
    simp only [hg, Nat.beq_refl]
    exact need_intro ⟨trivial, Nat.le_refl _⟩ (by rw [List.take_length]))
   refine hK cv (s'.kill p) (hst.trans (kill_step hlt)) (kill_ok hok' hlt) hu ?_
   show put s'.h p .dead = put s.h p .dead
   rw [hh]
   unfold put
   by_cases hlt2 : p < s.h.length
   ·simp [hlt2]
   ·simp [show p = s.h.length by omega]
  ·exfalso
   rcases pos_cases h1 with h2 | ⟨_, oo, h2, h3⟩
   ·rw [← hp] at h2
    rcases hf with hf | hf
    ·omega
    ·have := (List.getElem?_eq_some_iff.1 hf).1; omega
   ·have := (List.getElem?_eq_some_iff.1 (hs _ _ h2 h3)).1
    rw [← hp] at this; omega
 ·exact opR_ok hT hD hok hs hf hρ h
theorem mem_kind {C : Cx} {h0 : Hp} {nid : Nat} {ρ : Operand → AV} {o : Oper} {v : AV} {ob : AObj} (h : (opR C h0 nid ρ o).Is v (some ob)) (hm : memW o = true) (hne : posR nid ρ o ≠ nid) : ∃ oo, h0[posR nid ρ o]? = some oo ∧ oo.alive = true ∧ ob.alive = true ∧ isArr ob = isArr oo := by
 by_cases hst : ∃ t x y, o.op = .store t x y
 ·obtain ⟨t, x, y, ho⟩ := hst
  unfold opR at h
  simp only [ho] at h
  have hp : posR nid ρ o = pid (ρ x) := by unfold posR; rw [ho]
  rw [hp]
  unfold pStore at h
  split at h
  ·split at h
   ·rename_i id off hx
    rw [hx]
    split at h
    ·rename_i hc
     split at h
     ·obtain ⟨_, h2⟩ := h
      cases h2
      exact ⟨_, hc, rfl, rfl, rfl⟩
     ·exact h.elim
    ·exact h.elim
   ·rename_i id g t' i off hx
    rw [hx]
    split at h
    ·rename_i hc
     obtain ⟨_, z, _, _, h⟩ := h
     simp only at h
     split at h
     ·obtain ⟨_, h2⟩ := h
      cases h2
      exact ⟨_, hc, rfl, rfl, rfl⟩
     ·exact h.elim
    ·exact h.elim
   ·rename_i K b off hx
    rw [hx]
    split at h
    ·rename_i hc
     obtain ⟨z, _, _, h⟩ := h
     simp only at h
     split at h
     ·obtain ⟨_, h2⟩ := h
      cases h2
      exact ⟨_, hc, rfl, rfl, rfl⟩
     ·exact h.elim
    ·exact h.elim
   ·exact h.elim
  ·exact h.elim
 ·have hcl : ∃ c, o.op = .call c := by
   unfold memW at hm
   split at hm
   ·rename_i ho; exact absurd ⟨_, _, _, ho⟩ hst
   ·rename_i c ho; exact ⟨c, ho⟩
   ·cases hm
  obtain ⟨c, ho⟩ := hcl
  have hpos : posR nid ρ o = posC nid ρ c := by unfold posR; rw [ho]
  rw [hpos] at hne ⊢
  unfold posC at hne ⊢
  unfold opR at h
  simp only [ho] at h
  split at hne
  ·rename_i x y t t' hc hargs htys
   simp only [hc, hargs, htys] at h ⊢
   split at h
   ·unfold posA at hne ⊢
    split at hne
    ·rename_i id g n hx
     rw [hx] at h
     unfold pAppend at h
     split at h
     ·split at h
      ·split at h
       ·split at h
        ·simp only at h
         split at h
         ·rename_i hc2
          refine ⟨_, hc2, rfl, ?_⟩
          split at h
          ·refine srcOf_P (fun l h => ?_) h
           obtain ⟨_, h⟩ := h
           split at h
           ·rcases h with ⟨_, _, h2⟩ | ⟨_, _, h2⟩
            ·cases h2; exact ⟨rfl, rfl⟩
            ·cases h2; exact ⟨rfl, rfl⟩
           ·obtain ⟨_, h2⟩ := h
            cases h2; exact ⟨rfl, rfl⟩
          ·exact h.elim
         ·exact h.elim
        ·exact h.elim
       ·exact h.elim
      ·exact h.elim
     ·exact h.elim
    ·exact absurd rfl hne
   ·exact h.elim
  ·rename_i x y t t' hc hargs htys
   simp only [hc, hargs, htys] at h ⊢
   split at h
   ·unfold pCopy at h
    split at h
    ·split at h
     ·split at h
      ·split at h
       ·simp only at h
        split at h
        ·rename_i id g n hx
         rw [hx]
         split at h
         ·rename_i hc2
          refine ⟨_, hc2, rfl, ?_⟩
          split at h
          ·refine srcOf_P (fun l h => ?_) h
           obtain ⟨_, _, h2⟩ := h
           cases h2; exact ⟨rfl, rfl⟩
          ·exact h.elim
         ·exact h.elim
        ·rename_i id g lo n hx
         rw [hx]
         split at h
         ·rename_i hc2
          refine ⟨_, hc2, rfl, ?_⟩
          split at h
          ·refine srcOf_P (fun l h => ?_) h
           obtain ⟨_, _, h2⟩ := h
           cases h2; exact ⟨rfl, rfl⟩
          ·exact h.elim
         ·exact h.elim
        ·exact h.elim
       ·exact h.elim
      ·exact h.elim
     ·exact h.elim
    ·exact h.elim
   ·exact h.elim
  ·exact absurd rfl hne
theorem mem_arr {C : Cx} {h0 : Hp} {nid : Nat} {ρ : Operand → AV} {o : Oper} {v : AV} {ob : AObj} (h : (opR C h0 nid ρ o).Is v (some ob)) (hm : appO o = true) : isArr ob = true := by
  unfold appO at hm
  split at hm
  · rename_i c ho
    unfold opR at h
    simp only [ho] at h
    split at hm
    · rename_i x y t t' hc hargs htys
      simp only [hc, hargs, htys] at h
      split at h
      · unfold pAppend at h
        split at h
        · split at h
          · split at h
            · split at h
              · have tight : ∀ {t e b nid s x}, (pTight t e b h0 nid s x).Is v (some ob) → isArr ob = true := by
                  intro t e b nid s x h
                  unfold pTight at h
                  refine srcOf_P (fun l h => ?_) h
                  refine srcOf_P (fun m h => ?_) h
                  obtain ⟨_, h⟩ := h
                  rcases h with ⟨_, _, h2⟩ | ⟨_, _, h2⟩
                  · cases h2
                  · cases h2; rfl
                split at h
                · split at h
                  · split at h
                    · refine srcOf_P (fun l h => ?_) h
                      obtain ⟨_, h⟩ := h
                      split at h
                      · rcases h with ⟨_, _, h2⟩ | ⟨_, _, h2⟩
                        · cases h2; rfl
                        · cases h2; rfl
                      · obtain ⟨_, h2⟩ := h
                        cases h2; rfl
                    · exact h.elim
                  · exact h.elim
                · exact tight h
                · exact tight h
                · refine srcOf_P (fun l h => ?_) h
                  obtain ⟨_, _, h2⟩ := h
                  cases h2; rfl
                · refine srcOf_P (fun l h => ?_) h
                  obtain ⟨_, _, h2⟩ := h
                  cases h2; rfl
                · exact h.elim
              · exact h.elim
            · exact h.elim
          · exact h.elim
        · exact h.elim
      · exact h.elim
    · rename_i x y t t' hc hargs htys
      simp only [hc, hargs, htys] at h
      split at h
      · unfold pCopy at h
        split at h
        · split at h
          · split at h
            · split at h
              · simp only at h
                split at h
                all_goals first
                  | exact h.elim
                  | (split at h
                     · split at h
                       · refine srcOf_P (fun l h => ?_) h
                         obtain ⟨_, _, h2⟩ := h
                         cases h2; rfl
                       · exact h.elim
                     · exact h.elim)
              · exact h.elim
            · exact h.elim
          · exact h.elim
        · exact h.elim
      · exact h.elim
    · cases hm
  · cases hm
theorem mem_cells {C : Cx} {h0 : Hp} {nid : Nat} {ρ : Operand → AV} {o : Oper} {v : AV} {ob : AObj} (h : (opR C h0 nid ρ o).Is v (some ob)) (hm : memW o = true) (hne : posR nid ρ o ≠ nid) {T : TypeId} {cs : List AV} (hc : h0[posR nid ρ o]? = some (.cells T cs)) : ∃ cs', ob = .cells T cs' ∧ cs'.length = cs.length := by
 by_cases hst : ∃ t x y, o.op = .store t x y
 ·obtain ⟨t, x, y, ho⟩ := hst
  unfold opR at h
  simp only [ho] at h
  have hp : posR nid ρ o = pid (ρ x) := by unfold posR; rw [ho]
  rw [hp] at hc
  unfold pStore at h
  split at h
  ·split at h
   ·rename_i id off hx
    rw [hx] at hc
    have hc : h0[id]? = some (.cells T cs) := hc
    rw [hc] at h
    simp only at h
    split at h
    ·rename_i hb
     obtain ⟨_, h2⟩ := h
     cases h2
     rw [Bool.and_eq_true] at hb
     have := Nat.le_of_ble_eq_true hb.2
     refine ⟨_, rfl, ?_⟩
     unfold splice
     simp only [List.length_append, List.length_take, List.length_drop]
     omega
    ·exact h.elim
   ·rename_i id g t' i off hx
    rw [hx] at hc
    have hc : h0[id]? = some (.cells T cs) := hc
    rw [hc] at h
    exact h.elim
   ·rename_i K b off hx
    rw [hx] at hc
    have hc : h0[K]? = some (.cells T cs) := hc
    rw [hc] at h
    exact h.elim
   ·exact h.elim
  ·exact h.elim
 ·exfalso
  obtain ⟨oo, h1, _, _, h4⟩ := mem_kind h hm hne
  rw [hc] at h1
  cases h1
  by_cases ha : appO o = true
  ·rw [mem_arr h ha] at h4
   cases h4
  ·apply ha
   unfold memW at hm
   unfold appO
   split at hm
   ·rename_i ho; exact absurd ⟨_, _, _, ho⟩ hst
   ·rename_i c ho
    have hpos : posR nid ρ o = posC nid ρ c := by unfold posR; rw [ho]
    rw [hpos] at hne
    rw [ho]
    simp only
    unfold posC at hne
    split at hne
    ·rename_i hc2 hargs htys; simp only [hc2, hargs, htys]
    ·rename_i hc2 hargs htys; simp only [hc2, hargs, htys]
    ·exact absurd rfl hne
   ·cases hm
theorem memW_T {o : Oper} (h : memW o = true) : memT o = true := by
 unfold memW at h
 unfold memT
 split at h
 ·rename_i ho; rw [ho]
 ·rename_i c ho
  rw [ho]
  simp only
  split at h
  ·rename_i hc; rw [hc]
  ·rename_i hc; rw [hc]
  ·cases h
 ·cases h
end Av
