/-
  An abstract reading of values and memory: regions whose order is drawn.
-/
import Derived.Test.YtkjoofinfhdcaaaAvh
import Derived.Orders
namespace Av
open Go

/-! ### What was written last -/
def LW {β : Type} (w : Nat → Bool) (val : Nat → β) (x0 : β) (S : Nat → Bool) : Nat → β
 | 0 => x0
 | m + 1 => bif S m && w m then val m else LW w val x0 S m
theorem LW_text {β : Type} {w : Nat → Bool} {val : Nat → β} {x0 : β} {S : Nat → Bool} {j : Nat} (hj : S j = false) : ∀ n, j ≤ n → (∀ i, i < n → w i = true → (i < j → S i = true) ∧ (j < i → S i = false)) → LW w val x0 S n = LW w val x0 (fun _ => true) j := by
 have low : ∀ m, m ≤ j → (∀ i, i < m → w i = true → S i = true) → LW w val x0 S m = LW w val x0 (fun _ => true) m := by
  intro m
  induction m with
  | zero => intros; rfl
  | succ m ih =>
   intro hm h
   simp only [LW, Bool.true_and]
   rw [ih (by omega) (fun i hi => h i (by omega))]
   cases hw : w m with
   | false => simp
   | true => simp [h m (by omega) hw]
 intro n hn h
 induction n with
 | zero =>
  have : j = 0 := by omega
  subst this
  rfl
 | succ n ih =>
  by_cases he : j = n + 1
  ·subst he
   exact low (n + 1) (Nat.le_refl _) (fun i hi hw => (h i hi hw).1 hi)
  ·rw [← ih (by omega) (fun i hi => h i (by omega))]
   simp only [LW]
   have : (S n && w n) = false := by
    by_cases hjn : j = n
    ·subst hjn; rw [hj]; rfl
    ·cases hw : w n with
     | false => simp
     | true => rw [(h n (by omega) hw).2 (by omega)]; rfl
   rw [this]
   rfl
theorem LW_add {β : Type} {w : Nat → Bool} {val : Nat → β} {x0 : β} {S : Nat → Bool} {j : Nat} (hj : S j = false) : ∀ n, j < n → (∀ i, i < n → j < i → w i = true → w j = true → S i = false) →
  LW w val x0 (fun i => S i || decide (i = j)) n = bif w j then val j else LW w val x0 S n := by
 have low : ∀ m, m ≤ j → LW w val x0 (fun i => S i || decide (i = j)) m = LW w val x0 S m := by
  intro m
  induction m with
  | zero => intros; rfl
  | succ m ih =>
   intro hm
   simp only [LW]
   have : decide (m = j) = false := by simp; omega
   rw [this, Bool.or_false, ih (by omega)]
 intro n hn h
 induction n with
 | zero => omega
 | succ n ih =>
  simp only [LW]
  by_cases he : j = n
  ·subst he
   rw [low j (Nat.le_refl _), hj]
   simp
  ·have hd : decide (n = j) = false := by simp; omega
   rw [hd, Bool.or_false, ih (by omega) (fun i hi => h i (by omega))]
   cases hwj : w j with
   | false => simp
   | true =>
    have : (S n && w n) = false := by
     cases hw : w n with
     | false => simp
     | true => rw [h n (by omega) (by omega) hw hwj]; rfl
    rw [this]
    simp

/-! ### What was turned, step by step -/
def FW {β : Type} (w : Nat → Bool) (tf : Nat → β → β) (x0 : β) (S : Nat → Bool) : Nat → β
 | 0 => x0
 | m + 1 => bif S m && w m then tf m (FW w tf x0 S m) else FW w tf x0 S m
theorem FW_text {β : Type} {w : Nat → Bool} {tf : Nat → β → β} {x0 : β} {S : Nat → Bool} {j : Nat} (hj : S j = false) : ∀ n, j ≤ n → (∀ i, i < n → w i = true → (i < j → S i = true) ∧ (j < i → S i = false)) → FW w tf x0 S n = FW w tf x0 (fun _ => true) j := by
 have low : ∀ m, m ≤ j → (∀ i, i < m → w i = true → S i = true) → FW w tf x0 S m = FW w tf x0 (fun _ => true) m := by
  intro m
  induction m with
  | zero => intros; rfl
  | succ m ih =>
   intro hm h
   simp only [FW, Bool.true_and]
   rw [ih (by omega) (fun i hi => h i (by omega))]
   cases hw : w m with
   | false => simp
   | true => simp [h m (by omega) hw]
 intro n hn h
 induction n with
 | zero =>
  have : j = 0 := by omega
  subst this
  rfl
 | succ n ih =>
  by_cases he : j = n + 1
  ·subst he
   exact low (n + 1) (Nat.le_refl _) (fun i hi hw => (h i hi hw).1 hi)
  ·rw [← ih (by omega) (fun i hi => h i (by omega))]
   simp only [FW]
   have : (S n && w n) = false := by
    by_cases hjn : j = n
    ·subst hjn; rw [hj]; rfl
    ·cases hw : w n with
     | false => simp
     | true => rw [(h n (by omega) hw).2 (by omega)]; rfl
   rw [this]
   rfl
theorem FW_add {β : Type} {w : Nat → Bool} {tf : Nat → β → β} {x0 : β} {S : Nat → Bool} {j : Nat} (hj : S j = false) : ∀ n, j < n → (∀ i, i < n → j < i → w i = true → w j = true → S i = false ∨ ∀ a, tf i (tf j a) = tf j (tf i a)) →
  FW w tf x0 (fun i => S i || decide (i = j)) n = bif w j then tf j (FW w tf x0 S n) else FW w tf x0 S n := by
 have low : ∀ m, m ≤ j → FW w tf x0 (fun i => S i || decide (i = j)) m = FW w tf x0 S m := by
  intro m
  induction m with
  | zero => intros; rfl
  | succ m ih =>
   intro hm
   simp only [FW]
   have : decide (m = j) = false := by simp; omega
   rw [this, Bool.or_false, ih (by omega)]
 intro n hn h
 induction n with
 | zero => omega
 | succ n ih =>
  simp only [FW]
  by_cases he : j = n
  ·subst he
   rw [low j (Nat.le_refl _), hj]
   simp
  ·have hd : decide (n = j) = false := by simp; omega
   rw [hd, Bool.or_false, ih (by omega) (fun i hi => h i (by omega))]
   cases hwj : w j with
   | false => simp
   | true =>
    cases hb : (S n && w n) with
    | false => simp
    | true =>
     rw [Bool.and_eq_true] at hb
     rcases h n (by omega) (by omega) hb.2 hwj with h1 | h1
     ·rw [hb.1] at h1; cases h1
     ·simp only [cond_true]; rw [h1]
theorem FW_none {β : Type} {w : Nat → Bool} {tf : Nat → β → β} {x0 : β} {S : Nat → Bool} : ∀ n, (∀ i, i < n → w i = true → S i = false) → FW w tf x0 S n = x0
 | 0, _ => rfl
 | n + 1, h => by
  simp only [FW]
  have : (S n && w n) = false := by
   cases hw : w n with
   | false => simp
   | true => rw [h n (by omega) hw]; rfl
  rw [this]
  exact FW_none n (fun i hi => h i (by omega))
theorem FW_some {β : Type} {w : Nat → Bool} {tf : Nat → β → β} {x0 : β} {S : Nat → Bool} {n : Nat} (h : FW w tf x0 S n ≠ x0) : ∃ k, k < n ∧ w k = true ∧ S k = true := by
 by_cases hk : ∃ k, k < n ∧ w k = true ∧ S k = true
 ·exact hk
 ·exfalso
  apply h
  refine FW_none n (fun i hi hw => ?_)
  cases hS : S i with
  | false => rfl
  | true => exact absurd ⟨i, hi, hw, hS⟩ hk
theorem FW_all {β : Type} {w : Nat → Bool} {tf : Nat → β → β} {x0 : β} {S : Nat → Bool} : ∀ n, (∀ i, i < n → w i = true → S i = true) → FW w tf x0 S n = FW w tf x0 (fun _ => true) n
 | 0, _ => rfl
 | n + 1, h => by
  simp only [FW]
  rw [FW_all n (fun i hi => h i (by omega))]
  cases hw : w n with
  | false => simp
  | true => rw [h n (by omega) hw]
def ovr (cs : List AV) (off : Nat) (new : List AV) : List AV := cs.mapIdx fun j c => if off ≤ j ∧ j < off + new.length then new.getD (j - off) .any else c
theorem ovr_len (cs : List AV) (off : Nat) (new : List AV) : (ovr cs off new).length = cs.length := by simp [ovr]
theorem ovr_get (cs : List AV) (off : Nat) (new : List AV) (j : Nat) : (ovr cs off new)[j]? = (cs[j]?).map fun c => if off ≤ j ∧ j < off + new.length then new.getD (j - off) .any else c := by
 simp [ovr, List.getElem?_mapIdx]
theorem ovr_splice {cs : List AV} {off : Nat} {new : List AV} (h : off + new.length ≤ cs.length) : ovr cs off new = splice cs off new := by
 apply List.ext_getElem?
 intro j
 rw [ovr_get]
 unfold splice
 by_cases h1 : j < off
 ·rw [List.getElem?_append_left (by rw [List.length_take]; omega), List.getElem?_take, if_pos h1]
  cases cs[j]? with
  | none => rfl
  | some c => simp only [Option.map_some]; rw [if_neg (by omega)]
 ·rw [List.getElem?_append_right (by rw [List.length_take]; omega), List.length_take, Nat.min_eq_left (by omega)]
  by_cases h2 : j < off + new.length
  ·rw [List.getElem?_append_left (by omega), List.getElem?_eq_getElem (show j < cs.length by omega), List.getElem?_eq_getElem (show j - off < new.length by omega)]
   simp only [Option.map_some]
   rw [if_pos ⟨by omega, h2⟩, List.getD_eq_getElem?_getD, List.getElem?_eq_getElem (show j - off < new.length by omega)]
   rfl
  ·rw [List.getElem?_append_right (by omega), List.getElem?_drop, show off + new.length + (j - off - new.length) = j by omega]
   cases cs[j]? with
   | none => rfl
   | some c => simp only [Option.map_some]; rw [if_neg (by omega)]
theorem ovr_comm (cs : List AV) {o p : Nat} {x y : List AV} (h : o + x.length ≤ p ∨ p + y.length ≤ o) : ovr (ovr cs o x) p y = ovr (ovr cs p y) o x := by
 apply List.ext_getElem?
 intro j
 rw [ovr_get, ovr_get, ovr_get, ovr_get, Option.map_map, Option.map_map]
 cases cs[j]? with
 | none => rfl
 | some c =>
  simp only [Option.map_some, Function.comp_apply]
  by_cases h1 : o ≤ j ∧ j < o + x.length
  ·rw [if_pos h1, if_pos h1, if_neg (show ¬ (p ≤ j ∧ j < p + y.length) by omega)]
  ·rw [if_neg h1, if_neg h1]

/-! ### An operation depends on its operands alone -/
theorem opR_congr {C : Cx} {h : Hp} {nid : Nat} {ρ ρ' : Operand → AV} {o : Oper} (hρ : ∀ x ∈ o.op.operands, ρ x = ρ' x) : opR C h nid ρ o = opR C h nid ρ' o ∧ posR nid ρ o = posR nid ρ' o := by
 have pairs : ∀ ps : Array (Nat × Operand), (∀ x ∈ (ps.toList.map (·.2)).toArray, ρ x = ρ' x) → (ps.toList.map fun p => (p.1, ρ p.2)) = (ps.toList.map fun p => (p.1, ρ' p.2)) := fun ps hp =>
  List.map_congr_left fun p hm => by rw [hp p.2 (by simpa using ⟨p.1, Array.mem_toList_iff.1 hm⟩)]
 obtain ⟨dst, op, type, pos, after, guard⟩ := o
 cases op <;> simp only [Op.operands] at hρ <;> simp only [opR, posR, pop]
 case build t ps => exact ⟨by rw [pairs ps hρ], trivial⟩
 case buildSlice t n ps => exact ⟨by rw [pairs ps hρ], trivial⟩
 case makeFunc f first caps =>
  have h1 : first.toList.map ρ = first.toList.map ρ' := List.map_congr_left fun x hx => hρ x (by simp [Array.mem_toList_iff.1 hx])
  have h2 : caps.toList.map ρ = caps.toList.map ρ' := List.map_congr_left fun x hx => hρ x (by simp [Array.mem_toList_iff.1 hx])
  exact ⟨by rw [h1, h2], trivial⟩
 case call c =>
  have hargs : c.args.toList.map ρ = c.args.toList.map ρ' := List.map_congr_left fun x hx => hρ x (by simp [Call.operands, Array.mem_toList_iff.1 hx])
  have hone : ∀ x, c.args.toList = [x] → ρ x = ρ' x := fun x hx => by rw [hx] at hargs; simpa using hargs
  have htwo : ∀ x y, c.args.toList = [x, y] → ρ x = ρ' x ∧ ρ y = ρ' y := fun x y hx => by rw [hx] at hargs; simpa using hargs
  have hcal : calleeA C.tb ρ c.callee = calleeA C.tb ρ' c.callee := by
   cases hc : c.callee with
   | value x => simp only [calleeA]; rw [hρ x (by simp [Call.operands, hc])]
   | invoke r m => simp only [calleeA]; rw [hρ r (by simp [Call.operands, hc])]
   | builtin b => rfl
  refine ⟨?_, ?_⟩
  ·split
   ·rename_i x y t t' _ hxy _
    obtain ⟨h1, h2⟩ := htwo x y hxy
    rw [h1, h2]
   ·rename_i x y t t' _ hxy _
    obtain ⟨h1, h2⟩ := htwo x y hxy
    rw [h1, h2]
   ·split
    ·rename_i x t _ hx _
     rw [hone x hx]
    ·rename_i x t _ hx _
     rw [hone x hx]
    ·rw [hargs]
    ·rw [hargs]
    ·rfl
   ·rw [hcal, hargs]
  ·unfold posC
   split
   ·rename_i x y t t' _ hxy _
    rw [(htwo x y hxy).1]
   ·rename_i x y t t' _ hxy _
    rw [(htwo x y hxy).1]
   ·rfl
 case makeMap t r => exact ⟨trivial, trivial⟩
 case slice t x lo hi mx =>
  refine ⟨?_, trivial⟩
  have hx := hρ x (by simp)
  have hmm : ∀ m, mx = some m → ρ m = ρ' m := fun m hm => hρ m (by simp [hm])
  have hl : lo.map ρ = lo.map ρ' := by cases lo <;> simp_all
  have hh : hi.map ρ = hi.map ρ' := by cases hi <;> simp_all
  cases mx with
  | none => simp only; rw [hx, hl, hh]
  | some m => simp only; rw [hx, hl, hh, hmm m rfl]
 all_goals first
  | (simp_all; done)
  | exact ⟨trivial, trivial⟩

/-! ### The order of a region -/
inductive Bef (ops : Array Oper) : Nat → Nat → Prop where
 | edge {i j : Nat} {o : Oper} {e : Edge} (ho : ops[j]? = some o) (he : e ∈ o.after.toList) (hb : Region.binds .any e = true) (hi : e.on = i) : Bef ops i j
 | trans {i k j : Nat} (h1 : Bef ops i k) (h2 : Bef ops k j) : Bef ops i j
theorem Bef.closed {ops : Array Oper} {S : Nat → Bool} (hS : ∀ j o e, S j = true → ops[j]? = some o → e ∈ o.after.toList → Region.binds .any e = true → S e.on = true) {i j : Nat} (h : Bef ops i j) : S j = true → S i = true := by
 induction h with
 | edge ho he hb hi => intro hj; rw [← hi]; exact hS _ _ _ hj ho he hb
 | trans h1 h2 ih1 ih2 => exact fun hj => ih1 (ih2 hj)
theorem Bef.ready {ops : Array Oper} {S : Nat → Bool} (hS : ∀ j o e, S j = true → ops[j]? = some o → e ∈ o.after.toList → Region.binds .any e = true → S e.on = true) {i j : Nat} (h : Bef ops i j) (hj : ∀ o e, ops[j]? = some o → e ∈ o.after.toList → Region.binds .any e = true → S e.on = true) : S i = true := by
 induction h with
 | edge ho he hb hi => rw [← hi]; exact hj _ _ ho he hb
 | trans h1 h2 ih1 ih2 => exact h1.closed hS (ih2 hj)
theorem fold_bits {acc : List Nat} {i : Nat} : ∀ (l : List Edge) (m : Nat), (l.foldl (fun m e => if Region.binds .any e then m ||| 2 ^ e.on ||| acc.getD e.on 0 else m) m).testBit i = true →
  m.testBit i = true ∨ ∃ e ∈ l, Region.binds .any e = true ∧ (e.on = i ∨ (acc.getD e.on 0).testBit i = true)
 | [], m, h => .inl h
 | e :: l, m, h => by
  simp only [List.foldl_cons] at h
  rcases fold_bits l _ h with h1 | ⟨e', he', hb, h2⟩
  ·split at h1
   ·rename_i hb
    simp only [Nat.testBit_or, Bool.or_eq_true] at h1
    rcases h1 with (h1 | h1) | h1
    ·exact .inl h1
    ·refine .inr ⟨e, by simp, hb, .inl ?_⟩
     rw [Nat.testBit_two_pow] at h1
     exact of_decide_eq_true h1
    ·exact .inr ⟨e, by simp, hb, .inr h1⟩
   ·exact .inl h1
  ·exact .inr ⟨e', by simp [he'], hb, h2⟩
theorem befGo_spec {ops : Array Oper} : ∀ (l : List Oper) (acc : List Nat), (∀ k, k < l.length → ops[acc.length + k]? = l[k]?) → (∀ j i, (acc.getD j 0).testBit i = true → Bef ops i j) → ∀ j i, ((befGo acc l).getD j 0).testBit i = true → Bef ops i j
 | [], acc, _, hacc, j, i, h => hacc j i h
 | o :: l, acc, hl, hacc, j, i, h => by
  simp only [befGo] at h
  refine befGo_spec l _ (fun k hk => ?_) (fun j' i' h' => ?_) j i h
  ·have := hl (k + 1) (by simpa using hk)
   simp only [List.length_append, List.length_cons, List.length_nil, List.getElem?_cons_succ] at this ⊢
   rw [← this]
   congr 1
   omega
  ·rcases Nat.lt_trichotomy j' acc.length with h1 | h1 | h1
   ·rw [List.getD_eq_getElem?_getD, List.getElem?_append_left h1, ← List.getD_eq_getElem?_getD] at h'
    exact hacc j' i' h'
   ·subst h1
    simp only [List.getD_eq_getElem?_getD, List.getElem?_concat_length, Option.getD_some] at h'
    have ho : ops[acc.length]? = some o := by have := hl 0 (by simp); simpa using this
    rcases fold_bits _ _ h' with h2 | ⟨e, he, hb, h2 | h2⟩
    ·simp at h2
    ·exact .edge ho he hb h2
    ·exact .trans (hacc _ _ h2) (.edge ho he hb rfl)
   ·rw [List.getD_eq_getElem?_getD, List.getElem?_eq_none (by simp; omega)] at h'
    simp at h'
theorem pairsGo_spec {mc : Oper → Oper → Bool} {ops : Array Oper} {bef : Nat} {o : Oper} : ∀ (l : List Oper) (i : Nat), pairsGo mc ops bef o i l = true → ∀ k x, l[k]? = some x → confM mc ops x o = true → bef.testBit (i + k) = true
 | [], i, _, k, x, hk, _ => by simp at hk
 | y :: l, i, h, k, x, hk, hc => by
  simp only [pairsGo, Bool.and_eq_true] at h
  cases k with
  | zero =>
   simp only [List.getElem?_cons_zero, Option.some.injEq] at hk
   subst hk
   have := h.1
   rw [hc] at this
   simpa using this
  | succ k =>
   have := pairsGo_spec l (i + 1) h.2 k x (by simpa using hk) hc
   rw [show i + (k + 1) = i + 1 + k by omega]
   exact this
theorem drawOkGo_spec {mc : Oper → Oper → Bool} {ops : Array Oper} {befs : List Nat} : ∀ (l done : List Oper) (i : Nat), done.length = i → drawOkGo mc ops befs done i l = true → ∀ k o, l[k]? = some o →
  edgesOk (i + k) o = true ∧ ∀ m x, (done ++ l)[m]? = some x → m < i + k → confM mc ops x o = true → (befs.getD (i + k) 0).testBit m = true
 | [], done, i, _, _, k, o, hk => by simp at hk
 | y :: l, done, i, hd, h, k, o, hk => by
  simp only [drawOkGo, Bool.and_eq_true] at h
  obtain ⟨⟨h1, h2⟩, h3⟩ := h
  cases k with
  | zero =>
   simp only [List.getElem?_cons_zero, Option.some.injEq] at hk
   subst hk
   refine ⟨h1, fun m x hm hlt hc => ?_⟩
   have hm' : done[m]? = some x := by
    rw [List.getElem?_append_left (by omega)] at hm
    exact hm
   have := pairsGo_spec done 0 h2 m x hm' hc
   simpa using this
  | succ k =>
   have := drawOkGo_spec l (done ++ [y]) (i + 1) (by simp [hd]) h3 k o (by simpa using hk)
   rw [show i + (k + 1) = i + 1 + k by omega]
   refine ⟨this.1, fun m x hm hlt hc => this.2 m x (by simpa using hm) hlt hc⟩
theorem drawOk_spec {mc : Oper → Oper → Bool} {ops : Array Oper} (h : drawOkM mc ops = true) : (∀ j o, ops[j]? = some o → edgesOk j o = true) ∧ ∀ i j x o, ops[i]? = some x → ops[j]? = some o → i < j → confM mc ops x o = true → Bef ops i j := by
 have key := drawOkGo_spec (mc := mc) (ops := ops) (befs := befGo [] ops.toList) ops.toList [] 0 rfl h
 refine ⟨fun j o ho => ?_, fun i j x o hx ho hij hc => ?_⟩
 ·have := (key j o (by simpa using ho)).1
  simpa using this
 ·have := (key j o (by simpa using ho)).2 i x (by simpa using hx) (by omega) hc
  simp only [Nat.zero_add] at this
  exact befGo_spec ops.toList [] (fun k hk => by simp) (fun j i h => by simp at h) j i this

theorem drN_congr {ops : Array Oper} {ρ ρ' : Operand → AV} {o : Oper} (hρ : ∀ x ∈ o.op.operands, ρ x = ρ' x) : drN ops ρ o = drN ops ρ' o := by
 unfold drN drA
 congr 2
 split
 ·rename_i c ho
  split
  ·rename_i s x ha
   rw [hρ s (by rw [ho]; show s ∈ c.operands; have : s ∈ c.args := (by rw [← Array.mem_toList_iff, ha]; simp); simp [Call.operands, this])]
  ·rfl
 ·rfl
theorem drK_congr {ops : Array Oper} {ρ ρ' : Operand → AV} {o : Oper} (hρ : ∀ x ∈ o.op.operands, ρ x = ρ' x) : drK ops ρ o = drK ops ρ' o := by
 unfold drK
 congr 1
 split
 ·rename_i c ho
  split
  ·rename_i s x ha
   rw [hρ s (by rw [ho]; show s ∈ c.operands; have : s ∈ c.args := (by rw [← Array.mem_toList_iff, ha]; simp); simp [Call.operands, this])]
  ·rfl
 ·rfl
theorem drX_congr {ops : Array Oper} {ρ ρ' : Operand → AV} {o : Oper} (hρ : ∀ x ∈ o.op.operands, ρ x = ρ' x) : drX ops ρ o = drX ops ρ' o := by
 unfold drX
 rw [drN_congr hρ, drK_congr hρ]
theorem opRd_congr {C : Cx} {ops : Array Oper} {h : Hp} {nid : Nat} {ρ ρ' : Operand → AV} {o : Oper} (hρ : ∀ x ∈ o.op.operands, ρ x = ρ' x) : opRd C ops h nid ρ o = opRd C ops h nid ρ' o ∧ posR nid ρ o = posR nid ρ' o := by
 have h2 := (opR_congr (C := C) (h := h) (nid := nid) hρ).2
 refine ⟨?_, h2⟩
 unfold opRd
 rw [(opR_congr (C := C) (h := h) (nid := nid) hρ).1, drX_congr hρ, h2]
theorem lstV_is {w : Bool} {nid : Nat} {u : AV} {uo : Option AObj} {v : AV} {ob : Option AObj} (h : (lstV w nid u uo).Is v ob) : ∃ g T t l f, (u = .own nid g l.length ∧ uo = some (.arr T t l f g)) ∧ v = .lst t l ∧ ob = some .dead := by
 unfold lstV at h
 split at h
 ·split at h
  ·rename_i h1 h2
   have h1 := Nat.eq_of_beq_eq_true h1
   have h2 := Nat.eq_of_beq_eq_true h2
   subst h1 h2
   split at h
   ·split at h
    ·rename_i h3
     have h3 := Nat.eq_of_beq_eq_true h3
     subst h3
     obtain ⟨rfl, rfl⟩ := h
     exact ⟨_, _, _, _, _, ⟨rfl, rfl⟩, rfl, rfl⟩
    ·exact h.elim
   ·obtain ⟨h3, rfl, rfl⟩ := h
    subst h3
    exact ⟨_, _, _, _, _, ⟨rfl, rfl⟩, rfl, rfl⟩
  ·exact h.elim
 ·exact h.elim
theorem lstR_is {w : Bool} {nid : Nat} : ∀ {r : Res} {v : AV} {ob : Option AObj}, (lstR w nid r).Is v ob → ∃ g T t l f, r.Is (.own nid g l.length) (some (.arr T t l f g)) ∧ v = .lst t l ∧ ob = some .dead
 | .ok u uo, v, ob, h => by
  obtain ⟨g, T, t, l, f, ⟨rfl, rfl⟩, h1, h2⟩ := lstV_is (show (lstV w nid u uo).Is v ob from h)
  exact ⟨g, T, t, l, f, ⟨rfl, rfl⟩, h1, h2⟩
 | @Res.need p _ r, v, ob, h => by
  obtain ⟨hp, h⟩ := h
  obtain ⟨g, T, t, l, f, h1, h2⟩ := lstR_is (r := r) h
  exact ⟨g, T, t, l, f, ⟨hp, h1⟩, h2⟩
 | .br b x y, v, ob, h => by
  rcases h with ⟨hb, h⟩ | ⟨hb, h⟩
  ·obtain ⟨g, T, t, l, f, h1, h2⟩ := lstR_is (r := x) h
   exact ⟨g, T, t, l, f, .inl ⟨hb, h1⟩, h2⟩
  ·obtain ⟨g, T, t, l, f, h1, h2⟩ := lstR_is (r := y) h
   exact ⟨g, T, t, l, f, .inr ⟨hb, h1⟩, h2⟩
 | .idx L i k, v, ob, h => by
  obtain ⟨x, hi, hx, h⟩ := h
  obtain ⟨g, T, t, l, f, h1, h2⟩ := lstR_is (r := k x) h
  exact ⟨g, T, t, l, f, ⟨x, hi, hx, h1⟩, h2⟩
 | .bad, v, ob, h => h.elim
theorem drW_pos {ops : Array Oper} {o : Oper} (h : drW ops o = true) (nid : Nat) (ρ : Operand → AV) : posR nid ρ o = nid := by
 unfold drW at h
 unfold posR
 split at h
 ·rename_i ho; rw [ho]
 ·cases h
theorem drN_pos {ops : Array Oper} {ρ : Operand → AV} {o : Oper} (h : drN ops ρ o = true) (nid : Nat) : posR nid ρ o = nid := by
 unfold drN at h
 rw [Bool.or_eq_true] at h
 rcases h with h | h
 ·exact drW_pos h nid ρ
 ·unfold drA at h
  rw [Bool.and_eq_true] at h
  obtain ⟨h1, h2⟩ := h
  unfold drS at h1
  split at h1
  ·rename_i c ho
   simp only [ho] at h2
   split at h1
   ·rename_i t x T1 T2 hc ha ht
    simp only [ha] at h2
    unfold posR
    simp only [ho]
    unfold posC
    simp only [hc, ha, ht]
    unfold tightV at h2
    unfold posA
    split at h2
    ·rename_i hv; rw [hv]
    ·cases h2
   ·cases h1
  ·cases h1
theorem opRd_some {C : Cx} {ops : Array Oper} {h0 : Hp} {nid : Nat} {ρ : Operand → AV} {o : Oper} {v : AV} {ob : AObj} (h : (opRd C ops h0 nid ρ o).Is v (some ob)) : ∃ v' ob', (opR C h0 nid ρ o).Is v' (some ob') := by
 unfold opRd at h
 split at h
 ·obtain ⟨g, T, t, l, f, h1, _, _⟩ := lstR_is h
  exact ⟨_, _, h1⟩
 ·exact ⟨_, _, h⟩
/-! ### A run in the order of the text -/
theorem Tr.get_set_some : ∀ (f : Tr) (n : Nat) (x : AV), f.get n ≠ .any → (f.set n x).get n = x
 | .leaf, n, x, h => absurd rfl h
 | .node l v r, n, x, h => by
  cases n with
  | zero => rfl
  | succ n =>
   simp only [Tr.set]
   cases hn : Nat.beq (n % 2) 0 <;> simp only [Tr.get, hn] at h ⊢
   ·exact Tr.get_set_some r _ _ h
   ·exact Tr.get_set_some l _ _ h
structure Tk (C : Cx) (ops : Array Oper) (base : Nat) (G : Nat → Nat → AV) (H : Nat → Hp) (V : Nat → AV) (B : Nat → Option AObj) (E : Nat → Bool) (k : Nat) (o : Oper) : Prop where
 grd : (o.guard = none ∧ E k = true) ∨ ∃ j want t, o.guard = some (j, want) ∧ (ops[j]?).bind (·.dst) = some t ∧ ((∃ b, G k t = .bool b ∧ E k = (b == want)) ∨ (G k t = .und ∧ E k = false))
 exe : E k = true → (opRd C ops (maskH o (ev (G k)) (H k)) (base + k) (ev (G k)) o).Is (V k) (B k)
 raw : E k = true → rawOk base (ev (G k)) o = true
 skp : E k = false → V k = .und ∧ B k = none
 gne : ∀ t, o.dst ≠ some t → G (k + 1) t = G k t
 geq : ∀ t, o.dst = some t → G (k + 1) t = V k ∨ G (k + 1) t = .any
 hp : H (k + 1) = putO (H k) (posR (base + k) (ev (G k)) o) (B k)
def Fin (C : Cx) (bs : Oper → Tr → Hp → (Tr → Hp → Prop) → Prop) (ops : Array Oper) (K : Tr → Hp → Prop) (j : Nat) (f : Tr) (h : Hp) : List Oper → Prop
 | [] => trimK h fun h => K f h
 | o :: rest => barO C ops o = true ∧ trimK h fun h => bs o f h fun f h => drawGo C bs ops h.length (j + 1) rest f (h ++ List.replicate ops.size .resv) K
structure Seg (C : Cx) (bs : Oper → Tr → Hp → (Tr → Hp → Prop) → Prop) (ops : Array Oper) (base i : Nat) (l : List Oper) (f : Tr) (h : Hp) (K : Tr → Hp → Prop) (m : Nat) (G : Nat → Nat → AV) (H : Nat → Hp) (V : Nat → AV) (B : Nat → Option AObj) (E : Nat → Bool) (f' : Tr) : Prop where
 le : m ≤ l.length
 low : ∀ k, k ≤ i → G k = f.get ∧ H k = h
 high : ∀ k, i + m ≤ k → G k = f'.get ∧ H k = H (i + m)
 tk : ∀ k o, k < m → l[k]? = some o → Tk C ops base G H V B E (i + k) o
 nob : ∀ k o, k < m → l[k]? = some o → barO C ops o = false
 fin : Fin C bs ops K (i + m) f' (H (i + m)) (l.drop m)
theorem drawGo_trace {C : Cx} {bs : Oper → Tr → Hp → (Tr → Hp → Prop) → Prop} {ops : Array Oper} : ∀ (l : List Oper) (base i : Nat) (f : Tr) (h : Hp) (K : Tr → Hp → Prop), drawGo C bs ops base i l f h K →
  ∃ m G H V B E, ∃ f' : Tr, Seg C bs ops base i l f h K m G H V B E f'
 | [], base, i, f, h, K, hk => ⟨0, fun _ => f.get, fun _ => h, fun _ => .any, fun _ => none, fun _ => true, f, by simp, fun _ _ => ⟨rfl, rfl⟩, fun _ _ => ⟨rfl, rfl⟩, by simp, by simp, hk⟩
 | o :: rest, base, i, f, h, K, hk => by
  rw [drawGo_cons] at hk
  simp only at hk
  split at hk
  ·rename_i hbar
   simp only [lenK_eq, roomK_eq] at hk
   exact ⟨0, fun _ => f.get, fun _ => h, fun _ => .any, fun _ => none, fun _ => true, f, by simp, fun _ _ => ⟨rfl, rfl⟩, fun _ _ => ⟨rfl, rfl⟩, fun k o hk => by omega, fun k o hk => by omega, hbar, hk⟩
  rename_i hnb
  have build : ∀ (v : AV) (ob : Option AObj) (e : Bool) (f1 : Tr) (h1 : Hp), (∀ t, o.dst ≠ some t → f1.get t = f.get t) → (∀ t, o.dst = some t → f1.get t = v ∨ f1.get t = .any) → h1 = putO h (posR (base + i) (ev f.get) o) ob →
    (e = true → (opRd C ops (maskH o (ev f.get) h) (base + i) (ev f.get) o).Is v ob) → (e = true → rawOk base (ev f.get) o = true) → (e = false → v = .und ∧ ob = none) →
    ((o.guard = none ∧ e = true) ∨ ∃ j want t, o.guard = some (j, want) ∧ (ops[j]?).bind (·.dst) = some t ∧ ((∃ b, f.get t = .bool b ∧ e = (b == want)) ∨ (f.get t = .und ∧ e = false))) →
    drawGo C bs ops base (i + 1) rest f1 h1 K → ∃ m G H V B E, ∃ f' : Tr, Seg C bs ops base i (o :: rest) f h K m G H V B E f' := by
   intro v ob e f1 h1 q1 q2 q3 q4 q7 q5 q6 hk
   obtain ⟨m, G, H, V, B, E, f', sg⟩ := drawGo_trace rest base (i + 1) f1 h1 K hk
   obtain ⟨g1, g2⟩ := sg.low (i + 1) (Nat.le_refl _)
   have hn1 : ¬ (i + 1 ≤ i) := by omega
   refine ⟨m + 1, fun k => if k ≤ i then f.get else G k, fun k => if k ≤ i then h else H k, fun k => if k ≤ i then v else V k, fun k => if k ≤ i then ob else B k, fun k => if k ≤ i then e else E k, f', by have := sg.le; simp; omega, fun k hk => by simp [hk], ?_, ?_, ?_, ?_⟩
   ·intro k hk'
    have hn : ¬ (k ≤ i) := by omega
    have hn2 : ¬ (i + (m + 1) ≤ i) := by omega
    simp only [if_neg hn, if_neg hn2]
    have := sg.high k (by omega)
    rw [show i + (m + 1) = i + 1 + m by omega]
    exact this
   ·intro k o' hkm hk'
    cases k with
    | zero =>
     simp only [List.getElem?_cons_zero, Option.some.injEq] at hk'
     subst hk'
     exact ⟨by simpa using q6, by simpa using q4, by simpa using q7, by simpa using q5, by simpa [hn1, g1] using q1, by simpa [hn1, g1] using q2, by simp [hn1, g2, q3]⟩
    | succ k =>
     have := sg.tk k o' (by omega) (by simpa using hk')
     rw [show i + 1 + k = i + (k + 1) by omega] at this
     have hn : ¬ (i + (k + 1) ≤ i) := by omega
     have hn2 : ¬ (i + (k + 1) + 1 ≤ i) := by omega
     exact ⟨by simpa only [if_neg hn] using this.grd, by simpa only [if_neg hn] using this.exe, by simpa only [if_neg hn] using this.raw, by simpa only [if_neg hn] using this.skp, by simpa only [if_neg hn, if_neg hn2] using this.gne, by simpa only [if_neg hn, if_neg hn2] using this.geq, by simpa only [if_neg hn, if_neg hn2] using this.hp⟩
   ·intro k o' hkm hk'
    cases k with
    | zero =>
     simp only [List.getElem?_cons_zero, Option.some.injEq] at hk'
     subst hk'
     exact hnb
    | succ k => exact sg.nob k o' (by omega) (by simpa using hk')
   ·have hn2 : ¬ (i + (m + 1) ≤ i) := by omega
    simp only [if_neg hn2, List.drop_succ_cons]
    rw [show i + (m + 1) = i + 1 + m by omega]
    exact sg.fin
  have run : ∀ f2 : Tr, f2.get = f.get → ((o.guard = none) ∨ ∃ j want t, o.guard = some (j, want) ∧ (ops[j]?).bind (·.dst) = some t ∧ ∃ b, f.get t = .bool b ∧ true = (b == want)) →
    (match rawOk base (ev f2.get) o with
    | false => False
    | true => (opRd C ops (maskH o (ev f2.get) h) (base + i) (ev f2.get) o).sat fun v ob =>
     match ob with
     | none => (match o.dst with
      | some d => force v fun v => f2.setK d v fun f => drawGo C bs ops base (i + 1) rest f h K
      | none => drawGo C bs ops base (i + 1) rest f2 h K)
     | some ob => forceO ob fun ob => putK h (posR (base + i) (ev f2.get) o) ob fun h => (match o.dst with
      | some d => force v fun v => f2.setK d v fun f => drawGo C bs ops base (i + 1) rest f h K
      | none => drawGo C bs ops base (i + 1) rest f2 h K)) → ∃ m G H V B E, ∃ f' : Tr, Seg C bs ops base i (o :: rest) f h K m G H V B E f' := by
   intro f2 hf2 hg hs
   rw [hf2] at hs
   split at hs
   ·exact hs.elim
   rename_i hraw
   obtain ⟨v, ob, his, hk⟩ := Res.sat_is hs
   have hgrd : (o.guard = none ∧ true = true) ∨ ∃ j want t, o.guard = some (j, want) ∧ (ops[j]?).bind (·.dst) = some t ∧ ((∃ b, f.get t = .bool b ∧ true = (b == want)) ∨ (f.get t = .und ∧ true = false)) := by
    rcases hg with hg | ⟨j, want, t, h1, h2, h3⟩
    ·exact .inl ⟨hg, rfl⟩
    ·exact .inr ⟨j, want, t, h1, h2, .inl h3⟩
   have fin : ∀ h1, h1 = putO h (posR (base + i) (ev f.get) o) ob → (match o.dst with
      | some d => force v fun v => f2.setK d v fun f => drawGo C bs ops base (i + 1) rest f h1 K
      | none => drawGo C bs ops base (i + 1) rest f2 h1 K) → ∃ m G H V B E, ∃ f' : Tr, Seg C bs ops base i (o :: rest) f h K m G H V B E f' := by
    intro h1 hh1 hk
    cases hd : o.dst with
    | none =>
     rw [hd] at hk
     exact build v ob true f2 h1 (fun t _ => by rw [hf2]) (fun t ht => by rw [hd] at ht; cases ht) hh1 (fun _ => his) (fun _ => hraw) (fun h => by cases h) hgrd hk
    | some d =>
     rw [hd] at hk
     simp only [force_eq, Tr.setK_eq] at hk
     refine build v ob true (f2.set d v) h1 (fun t ht => ?_) (fun t ht => ?_) hh1 (fun _ => his) (fun _ => hraw) (fun h => by cases h) hgrd hk
     ·rw [hd] at ht
      rw [Tr.get_set_ne f2 d t v (fun e => ht (by rw [e])), hf2]
     ·rw [hd] at ht
      cases ht
      exact Tr.get_set_eq f2 _ v
   cases ob with
   | none => exact fin h rfl hk
   | some ob =>
    simp only [forceO_eq, putK_eq] at hk
    exact fin _ rfl hk
  have skip : ∀ f2 : Tr, f2.get = f.get → (∃ j want t, o.guard = some (j, want) ∧ (ops[j]?).bind (·.dst) = some t ∧ ((∃ b, f.get t = .bool b ∧ false = (b == want)) ∨ (f.get t = .und ∧ false = false))) →
    (match o.dst with
     | some d => f2.setK d .und fun f => drawGo C bs ops base (i + 1) rest f h K
     | none => drawGo C bs ops base (i + 1) rest f2 h K) → ∃ m G H V B E, ∃ f' : Tr, Seg C bs ops base i (o :: rest) f h K m G H V B E f' := by
   intro f2 hf2 hg hk
   cases hd : o.dst with
   | none =>
    rw [hd] at hk
    exact build .und none false f2 h (fun t _ => by rw [hf2]) (fun t ht => by rw [hd] at ht; cases ht) rfl (fun h => by cases h) (fun h => by cases h) (fun _ => ⟨rfl, rfl⟩) (.inr hg) hk
   | some d =>
    rw [hd] at hk
    simp only [Tr.setK_eq] at hk
    refine build .und none false (f2.set d .und) h (fun t ht => ?_) (fun t ht => ?_) rfl (fun h => by cases h) (fun h => by cases h) (fun _ => ⟨rfl, rfl⟩) (.inr hg) hk
    ·rw [hd] at ht
     rw [Tr.get_set_ne f2 d t .und (fun e => ht (by rw [e])), hf2]
    ·rw [hd] at ht
     cases ht
     exact Tr.get_set_eq f2 _ .und
  split at hk
  ·rename_i hg
   exact run f rfl (.inl hg) hk
  ·rename_i j want hg
   split at hk
   ·exact hk.elim
   ·rename_i t ht
    split at hk
    ·rename_i b hb
     have hset : ∀ b', b' = b → (f.set t (.bool b')).get = f.get := by
      intro b' e
      subst e
      funext u
      by_cases hu : u = t
      ·subst hu
       rw [Tr.get_set_some f u _ (by rw [hb]; exact fun h => by cases h), hb]
      ·exact Tr.get_set_ne f t u _ hu
     cases want with
     | true =>
      simp only at hk
      rw [Tr.setK_eq, Tr.setK_eq] at hk
      rcases br_elim hk with ⟨rfl, hk2⟩ | ⟨rfl, hk2⟩
      ·exact run _ (hset true rfl) (.inr ⟨j, true, t, hg, ht, true, hb, rfl⟩) hk2
      ·exact skip _ (hset false rfl) ⟨j, true, t, hg, ht, .inl ⟨false, hb, rfl⟩⟩ hk2
     | false =>
      simp only at hk
      rw [Tr.setK_eq, Tr.setK_eq] at hk
      rcases br_elim hk with ⟨rfl, hk2⟩ | ⟨rfl, hk2⟩
      ·exact skip _ (hset true rfl) ⟨j, false, t, hg, ht, .inl ⟨true, hb, rfl⟩⟩ hk2
      ·exact run _ (hset false rfl) (.inr ⟨j, false, t, hg, ht, false, hb, rfl⟩) hk2
    ·rename_i hb
     exact skip f rfl ⟨j, want, t, hg, ht, .inr ⟨hb, rfl⟩⟩ hk
    ·exact hk.elim
/-! ### Calls that are walked through -/
theorem hasBar_no {C : Cx} {ops : Array Oper} : ∀ {l : List Oper}, hasBar C ops l = false → ∀ o ∈ l, barO C ops o = false
 | [], _, o, h => by simp at h
 | x :: l, h, o, ho => by
  simp only [hasBar, Bool.or_eq_false_iff] at h
  rcases List.mem_cons.1 ho with rfl | ho
  ·exact h.1
  ·exact hasBar_no h.2 o ho
theorem barsGo_spec {C : Cx} {ops : Array Oper} {n : Nat} {befs : List Nat} : ∀ (l : List Oper) (i : Nat), barsGo C ops n befs i l = true → ∀ k o, l[k]? = some o → barO C ops o = true → (∀ m, m < i + k → (befs.getD (i + k) 0).testBit m = true) ∧ (∀ q, i + k < q → q < n → (befs.getD q 0).testBit (i + k) = true)
 | [], i, _, k, o, hk, _ => by simp at hk
 | x :: l, i, h, k, o, hk, hb => by
  simp only [barsGo, Bool.and_eq_true] at h
  obtain ⟨h1, h2⟩ := h
  cases k with
  | zero =>
   simp only [List.getElem?_cons_zero, Option.some.injEq] at hk
   subst hk
   rw [hb] at h1
   simp only [Bool.and_eq_true, List.all_eq_true, List.mem_range] at h1
   refine ⟨fun m hm => h1.1 m hm, fun q hq hqn => ?_⟩
   have := h1.2 q hqn
   rw [Bool.or_eq_true] at this
   rcases this with h3 | h3
   ·have := Nat.le_of_ble_eq_true h3; omega
   ·exact h3
  | succ k =>
   have := barsGo_spec l (i + 1) h2 k o (by simpa using hk) hb
   rw [show i + (k + 1) = i + 1 + k by omega]
   exact this
theorem barsOk_spec {C : Cx} {ops : Array Oper} (h : barsOk C ops = true) {j : Nat} {o : Oper} (ho : ops[j]? = some o) (hb : barO C ops o = true) : (∀ i, i < j → Bef ops i j) ∧ (∀ k, j < k → k < ops.size → Bef ops j k) := by
 have hmem : o ∈ ops.toList := by
  obtain ⟨hl, he⟩ := Array.getElem?_eq_some_iff.1 ho
  rw [← he]
  exact Array.mem_toList_iff.2 (Array.getElem_mem hl)
 unfold barsOk at h
 split at h
 ·have key := barsGo_spec ops.toList 0 h j o (by simpa using ho) hb
  rw [Nat.zero_add] at key
  have bs := fun j i => befGo_spec (ops := ops) ops.toList [] (fun k hk => by simp) (fun j i h => by simp at h) j i
  exact ⟨fun i hi => bs _ _ (key.1 i hi), fun k hk hn => bs _ _ (key.2 k hk hn)⟩
 ·rename_i hn
  have := hasBar_no hn o hmem
  rw [hb] at this
  cases this
end Av
