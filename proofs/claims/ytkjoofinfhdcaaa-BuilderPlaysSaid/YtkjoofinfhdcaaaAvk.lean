/-
  An abstract reading of values and memory: a region whose order is drawn does what is reckoned.
-/
import Derived.Test.YtkjoofinfhdcaaaAvj
namespace Av
open Go

def wH (sg : Nat → Bool) (ops : Array Oper) (base : Nat) (G : Nat → Nat → AV) (B : Nat → Option AObj) (id k : Nat) : Bool := match ops[k]?, sg k with
 | some o, true => (B k).isSome && decide (posR (base + k) (ev (G k)) o = id)
 | _, _ => false
def wF (sg : Nat → Bool) (ops : Array Oper) (t k : Nat) : Bool := match ops[k]?, sg k with
 | some o, true => decide (o.dst = some t)
 | _, _ => false
theorem put_len {h : Hp} {nid : Nat} {ob : AObj} (hlt : nid < h.length) : (put h nid ob).length = h.length := by
 unfold put
 rw [if_pos hlt, List.length_set]
theorem ops_get {ops : Array Oper} {j : Nat} (hj : j < ops.size) : ∃ o, ops[j]? = some o := ⟨_, Array.getElem?_eq_getElem hj⟩
theorem ops_lt {ops : Array Oper} {j : Nat} {o : Oper} (ho : ops[j]? = some o) : j < ops.size := (Array.getElem?_eq_some_iff.1 ho).1

abbrev Prt := Nat → Option (Nat × Nat × Nat × List AV)
def tau (H : Nat → Hp) (prt : Prt) (id k : Nat) (a : AObj) : AObj := match prt k with
 | some p => (match a with | .cells T cs => .cells T (ovr cs p.2.1 p.2.2.2) | a => a)
 | none => (H (k + 1)).getD id .dead
structure PR1 (C : Cx) (ops : Array Oper) (base : Nat) (G : Nat → Nat → AV) (H : Nat → Hp) (V : Nat → AV) (B : Nat → Option AObj) (k : Nat) (o : Oper) (p : Nat × Nat × Nat × List AV) (Tc : TypeId) (n : Nat) : Prop where
 kind : ∀ j, j ≤ ops.size → ∃ cs, (H j)[p.1]? = some (.cells Tc cs) ∧ cs.length = n
 inr : p.2.1 + p.2.2.2.length ≤ n
 len : p.2.2.2.length = p.2.2.1
 pos : posR (base + k) (ev (G k)) o = p.1
 low : p.1 < base
 mem : memW o = true
 own : ∃ cs, (H k)[p.1]? = some (.cells Tc cs) ∧ B k = some (.cells Tc (splice cs p.2.1 p.2.2.2))
 run : ∀ (h' : Hp) cs', h'[p.1]? = some (.cells Tc cs') → cs'.length = n → (opRd C ops h' (base + k) (ev (G k)) o).Is (V k) (some (.cells Tc (splice cs' p.2.1 p.2.2.2)))
def PRok (C : Cx) (ops : Array Oper) (sg : Nat → Bool) (base : Nat) (G : Nat → Nat → AV) (H : Nat → Hp) (V : Nat → AV) (B : Nat → Option AObj) (E : Nat → Bool) (prt : Prt) : Prop :=
 ∀ k o p, sg k = true → ops[k]? = some o → prt k = some p → E k = true → ∃ Tc n, PR1 C ops base G H V B k o p Tc n
theorem PRok.none {C : Cx} {ops : Array Oper} {sg : Nat → Bool} {base : Nat} {G : Nat → Nat → AV} {H : Nat → Hp} {V : Nat → AV} {B : Nat → Option AObj} {E : Nat → Bool} : PRok C ops sg base G H V B E (fun _ => Option.none) := fun _ _ _ _ _ h => by cases h
structure Trc (sg : Nat → Bool) (C : Cx) (ops : Array Oper) (base : Nat) (G : Nat → Nat → AV) (H : Nat → Hp) (V : Nat → AV) (B : Nat → Option AObj) (E : Nat → Bool) : Prop where
 tk : ∀ k o, ops[k]? = some o → sg k = true → Tk C ops base G H V B E k o
 stay : ∀ k, k < ops.size → sg k = false → G (k + 1) = G k ∧ H (k + 1) = H k
 len : (H 0).length = base + ops.size
 rsv : ∀ c, c < ops.size → (H 0)[base + c]? = some .resv
section
variable {sg : Nat → Bool} {C : Cx} {ops : Array Oper} {base : Nat} {G : Nat → Nat → AV} {H : Nat → Hp} {V : Nat → AV} {B : Nat → Option AObj} {E : Nat → Bool}
theorem Tk.ran {k : Nat} {o : Oper} (tk : Tk C ops base G H V B E k o) {ob : AObj} (hb : B k = some ob) : E k = true := by
 cases he : E k with
 | true => rfl
 | false => have := (tk.skp he).2; rw [hb] at this; cases this
theorem Tk.posc {k : Nat} {o : Oper} (tk : Tk C ops base G H V B E k o) {ob : AObj} (hb : B k = some ob) : posR (base + k) (ev (G k)) o = base + k ∨
  (memW o = true ∧ ∃ oo, (H k)[posR (base + k) (ev (G k)) o]? = some oo ∧ oo.alive = true ∧ ∃ x ∈ looks o, posR (base + k) (ev (G k)) o ∈ idsV (ev (G k) x)) := by
 have h := tk.exe (tk.ran hb)
 rw [hb] at h
 obtain ⟨_, _, h⟩ := opRd_some h
 rcases pos_cases h with h1 | ⟨h1, oo, h2, h3⟩
 ·exact .inl h1
 ·obtain ⟨_, h4, ⟨x, h5, h6⟩, _⟩ := maskH_get h2 h3
  exact .inr ⟨h1, oo, h4, h3, x, h5, idsM_W h1 h6⟩
theorem Trc.lenk (T : Trc sg C ops base G H V B E) : ∀ j, j ≤ ops.size → (H j).length = base + ops.size
 | 0, _ => T.len
 | j + 1, hj => by
  obtain ⟨o, ho⟩ := ops_get (show j < ops.size by omega)
  have ih := T.lenk j (by omega)
  cases hs : sg j with
  | false => rw [(T.stay j (by omega) hs).2]; exact ih
  | true =>
  have tk := T.tk j o ho hs
  rw [tk.hp]
  cases hb : B j with
  | none => exact ih
  | some ob =>
   have hlt : posR (base + j) (ev (G j)) o < (H j).length := by
    rcases tk.posc hb with h | ⟨_, oo, h, _⟩
    ·rw [h, ih]; omega
    ·exact (List.getElem?_eq_some_iff.1 h).1
   simp only [putO]
   rw [put_len hlt]
   exact ih
theorem Trc.plt (T : Trc sg C ops base G H V B E) {j : Nat} {o : Oper} (ho : ops[j]? = some o) (hs : sg j = true) {ob : AObj} (hb : B j = some ob) : posR (base + j) (ev (G j)) o < base + ops.size := by
 have hj := ops_lt ho
 have ih := T.lenk j (by omega)
 rcases (T.tk j o ho hs).posc hb with h | ⟨_, oo, h, _⟩
 ·rw [h]; omega
 ·rw [← ih]; exact (List.getElem?_eq_some_iff.1 h).1
theorem Trc.step (T : Trc sg C ops base G H V B E) {j : Nat} {o : Oper} (ho : ops[j]? = some o) (id : Nat) : (H (j + 1)).getD id .dead = bif wH sg ops base G B id j then (H (j + 1)).getD id .dead else (H j).getD id .dead := by
 cases hw : wH sg ops base G B id j with
 | true => rfl
 | false =>
  simp only [cond_false]
  cases hs : sg j with
  | false => rw [(T.stay j (ops_lt ho) hs).2]
  | true =>
  have tk := T.tk j o ho hs
  unfold wH at hw
  rw [ho, hs] at hw
  simp only [Bool.and_eq_false_iff, decide_eq_false_iff_not] at hw
  rw [tk.hp]
  cases hb : B j with
  | none => rfl
  | some ob =>
   rw [hb] at hw
   simp only [Option.isSome_some, Bool.true_eq_false, false_or] at hw
   have hlt : posR (base + j) (ev (G j)) o < (H j).length := by rw [T.lenk j (by have := ops_lt ho; omega)]; exact T.plt ho hs hb
   simp only [putO, List.getD_eq_getElem?_getD]
   rw [put_get hlt, if_neg (fun e => hw e.symm)]
theorem wH_ran (T : Trc sg C ops base G H V B E) {id k : Nat} {o : Oper} (ho : ops[k]? = some o) (h : wH sg ops base G B id k = true) : sg k = true ∧ E k = true ∧ posR (base + k) (ev (G k)) o = id ∧ ∃ ob, B k = some ob := by
 unfold wH at h
 split at h
 ·rename_i o' ho' hs
  rw [ho] at ho'
  cases ho'
  rw [Bool.and_eq_true, decide_eq_true_eq] at h
  obtain ⟨ob, hb⟩ := Option.isSome_iff_exists.1 h.1
  exact ⟨hs, (T.tk k o ho hs).ran hb, h.2, ob, hb⟩
 ·cases h
theorem Trc.tau_step (T : Trc sg C ops base G H V B E) {prt : Prt} (hp : PRok C ops sg base G H V B E prt) {j : Nat} {o : Oper} (ho : ops[j]? = some o) (id : Nat) (hw : wH sg ops base G B id j = true) : (H (j + 1)).getD id .dead = tau H prt id j ((H j).getD id .dead) := by
 obtain ⟨hs, hE, hpos, ob, hb⟩ := wH_ran T ho hw
 unfold tau
 cases hpj : prt j with
 | none => rfl
 | some p =>
  obtain ⟨Tc, n, pr⟩ := hp j o p hs ho hpj hE
  obtain ⟨cs, h1, h2⟩ := pr.own
  have hid : p.1 = id := by rw [← pr.pos, hpos]
  obtain ⟨cs2, h3, h4⟩ := pr.kind j (by have := ops_lt ho; omega)
  rw [h1] at h3
  cases h3
  rw [(T.tk j o ho hs).hp, h2]
  have hlt : posR (base + j) (ev (G j)) o < (H j).length := by rw [T.lenk j (by have := ops_lt ho; omega)]; exact T.plt ho hs hb
  simp only [putO, List.getD_eq_getElem?_getD]
  rw [put_get hlt, if_pos hpos.symm, ← hid, h1]
  simp only [Option.getD_some]
  rw [ovr_splice (by rw [h4]; exact pr.inr)]
theorem Trc.hget (T : Trc sg C ops base G H V B E) {prt : Prt} (hp : PRok C ops sg base G H V B E prt) (id : Nat) : ∀ j, j ≤ ops.size → (H j).getD id .dead = FW (wH sg ops base G B id) (tau H prt id) ((H 0).getD id .dead) (fun _ => true) j
 | 0, _ => rfl
 | j + 1, hj => by
  obtain ⟨o, ho⟩ := ops_get (show j < ops.size by omega)
  simp only [FW, Bool.true_and]
  rw [← T.hget hp id j (by omega)]
  cases hw : wH sg ops base G B id j with
  | true => rw [T.tau_step hp ho id hw]; rfl
  | false =>
   have := T.step (H := H) ho id
   rw [hw] at this
   exact this
theorem Trc.fget (T : Trc sg C ops base G H V B E) (t : Nat) : ∀ j, j ≤ ops.size → G j t = LW (wF sg ops t) (fun i => G (i + 1) t) (G 0 t) (fun _ => true) j
 | 0, _ => rfl
 | j + 1, hj => by
  obtain ⟨o, ho⟩ := ops_get (show j < ops.size by omega)
  simp only [LW, Bool.true_and]
  rw [← T.fget t j (by omega)]
  cases hw : wF sg ops t j with
  | true => rfl
  | false =>
   cases hs : sg j with
   | false => simp only [cond_false]; rw [(T.stay j (by omega) hs).1]
   | true =>
   unfold wF at hw
   rw [ho, hs] at hw
   exact (T.tk j o ho hs).gne t (of_decide_eq_false hw)
theorem Trc.made (T : Trc sg C ops base G H V B E) : ∀ j, j ≤ ops.size → ∀ c, c < ops.size → ∀ x, (H j)[base + c]? = some x → x.alive = true → c < j
 | 0, _, c, hc, x, hx, ha => by rw [T.rsv c hc] at hx; cases hx; cases ha
 | j + 1, hj, c, hc, x, hx, ha => by
  obtain ⟨o, ho⟩ := ops_get (show j < ops.size by omega)
  have ih := T.made j (by omega) c hc
  cases hs : sg j with
  | false =>
   rw [(T.stay j (by omega) hs).2] at hx
   have := ih x hx ha
   omega
  | true =>
  have tk := T.tk j o ho hs
  rw [tk.hp] at hx
  cases hb : B j with
  | none =>
   rw [hb] at hx
   have := ih x hx ha
   omega
  | some ob =>
   rw [hb] at hx
   have hlt : posR (base + j) (ev (G j)) o < (H j).length := by rw [T.lenk j (by omega)]; exact T.plt ho hs hb
   simp only [putO] at hx
   rw [put_get hlt] at hx
   by_cases he : base + c = posR (base + j) (ev (G j)) o
   ·rcases tk.posc hb with h | ⟨_, oo, h, h2, _⟩
    ·omega
    ·rw [← he] at h
     have := ih oo h h2
     omega
   ·rw [if_neg he] at hx
    have := ih x hx ha
    omega

/-! ### What conflicts -/
theorem conf_slot {mc : Oper → Oper → Bool} {x y : Oper} {t : Nat} (hx : x.dst = some t) (hy : t ∈ namesO ops y) : confM mc ops x y = true ∧ confM mc ops y x = true := by
 unfold confM
 simp only [hx, hasId_iff.2 hy, Bool.true_or, Bool.or_true, and_self]
theorem conf_mem {mc : Oper → Oper → Bool} {x y : Oper} (hx : memW x = true) (hy : memT y = true) (hm : mc x y = true) : confM mc ops x y = true ∧ confM mc ops y x = true := by
 unfold confM
 simp [hx, hy, hm]
theorem ord {mc : Oper → Oper → Bool} {S : Nat → Bool} (hS : ∀ j o e, S j = true → ops[j]? = some o → e ∈ o.after.toList → Region.binds .any e = true → S e.on = true)
  (hc : ∀ i j x o, ops[i]? = some x → ops[j]? = some o → i < j → confM mc ops x o = true → Bef ops i j) {j : Nat} {o : Oper} (ho : ops[j]? = some o) (hj : S j = false)
  (hr : ∀ e ∈ o.after.toList, Region.binds .any e = true → S e.on = true) {i : Nat} {x : Oper} (hx : ops[i]? = some x) (hcf : confM mc ops x o = true ∧ confM mc ops o x = true) : (i < j → S i = true) ∧ (j < i → S i = false) := by
 constructor
 ·intro hij
  exact (hc i j x o hx ho hij hcf.1).ready hS (fun o' e ho' he hb => by rw [ho] at ho'; cases ho'; exact hr e he hb)
 ·intro hij
  cases hSi : S i with
  | false => rfl
  | true =>
   have := (hc j i o x ho hx hij hcf.2).closed hS hSi
   rw [hj] at this
   cases this
def apartP (prt : Prt) (i j : Nat) : Prop := ∃ p q, prt i = some p ∧ prt j = some q ∧ (p.2.1 + p.2.2.1 ≤ q.2.1 ∨ q.2.1 + q.2.2.1 ≤ p.2.1)
def MCok (mc : Oper → Oper → Bool) (ops : Array Oper) (sg : Nat → Bool) (base : Nat) (G : Nat → Nat → AV) (H : Nat → Hp) (B : Nat → Option AObj) (prt : Prt) : Prop :=
 ∀ i j x o id, sg i = true → ops[i]? = some x → ops[j]? = some o → (∃ ob, B i = some ob) → posR (base + i) (ev (G i)) x = id → memW x = true → (∃ ob, (maskH o (ev (G j)) (H j))[id]? = some ob ∧ ob.alive = true) → mc x o = true ∨ apartP prt i j
theorem MCok.all {sg : Nat → Bool} {base : Nat} {G : Nat → Nat → AV} {H : Nat → Hp} {B : Nat → Option AObj} : MCok (fun _ _ => true) ops sg base G H B (fun _ => Option.none) := fun _ _ _ _ _ _ _ _ _ _ _ _ => .inl rfl
theorem Tk.seen {k : Nat} {o : Oper} (tk : Tk C ops base G H V B E k o) {ob : AObj} (hb : B k = some ob) : posR (base + k) (ev (G k)) o = base + k ∨
  (memW o = true ∧ ∃ oo, (maskH o (ev (G k)) (H k))[posR (base + k) (ev (G k)) o]? = some oo ∧ oo.alive = true) := by
 have h := tk.exe (tk.ran hb)
 rw [hb] at h
 obtain ⟨_, _, h⟩ := opRd_some h
 exact pos_cases h
theorem opRd_kind {C : Cx} {ops : Array Oper} {h0 : Hp} {nid : Nat} {ρ : Operand → AV} {o : Oper} {v : AV} {ob : AObj} (h : (opRd C ops h0 nid ρ o).Is v (some ob)) (hm : memW o = true) (hne : posR nid ρ o ≠ nid) :
  ∃ oo, h0[posR nid ρ o]? = some oo ∧ oo.alive = true ∧ ((ob.alive = true ∧ isArr ob = isArr oo) ∨ (ob.alive = false ∧ isArr oo = true)) := by
 unfold opRd at h
 split at h
 ·obtain ⟨g, T, t, l, f, h1, _, h2⟩ := lstR_is h
  cases h2
  obtain ⟨oo, k1, k2, k3, k4⟩ := mem_kind h1 hm hne
  exact ⟨oo, k1, k2, .inr ⟨rfl, k4.symm⟩⟩
 ·obtain ⟨oo, k1, k2, k3, k4⟩ := mem_kind h hm hne
  exact ⟨oo, k1, k2, .inl ⟨k3, k4⟩⟩
theorem Trc.kind (T : Trc sg C ops base G H V B E) {id : Nat} {q : Bool} {k : Nat} : ∀ d, k + d ≤ ops.size → (∃ o, (H k)[id]? = some o ∧ o.alive = true ∧ isArr o = q) → ∃ o, (H (k + d))[id]? = some o ∧ (q = false → o.alive = true) ∧ (o.alive = true → isArr o = q)
 | 0, _, ⟨o, h1, h2, h3⟩ => ⟨o, h1, fun _ => h2, fun _ => h3⟩
 | d + 1, hd, h => by
  obtain ⟨o, h1, h2, h3⟩ := T.kind d (by omega) h
  have hk : k + d < ops.size := by omega
  obtain ⟨x, hx⟩ := ops_get hk
  cases hs : sg (k + d) with
  | false => rw [show k + (d + 1) = k + d + 1 by omega, (T.stay (k + d) hk hs).2]; exact ⟨o, h1, h2, h3⟩
  | true =>
   have tk := T.tk (k + d) x hx hs
   rw [show k + (d + 1) = k + d + 1 by omega, tk.hp]
   cases hb : B (k + d) with
   | none => exact ⟨o, h1, h2, h3⟩
   | some ob =>
    have hlt : posR (base + (k + d)) (ev (G (k + d))) x < (H (k + d)).length := by rw [T.lenk _ (by omega)]; exact T.plt hx hs hb
    simp only [putO]
    rw [put_get hlt]
    by_cases he : id = posR (base + (k + d)) (ev (G (k + d))) x
    ·rw [if_pos he]
     by_cases hn : posR (base + (k + d)) (ev (G (k + d))) x = base + (k + d)
     ·exfalso
      obtain ⟨o0, e1, e2, _⟩ := h
      have := T.made k (by omega) (k + d) hk o0 (by rw [← hn, ← he]; exact e1) e2
      omega
     ·have hr := tk.exe (tk.ran hb)
      rw [hb] at hr
      have hmw : memW x = true := by
       rcases tk.posc hb with h | ⟨h, _⟩
       ·exact absurd h hn
       ·exact h
      obtain ⟨oo, k1, k2, k3⟩ := opRd_kind hr hmw hn
      obtain ⟨_, k5, _⟩ := maskH_get k1 k2
      rw [← he, h1] at k5
      cases k5
      have hq := h3 k2
      rcases k3 with ⟨k3, k4⟩ | ⟨k3, k4⟩
      ·exact ⟨ob, rfl, fun _ => k3, fun _ => by rw [k4]; exact hq⟩
      ·refine ⟨ob, rfl, fun e => ?_, fun e => ?_⟩
       ·rw [e, k4] at hq; cases hq
       ·rw [k3] at e; cases e
    ·rw [if_neg he]
     exact ⟨o, h1, h2, h3⟩
theorem Trc.gone (T : Trc sg C ops base G H V B E) {id k : Nat} (hid : ∀ c, k ≤ c → id ≠ base + c) (h : ∀ o, (H k)[id]? = some o → o.alive = false) : ∀ d, k + d ≤ ops.size → ∀ o, (H (k + d))[id]? = some o → o.alive = false
 | 0, _ => h
 | d + 1, hd => by
  have ih := T.gone hid h d (by omega)
  have hk : k + d < ops.size := by omega
  obtain ⟨x, hx⟩ := ops_get hk
  cases hs : sg (k + d) with
  | false => rw [show k + (d + 1) = k + d + 1 by omega, (T.stay (k + d) hk hs).2]; exact ih
  | true =>
   have tk := T.tk (k + d) x hx hs
   rw [show k + (d + 1) = k + d + 1 by omega, tk.hp]
   cases hb : B (k + d) with
   | none => exact ih
   | some ob =>
    have hlt : posR (base + (k + d)) (ev (G (k + d))) x < (H (k + d)).length := by rw [T.lenk _ (by omega)]; exact T.plt hx hs hb
    simp only [putO]
    rw [put_get hlt]
    by_cases he : id = posR (base + (k + d)) (ev (G (k + d))) x
    ·exfalso
     have hn : posR (base + (k + d)) (ev (G (k + d))) x ≠ base + (k + d) := by
      rw [← he]; exact hid _ (by omega)
     rcases tk.posc hb with h1 | ⟨_, oo, h1, h2, _⟩
     ·exact hn h1
     ·rw [← he] at h1
      have := ih oo h1
      rw [h2] at this; cases this
    ·rw [if_neg he]
     exact ih
def PC (v : AV) : Prop := v = .any ∨ v = .und ∨ ∃ id o, v = .ptr id o
theorem chain_PC {C : Cx} {ops : Array Oper} {h : Hp} {nid : Nat} {g : Nat → AV} {o : Oper} {b : Nat} (hc : chainO o = some b) (hb : PC (g b)) {v : AV} {ob : Option AObj} (his : (opRd C ops h nid (ev g) o).Is v ob) : PC v := by
 unfold chainO at hc
 unfold opRd at his
 split at hc
 ·rename_i t x k ho
  have hd : drX ops (ev g) o = false := by unfold drX drN drA drS drW drK kS; simp only [ho, Bool.false_and, Bool.or_false]
  rw [hd] at his
  unfold opR pop at his
  simp only [ho] at his
  unfold tmpOf at hc
  split at hc
  ·cases hc
   have his : (pFieldAddr C.tb t (g b) k).Is v ob := his
   unfold pFieldAddr at his
   split at his
   ·exact his.elim
   ·split at his
    ·split at his
     ·exact his.elim
     ·split at his
      ·exact his.elim
      ·rcases hb with hb | hb | ⟨id', o', hb⟩ <;> rw [hb] at his <;> simp only [Res.Is] at his
       rw [← his.1]; exact .inr (.inr ⟨_, _, rfl⟩)
    ·exact his.elim
  ·cases hc
 ·rename_i x ho
  have hd : drX ops (ev g) o = false := by unfold drX drN drA drS drW drK kS; simp only [ho, Bool.false_and, Bool.or_false]
  rw [hd] at his
  unfold opR pop at his
  simp only [ho] at his
  unfold tmpOf at hc
  split at hc
  ·cases hc
   have his : (pNilCheck (g b)).Is v ob := his
   rcases hb with hb | hb | ⟨id', o', hb⟩ <;> rw [hb] at his <;> simp only [pNilCheck, Res.Is] at his
   rw [← his.1]; exact .inr (.inr ⟨_, _, rfl⟩)
  ·cases hc
 ·rename_i x ho
  have hd : drX ops (ev g) o = false := by unfold drX drN drA drS drW drK kS; simp only [ho, Bool.false_and, Bool.or_false]
  rw [hd] at his
  unfold opR pop at his
  simp only [ho] at his
  unfold tmpOf at hc
  split at hc
  ·cases hc
   have his : (pMove C.tb nid o.type (g b)).Is v ob := his
   rcases hb with hb | hb | ⟨id', o', hb⟩ <;> rw [hb] at his <;> simp only [pMove, Res.Is] at his
   ·rw [← his.1]; exact .inr (.inl rfl)
   ·rw [← his.1]; exact .inr (.inr ⟨_, _, rfl⟩)
  ·cases hc
 ·cases hc
theorem wrs_mem {a : Nat} : ∀ {l : List Oper} {o : Oper}, o ∈ l → o.dst = some a → o ∈ wrs a l
 | [], _, ho, _ => by simp at ho
 | x :: l, o, ho, hd => by
  simp only [wrs, List.mem_append]
  rcases List.mem_cons.1 ho with rfl | ho
  ·left
   rw [hd]
   simp
  ·exact .inr (wrs_mem ho hd)
def PS (id : Nat) (v : AV) : Prop := v = .any ∨ v = .und ∨ (∃ o, v = .ptr id o) ∨ (∃ g t i o, v = .optr id g t i o)
theorem PS.of_shape {id : Nat} {v : AV} (h : shapeOk id v = true) : PS id v := by
 unfold shapeOk at h
 split at h
 ·exact .inl rfl
 ·exact .inr (.inl rfl)
 ·have := Nat.eq_of_beq_eq_true h; subst this; exact .inr (.inr (.inl ⟨_, rfl⟩))
 ·have := Nat.eq_of_beq_eq_true h; subst this; exact .inr (.inr (.inr ⟨_, _, _, _, rfl⟩))
 ·cases h
theorem PS.of_ptr {id : Nat} {v : AV} (h : ptrOf v = some id) : PS id v := by
 unfold ptrOf at h
 split at h
 ·cases h; exact .inr (.inr (.inl ⟨_, rfl⟩))
 ·cases h; exact .inr (.inr (.inr ⟨_, _, _, _, rfl⟩))
 ·cases h
theorem chain_PS {C : Cx} {ops : Array Oper} {h : Hp} {nid : Nat} {g : Nat → AV} {o : Oper} {b id : Nat} (hc : chainO o = some b) (hb : PS id (g b)) {v : AV} {ob : Option AObj} (his : (opRd C ops h nid (ev g) o).Is v ob) : PS id v := by
 unfold chainO at hc
 unfold opRd at his
 split at hc
 ·rename_i t x k ho
  have hd : drX ops (ev g) o = false := by unfold drX drN drA drS drW drK kS; simp only [ho, Bool.false_and, Bool.or_false]
  rw [hd] at his
  unfold opR pop at his
  simp only [ho] at his
  unfold tmpOf at hc
  split at hc
  ·cases hc
   have his : (pFieldAddr C.tb t (g b) k).Is v ob := his
   unfold pFieldAddr at his
   split at his
   ·exact his.elim
   ·split at his
    ·split at his
     ·exact his.elim
     ·split at his
      ·exact his.elim
      ·rcases hb with hb | hb | ⟨o', hb⟩ | ⟨g', t', i', o', hb⟩ <;> rw [hb] at his <;> simp only [Res.Is] at his
       ·rw [← his.1]; exact .inr (.inr (.inl ⟨_, rfl⟩))
       ·rw [← his.1]; exact .inr (.inr (.inr ⟨_, _, _, _, rfl⟩))
    ·exact his.elim
  ·cases hc
 ·rename_i x ho
  have hd : drX ops (ev g) o = false := by unfold drX drN drA drS drW drK kS; simp only [ho, Bool.false_and, Bool.or_false]
  rw [hd] at his
  unfold opR pop at his
  simp only [ho] at his
  unfold tmpOf at hc
  split at hc
  ·cases hc
   have his : (pNilCheck (g b)).Is v ob := his
   rcases hb with hb | hb | ⟨o', hb⟩ | ⟨g', t', i', o', hb⟩ <;> rw [hb] at his <;> simp only [pNilCheck, Res.Is] at his
   ·rw [← his.1]; exact .inr (.inr (.inl ⟨_, rfl⟩))
   ·rw [← his.1]; exact .inr (.inr (.inr ⟨_, _, _, _, rfl⟩))
  ·cases hc
 ·rename_i x ho
  have hd : drX ops (ev g) o = false := by unfold drX drN drA drS drW drK kS; simp only [ho, Bool.false_and, Bool.or_false]
  rw [hd] at his
  unfold opR pop at his
  simp only [ho] at his
  unfold tmpOf at hc
  split at hc
  ·cases hc
   have his : (pMove C.tb nid o.type (g b)).Is v ob := his
   rcases hb with hb | hb | ⟨o', hb⟩ | ⟨g', t', i', o', hb⟩ <;> rw [hb] at his <;> simp only [pMove, Res.Is] at his
   ·rw [← his.1]; exact .inr (.inl rfl)
   ·rw [← his.1]; exact .inr (.inr (.inl ⟨_, rfl⟩))
   ·rw [← his.1]; exact .inr (.inr (.inr ⟨_, _, _, _, rfl⟩))
  ·cases hc
 ·cases hc
theorem Trc.still (T : Trc sg C ops base G H V B E) {t : Nat} (ht : wrs t ops.toList = []) {k : Nat} (hk : k ≤ ops.size) : G k t = G 0 t := by
 rw [T.fget t k hk]
 refine LW_none k (fun i hi hw => ?_)
 exfalso
 unfold wF at hw
 split at hw
 ·rename_i o ho _
  obtain ⟨hl, he⟩ := Array.getElem?_eq_some_iff.1 ho
  have := wrs_mem (l := ops.toList) (by rw [← he]; exact Array.mem_toList_iff.2 (Array.getElem_mem hl)) (of_decide_eq_true hw)
  rw [ht] at this
  simp at this
 ·cases hw
theorem slot_PS (T : Trc sg C ops base G H V B E) {f : Tr} (h0 : G 0 = f.get) : ∀ (n a id : Nat), slotId f ops.toList n a = some id → ∀ k, k ≤ ops.size → PS id (G k a)
 | 0, a, id, h, k, _ => by cases h
 | n + 1, a, id, h, k, hk => by
  simp only [slotId] at h
  split at h
  ·rename_i hw
   rw [T.still hw hk, h0]
   exact PS.of_ptr h
  ·rename_i o hw
   split at h
   ·rename_i b hb
    split at h
    ·rename_i id' hid
     split at h
     ·rename_i hs
      cases h
      have ih := slot_PS T h0 n b id hid
      induction k with
      | zero => rw [h0]; exact PS.of_shape hs
      | succ k ihk =>
       obtain ⟨x, hx⟩ := ops_get (show k < ops.size by omega)
       cases hsg : sg k with
       | false => rw [(T.stay k (by omega) hsg).1]; exact ihk (by omega)
       | true =>
        have tk := T.tk k x hx hsg
        by_cases hd : x.dst = some a
        ·have hm : x ∈ wrs a ops.toList := by
          obtain ⟨hl, he⟩ := Array.getElem?_eq_some_iff.1 hx
          exact wrs_mem (by rw [← he]; exact Array.mem_toList_iff.2 (Array.getElem_mem hl)) hd
         rw [hw, List.mem_singleton] at hm
         subst hm
         rcases tk.geq a hd with e | e <;> rw [e]
         ·cases hE : E k with
          | false => rw [(tk.skp hE).1]; exact .inr (.inl rfl)
          | true => exact chain_PS hb (ih k (by omega)) (tk.exe hE)
         ·exact .inl rfl
        ·rw [tk.gne a hd]; exact ihk (by omega)
     ·cases h
    ·cases h
   ·cases h
  ·cases h
theorem slot_PC (T : Trc sg C ops base G H V B E) {f : Tr} (h0 : G 0 = f.get) : ∀ (n a : Nat), slotC f ops.toList n a = true → ∀ k, k ≤ ops.size → PC (G k a)
 | 0, a, h, k, _ => by cases h
 | n + 1, a, h, k, hk => by
  simp only [slotC] at h
  split at h
  ·rename_i hw
   rw [T.still hw hk, h0]
   split at h
   ·rename_i hv; rw [hv]; exact .inr (.inr ⟨_, _, rfl⟩)
   ·cases h
  ·rename_i o hw
   split at h
   ·rename_i b hb
    rw [Bool.and_eq_true] at h
    obtain ⟨hid, hs⟩ := h
    have ih := slot_PC T h0 n b hid
    induction k with
    | zero =>
     rw [h0]
     split at hs
     ·rename_i hv; rw [hv]; exact .inl rfl
     ·rename_i hv; rw [hv]; exact .inr (.inl rfl)
     ·rename_i hv; rw [hv]; exact .inr (.inr ⟨_, _, rfl⟩)
     ·cases hs
    | succ k ihk =>
     obtain ⟨x, hx⟩ := ops_get (show k < ops.size by omega)
     cases hsg : sg k with
     | false => rw [(T.stay k (by omega) hsg).1]; exact ihk (by omega)
     | true =>
      have tk := T.tk k x hx hsg
      by_cases hd : x.dst = some a
      ·have hm : x ∈ wrs a ops.toList := by
        obtain ⟨hl, he⟩ := Array.getElem?_eq_some_iff.1 hx
        exact wrs_mem (by rw [← he]; exact Array.mem_toList_iff.2 (Array.getElem_mem hl)) hd
       rw [hw, List.mem_singleton] at hm
       subst hm
       rcases tk.geq a hd with e | e <;> rw [e]
       ·cases hE : E k with
        | false => rw [(tk.skp hE).1]; exact .inr (.inl rfl)
        | true => exact chain_PC hb (ih k (by omega)) (tk.exe hE)
       ·exact .inl rfl
      ·rw [tk.gne a hd]; exact ihk (by omega)
   ·cases h
  ·cases h
theorem PS.ids {id i : Nat} {v : AV} (h : PS id v) (hi : i ∈ idsV v) : i = id := by
 rcases h with rfl | rfl | ⟨o, rfl⟩ | ⟨g, t, k, o, rfl⟩ <;> simp [idsV] at hi
 ·exact hi
 ·exact hi
theorem PS.raw {id : Nat} {v : AV} (h : PS id v) : rawI v = [] := by
 rcases h with rfl | rfl | ⟨o, rfl⟩ | ⟨g, t, k, o, rfl⟩ <;> rfl
theorem slotA_looks {o : Oper} {p : Nat} (h : slotA o = some p) : looks o = [.tmp p] := by
 unfold slotA at h
 unfold looks
 split at h
 ·rename_i a v ho
  rw [ho]
  split at h
  ·cases h; rfl
  ·cases h
 ·rename_i a ho
  rw [ho]
  split at h
  ·cases h; rfl
  ·cases h
 ·cases h
theorem store_PS {C : Cx} {ops : Array Oper} {h : Hp} {nid nid' : Nat} {g : Nat → AV} {o : Oper} {p id : Nat} (hs : slotA o = some p) (hm : memW o = true) (hp : PS id (g p)) {v : AV} {ob : Option AObj} (his : (opRd C ops h nid (ev g) o).Is v ob) : posR nid' (ev g) o = id := by
 unfold slotA at hs
 unfold memW at hm
 split at hs
 ·rename_i t a x ho
  have hd : drX ops (ev g) o = false := by unfold drX drN drA drS drW drK kS; simp only [ho, Bool.false_and, Bool.or_false]
  unfold opRd at his
  rw [hd] at his
  unfold opR at his
  simp only [ho] at his
  split at hs
  ·cases hs
   have hpos : posR nid' (ev g) o = pid (g p) := by unfold posR; rw [ho]; rfl
   rw [hpos]
   have his : (pStore C.tb h t (g p) (ev g x)).Is v ob := his
   rcases hp with hp | hp | ⟨o', hp⟩ | ⟨g', t', i', o', hp⟩
   ·rw [hp] at his
    unfold pStore at his
    split at his
    ·exact his.elim
    ·exact his.elim
   ·rw [hp] at his
    unfold pStore at his
    split at his
    ·exact his.elim
    ·exact his.elim
   ·rw [hp]; rfl
   ·rw [hp]; rfl
  ·cases hs
 ·rename_i t a ho
  rw [ho] at hm
  cases hm
 ·cases hs
theorem sees_arr {o : Oper} {ρ : Operand → AV} {ob : AObj} (h : arrOnly o = true) (hs : sees o ρ ob = true) : isArr ob = true := by
 unfold arrOnly at h
 unfold sees at hs
 split at hs
 ·rename_i ho; rw [ho] at h; cases h
 ·rename_i ho; rw [ho] at h; cases h
 ·exact hs
theorem sees_cell {o : Oper} {g : Nat → AV} {ob : AObj} {q id off : Nat} (h : slotA o = some q) (hp : g q = .ptr id off) (hs : sees o (ev g) ob = true) : isArr ob = false := by
 unfold slotA at h
 unfold sees at hs
 split at h
 ·rename_i ho
  split at h
  ·cases h
   rw [ho] at hs
   have hs : (match g q with | .ptr _ _ => !isArr ob | _ => true) = true := hs
   rw [hp] at hs
   simpa using hs
  ·cases h
 ·rename_i ho
  split at h
  ·cases h
   rw [ho] at hs
   have hs : (match g q with | .ptr _ _ => !isArr ob | _ => true) = true := hs
   rw [hp] at hs
   simpa using hs
  ·cases h
 ·cases h
theorem store_cells {C : Cx} {ops : Array Oper} {h : Hp} {nid nid' : Nat} {g : Nat → AV} {o : Oper} {p : Nat} (hs : slotA o = some p) (hm : memW o = true) (hp : PC (g p)) {v : AV} {ob : Option AObj} (his : (opRd C ops h nid (ev g) o).Is v ob) : ∃ T cs, h[posR nid' (ev g) o]? = some (.cells T cs) := by
 unfold slotA at hs
 unfold memW at hm
 split at hs
 ·rename_i t a x ho
  have hd : drX ops (ev g) o = false := by unfold drX drN drA drS drW drK kS; simp only [ho, Bool.false_and, Bool.or_false]
  unfold opRd at his
  rw [hd] at his
  unfold opR at his
  simp only [ho] at his
  split at hs
  ·cases hs
   have hpos : posR nid' (ev g) o = pid (g p) := by unfold posR; rw [ho]; rfl
   rw [hpos]
   have his : (pStore C.tb h t (g p) (ev g x)).Is v ob := his
   rcases hp with hp | hp | ⟨id', o', hp⟩
   ·rw [hp] at his
    unfold pStore at his
    split at his
    ·exact his.elim
    ·exact his.elim
   ·rw [hp] at his
    unfold pStore at his
    split at his
    ·exact his.elim
    ·exact his.elim
   ·rw [hp] at his ⊢
    unfold pStore at his
    split at his
    ·simp only at his
     split at his
     ·rename_i hc; exact ⟨_, _, hc⟩
     ·exact his.elim
    ·exact his.elim
  ·cases hs
 ·rename_i t a ho
  rw [ho] at hm
  cases hm
 ·cases hs
theorem mcF_true {f : Tr} (T : Trc sg C ops base G H V B E) (h0 : G 0 = f.get) : ∀ i j x o id, sg i = true → ops[i]? = some x → ops[j]? = some o → (∃ ob, B i = some ob) → posR (base + i) (ev (G i)) x = id → memW x = true → (∃ ob, (maskH o (ev (G j)) (H j))[id]? = some ob ∧ ob.alive = true) → mcF f ops x o = true := by
 intro i j x o id hsi hx ho hob hpos hm hl
 have hi := ops_lt hx
 have hj := ops_lt ho
 obtain ⟨ob, hob⟩ := hob
 have tk := T.tk i x hx hsi
 obtain ⟨ob2, hl1, hl2⟩ := hl
 obtain ⟨_, hl3, ⟨u, hu, hid⟩, hl4⟩ := maskH_get hl1 hl2
 unfold mcF
 split
 ·rename_i a b ha hb
  unfold ptrId at ha hb
  split at ha
  ·rename_i p hp
   split at hb
   ·rename_i q hq
    have h1 := slot_PS T h0 _ _ _ ha i (by omega)
    have h2 := slot_PS T h0 _ _ _ hb j (by omega)
    have hpa := store_PS (nid' := base + i) hp hm h1 (tk.exe (tk.ran hob))
    rw [slotA_looks hq, List.mem_singleton] at hu
    subst hu
    have hid : id ∈ idsM o (G j q) := hid
    rw [idsM_no h2.raw] at hid
    have := h2.ids hid
    rw [← hpa, hpos, this]
    exact Nat.beq_refl _
   ·cases hb
  ·cases ha
 ·cases hc : (cellW f ops x && arrOnly o) || (appO x && !(drS ops x || kS ops x) && cellW f ops o) with
  | false => rfl
  | true =>
   exfalso
   rw [Bool.or_eq_true, Bool.and_eq_true, Bool.and_eq_true (appO x && !(drS ops x || kS ops x))] at hc
   rcases hc with ⟨hc1, hc2⟩ | ⟨hc1, hc2⟩
   ·unfold cellW at hc1
    split at hc1
    ·rename_i p hp
     have h1 := slot_PC T h0 _ _ hc1 i (by omega)
     obtain ⟨Tc, cs, hcell⟩ := store_cells (nid' := base + i) hp hm h1 (tk.exe (tk.ran hob))
     obtain ⟨_, hHi, _⟩ := maskH_get hcell rfl
     rw [hpos] at hHi
     have harr := sees_arr hc2 hl4
     rcases Nat.le_total i j with hij | hij
     ·obtain ⟨o', q1, q2, q3⟩ := T.kind (q := false) (k := i) (id := id) (j - i) (by omega) ⟨_, hHi, rfl, rfl⟩
      rw [show i + (j - i) = j by omega, hl3] at q1
      cases q1
      have q3 := q3 (q2 rfl); rw [harr] at q3; cases q3
     ·obtain ⟨o', q1, q2, q3⟩ := T.kind (q := true) (k := j) (id := id) (i - j) (by omega) ⟨_, hl3, hl2, harr⟩
      rw [show j + (i - j) = i by omega, hHi] at q1
      cases q1
      have q3 := q3 rfl; cases q3
    ·cases hc1
   ·unfold cellW at hc2
    split at hc2
    ·rename_i q hq
     have h2 := slot_PC T h0 _ _ hc2 j (by omega)
     rw [slotA_looks hq, List.mem_singleton] at hu
     subst hu
     have hid : id ∈ idsM o (G j q) := hid
     have hcell : isArr ob2 = false := by
      rcases h2 with h2 | h2 | ⟨id', o', h2⟩
      ·rw [h2, idsM_no rfl] at hid; simp [idsV] at hid
      ·rw [h2, idsM_no rfl] at hid; simp [idsV] at hid
      ·exact sees_cell hq h2 hl4
     rw [Bool.and_eq_true, Bool.not_eq_true'] at hc1
     obtain ⟨hc1, hds⟩ := hc1
     rw [Bool.or_eq_false_iff] at hds
     have hd : drX ops (ev (G i)) x = false := by
      unfold appO at hc1
      unfold drX drN drA drW drK
      rw [hds.1, hds.2]
      split at hc1
      ·rename_i ho; rw [ho]; rfl
      ·cases hc1
     have hr := tk.exe (tk.ran hob)
     rw [hob] at hr
     unfold opRd at hr
     rw [hd] at hr
     have harr := mem_arr hr hc1
     -- behind x the block is an array
     have hlt : posR (base + i) (ev (G i)) x < (H i).length := by rw [T.lenk _ (by omega)]; exact T.plt hx hsi hob
     have hat : ∃ o', (H (i + 1))[id]? = some o' ∧ isArr o' = true := by
      rw [tk.hp, hob]
      simp only [putO]
      rw [put_get hlt, if_pos hpos.symm]
      exact ⟨ob, rfl, harr⟩
     obtain ⟨o1, ho1, ha1⟩ := hat
     have hal : o1.alive = true := by
      cases o1 <;> first | rfl | cases ha1
     rcases Nat.lt_or_ge i j with hij | hij
     ·obtain ⟨o', q1, q2, q3⟩ := T.kind (q := true) (k := i + 1) (id := id) (j - (i + 1)) (by omega) ⟨_, ho1, hal, ha1⟩
      rw [show i + 1 + (j - (i + 1)) = j by omega, hl3] at q1
      cases q1
      have q3 := q3 hl2; rw [hcell] at q3; cases q3
     ·obtain ⟨o', q1, q2, q3⟩ := T.kind (q := false) (k := j) (id := id) (i + 1 - j) (by omega) ⟨_, hl3, hl2, hcell⟩
      rw [show j + (i + 1 - j) = i + 1 by omega, ho1] at q1
      cases q1
      have q3 := q3 (q2 rfl); rw [ha1] at q3; cases q3
    ·cases hc2
/-! ### Stores to other cells of one block -/
def PP (id off : Nat) (v : AV) : Prop := v = .any ∨ v = .und ∨ v = .ptr id off
theorem PP.of_shape {id off : Nat} {v : AV} (h : shapeP id off v = true) : PP id off v := by
 unfold shapeP at h
 split at h
 ·exact .inl rfl
 ·exact .inr (.inl rfl)
 ·rw [Bool.and_eq_true] at h
  have h1 := Nat.eq_of_beq_eq_true h.1
  have h2 := Nat.eq_of_beq_eq_true h.2
  subst h1 h2
  exact .inr (.inr rfl)
 ·cases h
theorem step_PP {C : Cx} {ops : Array Oper} {h : Hp} {nid : Nat} {g : Nat → AV} {o : Oper} {b d id off : Nat} (hc : stepP C.tb o = some (b, d)) (hb : PP id off (g b)) {v : AV} {ob : Option AObj} (his : (opRd C ops h nid (ev g) o).Is v ob) : PP id (off + d) v := by
 unfold stepP at hc
 unfold opRd at his
 split at hc
 ·rename_i t x k ho
  have hd : drX ops (ev g) o = false := by unfold drX drN drA drS drW drK kS; simp only [ho, Bool.false_and, Bool.or_false]
  rw [hd] at his
  unfold opR pop at his
  simp only [ho] at his
  split at hc
  ·rename_i b' ti hx hl
   split at hc
   ·rename_i fs hk
    split at hc
    ·rename_i ft off' hf
     cases hc
     unfold tmpOf at hx
     split at hx
     ·cases hx
      have his : (pFieldAddr C.tb t (g b) k).Is v ob := his
      unfold pFieldAddr at his
      simp only [hl, hk, hf] at his
      split at his
      ·exact his.elim
      ·rcases hb with hb | hb | hb <;> rw [hb] at his <;> simp only [Res.Is] at his
       rw [← his.1]; exact .inr (.inr rfl)
     ·cases hx
    ·cases hc
   ·cases hc
  ·cases hc
 ·rename_i x ho
  have hd : drX ops (ev g) o = false := by unfold drX drN drA drS drW drK kS; simp only [ho, Bool.false_and, Bool.or_false]
  rw [hd] at his
  unfold opR pop at his
  simp only [ho] at his
  split at hc
  ·rename_i b' hx
   cases hc
   unfold tmpOf at hx
   split at hx
   ·cases hx
    have his : (pNilCheck (g b)).Is v ob := his
    rcases hb with hb | hb | hb <;> rw [hb] at his <;> simp only [pNilCheck, Res.Is] at his
    rw [← his.1]; exact .inr (.inr rfl)
   ·cases hx
  ·cases hc
 ·rename_i x ho
  have hd : drX ops (ev g) o = false := by unfold drX drN drA drS drW drK kS; simp only [ho, Bool.false_and, Bool.or_false]
  rw [hd] at his
  unfold opR pop at his
  simp only [ho] at his
  split at hc
  ·rename_i b' hx
   cases hc
   unfold tmpOf at hx
   split at hx
   ·cases hx
    have his : (pMove C.tb nid o.type (g b)).Is v ob := his
    rcases hb with hb | hb | hb <;> rw [hb] at his <;> simp only [pMove, Res.Is] at his
    ·rw [← his.1]; exact .inr (.inl rfl)
    ·rw [← his.1]; exact .inr (.inr rfl)
   ·cases hx
  ·cases hc
 ·cases hc
theorem slot_PP (T : Trc sg C ops base G H V B E) {f : Tr} (h0 : G 0 = f.get) : ∀ (n a id off : Nat), slotP C.tb f ops.toList n a = some (id, off) → ∀ k, k ≤ ops.size → PP id off (G k a)
 | 0, a, id, off, h, k, _ => by cases h
 | n + 1, a, id, off, h, k, hk => by
  simp only [slotP] at h
  split at h
  ·rename_i hw
   rw [T.still hw hk, h0]
   split at h
   ·rename_i hv; cases h; rw [hv]; exact .inr (.inr rfl)
   ·cases h
  ·rename_i o hw
   split at h
   ·rename_i b d hb
    split at h
    ·rename_i id' off' hid
     split at h
     ·rename_i hs
      cases h
      have ih := slot_PP T h0 n b id off' hid
      induction k with
      | zero => rw [h0]; exact PP.of_shape hs
      | succ k ihk =>
       obtain ⟨x, hx⟩ := ops_get (show k < ops.size by omega)
       cases hsg : sg k with
       | false => rw [(T.stay k (by omega) hsg).1]; exact ihk (by omega)
       | true =>
        have tk := T.tk k x hx hsg
        by_cases hd : x.dst = some a
        ·have hm : x ∈ wrs a ops.toList := by
          obtain ⟨hl, he⟩ := Array.getElem?_eq_some_iff.1 hx
          exact wrs_mem (by rw [← he]; exact Array.mem_toList_iff.2 (Array.getElem_mem hl)) hd
         rw [hw, List.mem_singleton] at hm
         subst hm
         rcases tk.geq a hd with e | e <;> rw [e]
         ·cases hE : E k with
          | false => rw [(tk.skp hE).1]; exact .inr (.inl rfl)
          | true => exact step_PP hb (ih k (by omega)) (tk.exe hE)
         ·exact .inl rfl
        ·rw [tk.gne a hd]; exact ihk (by omega)
     ·cases h
    ·cases h
   ·cases h
  ·cases h
theorem Trc.cellsK (T : Trc sg C ops base G H V B E) {id n : Nat} {Tc : TypeId} (hid : id < base) : ∀ k, k ≤ ops.size → (∃ cs, (H 0)[id]? = some (.cells Tc cs) ∧ cs.length = n) → ∃ cs, (H k)[id]? = some (.cells Tc cs) ∧ cs.length = n
 | 0, _, h => h
 | k + 1, hk, h => by
  obtain ⟨cs, h1, h2⟩ := T.cellsK hid k (by omega) h
  obtain ⟨x, hx⟩ := ops_get (show k < ops.size by omega)
  cases hs : sg k with
  | false => rw [(T.stay k (by omega) hs).2]; exact ⟨cs, h1, h2⟩
  | true =>
   have tk := T.tk k x hx hs
   rw [tk.hp]
   cases hb : B k with
   | none => exact ⟨cs, h1, h2⟩
   | some ob =>
    have hlt : posR (base + k) (ev (G k)) x < (H k).length := by rw [T.lenk _ (by omega)]; exact T.plt hx hs hb
    simp only [putO]
    rw [put_get hlt]
    by_cases he : id = posR (base + k) (ev (G k)) x
    ·rw [if_pos he]
     have hn : posR (base + k) (ev (G k)) x ≠ base + k := by omega
     have hr := tk.exe (tk.ran hb)
     rw [hb] at hr
     have hmw : memW x = true := by
      rcases tk.posc hb with h | ⟨h, _⟩
      ·exact absurd h hn
      ·exact h
     have hdr : drX ops (ev (G k)) x = false := by
      cases hdx : drX ops (ev (G k)) x with
      | false => rfl
      | true =>
       exfalso
       unfold opRd at hr
       rw [hdx] at hr
       obtain ⟨g, T', t, l, f, e1, _, _⟩ := lstR_is hr
       obtain ⟨oo, k1, k2, k3, k4⟩ := mem_kind e1 hmw hn
       obtain ⟨_, k5, _⟩ := maskH_get k1 k2
       rw [← he, h1] at k5
       cases k5
       cases k4
     unfold opRd at hr
     rw [hdr] at hr
     obtain ⟨oo, k1, k2, _, _⟩ := mem_kind hr hmw hn
     obtain ⟨_, k5, _⟩ := maskH_get k1 k2
     rw [← he, h1] at k5
     cases k5
     obtain ⟨cs', e1, e2⟩ := mem_cells hr hmw hn k1
     exact ⟨cs', by rw [e1], by rw [e2]; exact h2⟩
    ·rw [if_neg he]
     exact ⟨cs, h1, h2⟩
def newS (tb : Tb) (g : Nat → AV) (o : Oper) : List AV := match o.op with
 | .store T _ x => (cellsOf (tyNil tb T (ev g x))).getD []
 | _ => []
def prtK (tb : Tb) (f : Tr) (h : Hp) (ops : Array Oper) (G : Nat → Nat → AV) : Prt := fun k => match ops[k]? with
 | some o => match prtS tb f h ops o with
  | some p => some (p.1, p.2.1, p.2.2, newS tb (G k) o)
  | none => none
 | none => none
theorem PRok.known {f : Tr} {hc : Hp} (T : Trc sg C ops base G H V B E) (h0 : G 0 = f.get) (hh : ∀ (id : Nat) o, hc[id]? = some o → (H 0)[id]? = some o ∧ id < base) : PRok C ops sg base G H V B E (prtK C.tb f hc ops G) := by
 intro k o p hs ho hp hE
 have hk := ops_lt ho
 unfold prtK at hp
 rw [ho] at hp
 simp only at hp
 split at hp
 ·rename_i q hq
  cases hp
  unfold prtS at hq
  split at hq
  ·rename_i Ts a xv hop
   split at hq
   ·rename_i a
    split at hq
    ·rename_i id off hsl
     split at hq
     ·rename_i ti Tc cs0 hl hcell
      split at hq
      ·rename_i hble
       cases hq
       have hble := Nat.le_of_ble_eq_true hble
       obtain ⟨hH0, hid⟩ := hh id _ hcell
       have hkind := fun j hj => T.cellsK (n := cs0.length) (Tc := Tc) hid j hj ⟨cs0, hH0, rfl⟩
       have hpp := slot_PP T h0 _ _ _ _ hsl k (by omega)
       have hd : drX ops (ev (G k)) o = false := by unfold drX drN drA drS drW drK kS; simp only [hop, Bool.false_and, Bool.or_false]
       have tk := T.tk k o ho hs
       have hx := tk.exe hE
       unfold opRd at hx
       rw [hd] at hx
       unfold opR at hx
       simp only [hop] at hx
       have hx : (pStore C.tb (maskH o (ev (G k)) (H k)) Ts (G k a) (ev (G k) xv)).Is (V k) (B k) := hx
       unfold pStore at hx
       rw [hl] at hx
       simp only at hx
       split at hx
       ·rename_i ti' new hl2 hnew
        cases hl2
        rcases hpp with hv | hv | hv
        ·rw [hv] at hx; exact hx.elim
        ·rw [hv] at hx; exact hx.elim
        ·rw [hv] at hx
         simp only at hx
         split at hx
         ·rename_i Tc2 cs2 hm2
          split at hx
          ·rename_i hb2
           obtain ⟨hV, hB⟩ := hx
           rw [Bool.and_eq_true] at hb2
           have hnl := Nat.eq_of_beq_eq_true hb2.1
           obtain ⟨_, hHk, _⟩ := maskH_get hm2 rfl
           obtain ⟨cs3, e1, e2⟩ := hkind k (by omega)
           rw [hHk] at e1
           cases e1
           have hns : newS C.tb (G k) o = new := by unfold newS; rw [hop]; simp only; rw [hnew]; rfl
           have hpos : posR (base + k) (ev (G k)) o = id := by
            unfold posR; rw [hop]
            show pid (G k a) = id
            rw [hv]; rfl
           refine ⟨Tc, cs0.length, ⟨hkind, by rw [hns, hnl]; exact hble, by rw [hns, hnl], hpos, hid, by unfold memW; rw [hop], ⟨cs2, hHk, by rw [hns]; exact hB.symm⟩, ?_⟩⟩
           intro h' cs' hc' hlen'
           rw [hns]
           unfold opRd
           rw [hd]
           unfold opR
           simp only [hop]
           show (pStore C.tb h' Ts (G k a) (ev (G k) xv)).Is _ _
           unfold pStore
           rw [hl, hnew, hv]
           simp only
           rw [hc']
           simp only
           have : (Nat.beq new.length ti.size && Nat.ble (off + new.length) cs'.length) = true := by
            rw [Bool.and_eq_true]
            exact ⟨hb2.1, Nat.ble_eq_true_of_le (by rw [hnl, hlen']; exact hble)⟩
           rw [this]
           exact ⟨hV, rfl⟩
          ·exact hx.elim
         ·exact hx.elim
       ·exact hx.elim
      ·cases hq
     ·cases hq
    ·cases hq
   ·cases hq
  ·cases hq
 ·cases hp
theorem prtS_PP {f : Tr} {hc : Hp} (T : Trc sg C ops base G H V B E) (h0 : G 0 = f.get) {o : Oper} {p : Nat × Nat × Nat} (h : prtS C.tb f hc ops o = some p) : ∃ a, slotA o = some a ∧ ∀ k, k ≤ ops.size → PP p.1 p.2.1 (G k a) := by
 unfold prtS at h
 split at h
 ·rename_i Ts a xv hop
  split at h
  ·rename_i a
   split at h
   ·rename_i id off hsl
    split at h
    ·split at h
     ·cases h
      exact ⟨a, by unfold slotA; rw [hop], slot_PP T h0 _ _ _ _ hsl⟩
     ·cases h
    ·cases h
   ·cases h
  ·cases h
 ·cases h
theorem MCok.known {f : Tr} {hc : Hp} (T : Trc sg C ops base G H V B E) (h0 : G 0 = f.get) (hh : ∀ (id : Nat) o, hc[id]? = some o → (H 0)[id]? = some o ∧ id < base) : MCok (mcP C.tb f hc ops) ops sg base G H B (prtK C.tb f hc ops G) := by
 intro i j x o id hsi hx ho hob hpos hm hl
 unfold mcP
 cases hpx : prtS C.tb f hc ops x with
 | none => exact .inl (mcF_true T h0 i j x o id hsi hx ho hob hpos hm hl)
 | some p =>
  cases hpo : prtS C.tb f hc ops o with
  | none => exact .inl (mcF_true T h0 i j x o id hsi hx ho hob hpos hm hl)
  | some q =>
   have hi := ops_lt hx
   have hj := ops_lt ho
   obtain ⟨ob, hob⟩ := hob
   have tk := T.tk i x hx hsi
   obtain ⟨a, ha, hPa⟩ := prtS_PP T h0 hpx
   obtain ⟨b, hb, hPb⟩ := prtS_PP T h0 hpo
   obtain ⟨ob2, hl1, hl2⟩ := hl
   obtain ⟨_, hl3, ⟨u, hu, hid⟩, hl4⟩ := maskH_get hl1 hl2
   rw [slotA_looks hb, List.mem_singleton] at hu
   subst hu
   have hid : id ∈ idsM o (G j b) := hid
   have hidq : id = q.1 := by
    rcases hPb j (by omega) with h | h | h
    ·rw [h, idsM_no rfl] at hid; simp [idsV] at hid
    ·rw [h, idsM_no rfl] at hid; simp [idsV] at hid
    ·rw [h, idsM_no rfl] at hid; simpa [idsV] using hid
   have hps : PS p.1 (G i a) := by
    rcases hPa i (by omega) with h | h | h
    ·exact .inl h
    ·exact .inr (.inl h)
    ·exact .inr (.inr (.inl ⟨_, h⟩))
   have hpa := store_PS (nid' := base + i) ha hm hps (tk.exe (tk.ran hob))
   have heq : p.1 = q.1 := by rw [← hpa, hpos, hidq]
   obtain ⟨p1, p2, p3⟩ := p
   obtain ⟨q1, q2, q3⟩ := q
   cases hap : apart p2 p3 q2 q3 with
   | false =>
    left
    simp only at heq
    subst heq
    simp [hap]
   | true =>
    right
    unfold apart at hap
    rw [Bool.or_eq_true] at hap
    refine ⟨_, _, by unfold prtK; rw [hx]; simp only; rw [hpx], by unfold prtK; rw [ho]; simp only; rw [hpo], ?_⟩
    rcases hap with h | h
    ·exact .inl (Nat.le_of_ble_eq_true h)
    ·exact .inr (Nat.le_of_ble_eq_true h)
/-! ### By what a run has left -/
theorem writes_mem {t : Nat} : ∀ {l : List Oper}, writesT t l = false → ∀ o ∈ l, o.dst ≠ some t
 | [], _, o, ho => by simp at ho
 | x :: l, h, o, ho => by
  simp only [writesT, Bool.or_eq_false_iff] at h
  rcases List.mem_cons.1 ho with rfl | ho
  ·intro hd
   have h1 := h.1
   rw [hd] at h1
   simp at h1
  ·exact writes_mem h.2 o ho
theorem ssa_spec : ∀ {l : List Oper}, ssaGo l = true → ∀ (j : Nat) (o : Oper) (t : Nat), l[j]? = some o → memT o = true → Operand.tmp t ∈ o.op.operands → ∀ (k : Nat) (y : Oper), j ≤ k → l[k]? = some y → y.dst ≠ some t
 | [], _, j, o, t, ho, _, _ => by simp at ho
 | x :: l, h, j, o, t, ho, hmt, ht => by
  simp only [ssaGo, Bool.and_eq_true] at h
  intro k y hk hy
  cases j with
  | zero =>
   simp only [List.getElem?_cons_zero, Option.some.injEq] at ho
   subst ho
   have h1 := h.1
   rw [hmt, Bool.not_true, Bool.false_or] at h1
   unfold ssaO at h1
   rw [List.all_eq_true] at h1
   have h2 := h1 _ (Array.mem_toList_iff.2 ht)
   simp only [Bool.not_eq_true'] at h2
   exact writes_mem h2 y (List.mem_of_getElem? hy)
  | succ j =>
   cases k with
   | zero => omega
   | succ k => exact ssa_spec h.2 j o t (by simpa using ho) hmt ht k y (by omega) (by simpa using hy)
theorem Trc.frozen (T : Trc sg C ops base G H V B E) {t j : Nat} (hw : ∀ (k : Nat) (y : Oper), j ≤ k → ops[k]? = some y → y.dst ≠ some t) : ∀ d, j + d ≤ ops.size → G (j + d) t = G j t
 | 0, _ => rfl
 | d + 1, hd => by
  have ih := T.frozen hw d (by omega)
  obtain ⟨x, hx⟩ := ops_get (show j + d < ops.size by omega)
  rw [← ih, show j + (d + 1) = j + d + 1 by omega]
  cases hs : sg (j + d) with
  | false => rw [(T.stay _ (by omega) hs).1]
  | true => exact (T.tk _ x hx hs).gne t (hw _ x (by omega) hx)
theorem Trc.evs (T : Trc sg C ops base G H V B E) (hssa : ssaGo ops.toList = true) {j : Nat} {o : Oper} (ho : ops[j]? = some o) (hmt : memT o = true) {x : Operand} (hx : x ∈ o.op.operands) : ev (G ops.size) x = ev (G j) x := by
 cases x with
 | tmp t =>
  have hj := ops_lt ho
  have := T.frozen (t := t) (j := j) (fun k y hk hy => ssa_spec hssa j o t (by simpa using ho) hmt hx k y hk (by simpa using hy)) (ops.size - j) (by omega)
  rw [show j + (ops.size - j) = ops.size by omega] at this
  exact this
 | _ => rfl
theorem seesE_mem {g : Nat → AV} {id : Nat} : ∀ {l : List Operand}, (∃ u ∈ l, id ∈ idsV (ev g u) ++ rawI (ev g u)) → seesE g id l = true
 | [], h => by obtain ⟨u, hu, _⟩ := h; simp at hu
 | x :: l, ⟨u, hu, hid⟩ => by
  simp only [seesE, Bool.or_eq_true]
  rcases List.mem_cons.1 hu with rfl | hu
  ·exact .inl (hasId_iff.2 hid)
  ·exact .inr (seesE_mem ⟨u, hu, hid⟩)
theorem posE_pos {g : Nat → AV} {x : Oper} {id nid : Nat} (h : posE g x = some id) : posR nid (ev g) x = id := by
 unfold posE at h
 unfold posR
 split at h
 ·rename_i ho
  unfold ptrOf at h
  split at h
  ·rename_i hv; rw [hv]; cases h; rfl
  ·rename_i hv; rw [hv]; cases h; rfl
  ·cases h
 ·rename_i c ho
  show posC nid (ev g) c = id
  unfold posC
  split at h
  ·rename_i hc ha ht
   split at h
   ·rename_i hv; rw [hv]; cases h; rfl
   ·cases h
  ·rename_i hc ha ht
   split at h
   ·rename_i hv; rw [hv]; cases h; rfl
   ·rename_i hv; rw [hv]; cases h; rfl
   ·cases h
  ·cases h
 ·cases h
theorem posE_ev {g g' : Nat → AV} {x : Oper} (he : ∀ u ∈ x.op.operands, ev g u = ev g' u) : posE g x = posE g' x := by
 unfold posE
 split
 ·rename_i ho
  rw [he _ (by rw [ho]; simp [Op.operands])]
 ·rename_i c ho
  split
  ·rename_i s y _ _ hc ha ht
   rw [he s (by rw [ho]; show s ∈ c.operands; have : s ∈ c.args := (by rw [← Array.mem_toList_iff, ha]; simp); simp [Call.operands, this])]
  ·rename_i s y _ _ hc ha ht
   rw [he s (by rw [ho]; show s ∈ c.operands; have : s ∈ c.args := (by rw [← Array.mem_toList_iff, ha]; simp); simp [Call.operands, this])]
  ·rfl
 ·rfl
theorem MCok.left (T : Trc sg C ops base G H V B E) (hssa : ssaGo ops.toList = true) {g : Nat → AV} (hg : G ops.size = g) : MCok (mcE ops g) ops sg base G H B (fun _ => Option.none) := by
 intro i j x o id hsi hx ho hob hpos hm hl
 subst hg
 left
 obtain ⟨ob2, hl1, hl2⟩ := hl
 obtain ⟨_, hl3, ⟨u, hu, hid⟩, _⟩ := maskH_get hl1 hl2
 have hmo : memT o = true := by
  cases hmt : memT o with
  | true => rfl
  | false =>
   exfalso
   unfold maskH at hl1
   rw [hmt] at hl1
   simp at hl1
 unfold mcE
 have hmxT := memW_T hm
 rw [drN_congr (ops := ops) (fun u hu => T.evs hssa hx hmxT hu)]
 split
 ·rename_i hdx
  exfalso
  obtain ⟨ob, hob⟩ := hob
  have tk := T.tk i x hx hsi
  have hr := tk.exe (tk.ran hob)
  rw [hob] at hr
  unfold opRd at hr
  have hdxx : drX ops (ev (G i)) x = true := by unfold drX; rw [hdx]; rfl
  rw [hdxx] at hr
  obtain ⟨_, _, _, _, _, _, _, hde⟩ := lstR_is hr
  cases hde
  have hp := drN_pos hdx (base + i)
  rw [hpos] at hp
  subst hp
  have hi := ops_lt hx
  have hj := ops_lt ho
  have hij := T.made j (by omega) i hi _ hl3 hl2
  have hgo : ∀ o, (H (i + 1))[base + i]? = some o → o.alive = false := by
   intro oo hoo
   rw [tk.hp, hob] at hoo
   simp only [putO] at hoo
   rw [hpos, put_get (by rw [T.lenk _ (by omega)]; omega), if_pos rfl] at hoo
   cases hoo; rfl
  have := T.gone (id := base + i) (k := i + 1) (fun c hc => by omega) hgo (j - (i + 1)) (by omega) ob2 (by rw [show i + 1 + (j - (i + 1)) = j by omega]; exact hl3)
  rw [hl2] at this; cases this
 cases hmx : memT x with
 | false =>
  have hp : posE (G ops.size) x = none := by
   unfold posE
   unfold memT at hmx
   split
   ·rename_i ho; rw [ho] at hmx; cases hmx
   ·rename_i c ho
    rw [ho] at hmx
    split
    ·rename_i hc _ _; simp only [hc] at hmx; cases hmx
    ·rename_i hc _ _; simp only [hc] at hmx; cases hmx
    ·rfl
   ·rfl
  rw [hp]
 | true =>
  rw [posE_ev (fun u hu => T.evs hssa hx hmx hu)]
  split
  ·rename_i id' hp
   have := posE_pos (nid := base + i) hp
   rw [hpos] at this
   subst this
   refine seesE_mem ⟨u, hu, ?_⟩
   rw [T.evs hssa ho hmo (looks_sub hu)]
   exact idsM_sub hid
  ·rfl
end
end Av
