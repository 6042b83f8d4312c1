/-
  An abstract reading of values and memory: a region whose order is drawn does what is reckoned.
-/
import Derived.Test.YtkjoofinfhdcaaaAvj
namespace Av
open Go

def wH (sg : Nat → Bool) (ops : Array Oper) (base : Nat) (G : Nat → Nat → AV) (B : Nat → Option AObj) (id k : Nat) : Bool := match ops[k]?, sg k with
  | some o, true => (B k).isSome && decide (posR (base + k) (ev (G k)) o = id)
  | _, _ => false
def wF (sg : Nat → Bool) (ops : Array Oper) (t k : Nat) : Bool := match ops[k]?, sg k with
  | some o, true => decide (o.dst = some t)
  | _, _ => false
theorem put_len {h : Hp} {nid : Nat} {ob : AObj} (hlt : nid < h.length) : (put h nid ob).length = h.length := by
  unfold put
  rw [if_pos hlt, List.length_set]
theorem ops_get {ops : Array Oper} {j : Nat} (hj : j < ops.size) : ∃ o, ops[j]? = some o := ⟨_, Array.getElem?_eq_getElem hj⟩
theorem ops_lt {ops : Array Oper} {j : Nat} {o : Oper} (ho : ops[j]? = some o) : j < ops.size := (Array.getElem?_eq_some_iff.1 ho).1

/-- A run in the order of the text, whole. -/
structure Trc (sg : Nat → Bool) (C : Cx) (ops : Array Oper) (base : Nat) (G : Nat → Nat → AV) (H : Nat → Hp) (V : Nat → AV) (B : Nat → Option AObj) (E : Nat → Bool) : Prop where
  tk : ∀ k o, ops[k]? = some o → sg k = true → Tk C ops base G H V B E k o
  stay : ∀ k, k < ops.size → sg k = false → G (k + 1) = G k ∧ H (k + 1) = H k
  len : (H 0).length = base + ops.size
  rsv : ∀ c, c < ops.size → (H 0)[base + c]? = some .resv
section
variable {sg : Nat → Bool} {C : Cx} {ops : Array Oper} {base : Nat} {G : Nat → Nat → AV} {H : Nat → Hp} {V : Nat → AV} {B : Nat → Option AObj} {E : Nat → Bool}
theorem Tk.ran {k : Nat} {o : Oper} (tk : Tk C ops base G H V B E k o) {ob : AObj} (hb : B k = some ob) : E k = true := by
  cases he : E k with
  | true => rfl
  | false => have := (tk.skp he).2; rw [hb] at this; cases this
theorem Tk.posc {k : Nat} {o : Oper} (tk : Tk C ops base G H V B E k o) {ob : AObj} (hb : B k = some ob) : posR (base + k) (ev (G k)) o = base + k ∨
    (memW o = true ∧ ∃ oo, (H k)[posR (base + k) (ev (G k)) o]? = some oo ∧ oo.alive = true ∧ ∃ x ∈ o.op.operands, posR (base + k) (ev (G k)) o ∈ idsV (ev (G k) x)) := by
  have h := tk.exe (tk.ran hb)
  rw [hb] at h
  obtain ⟨_, _, h⟩ := opRd_some h
  rcases pos_cases h with h1 | ⟨h1, oo, h2, h3⟩
  · exact .inl h1
  · obtain ⟨_, h4, h5⟩ := maskH_get h2 h3
    exact .inr ⟨h1, oo, h4, h3, h5⟩
theorem Trc.lenk (T : Trc sg C ops base G H V B E) : ∀ j, j ≤ ops.size → (H j).length = base + ops.size
  | 0, _ => T.len
  | j + 1, hj => by
    obtain ⟨o, ho⟩ := ops_get (show j < ops.size by omega)
    have ih := T.lenk j (by omega)
    cases hs : sg j with
    | false => rw [(T.stay j (by omega) hs).2]; exact ih
    | true =>
    have tk := T.tk j o ho hs
    rw [tk.hp]
    cases hb : B j with
    | none => exact ih
    | some ob =>
      have hlt : posR (base + j) (ev (G j)) o < (H j).length := by
        rcases tk.posc hb with h | ⟨_, oo, h, _⟩
        · rw [h, ih]; omega
        · exact (List.getElem?_eq_some_iff.1 h).1
      simp only [putO]
      rw [put_len hlt]
      exact ih
theorem Trc.plt (T : Trc sg C ops base G H V B E) {j : Nat} {o : Oper} (ho : ops[j]? = some o) (hs : sg j = true) {ob : AObj} (hb : B j = some ob) : posR (base + j) (ev (G j)) o < base + ops.size := by
  have hj := ops_lt ho
  have ih := T.lenk j (by omega)
  rcases (T.tk j o ho hs).posc hb with h | ⟨_, oo, h, _⟩
  · rw [h]; omega
  · rw [← ih]; exact (List.getElem?_eq_some_iff.1 h).1
theorem Trc.step (T : Trc sg C ops base G H V B E) {j : Nat} {o : Oper} (ho : ops[j]? = some o) (id : Nat) : (H (j + 1)).getD id .dead = bif wH sg ops base G B id j then (H (j + 1)).getD id .dead else (H j).getD id .dead := by
  cases hw : wH sg ops base G B id j with
  | true => rfl
  | false =>
    simp only [cond_false]
    cases hs : sg j with
    | false => rw [(T.stay j (ops_lt ho) hs).2]
    | true =>
    have tk := T.tk j o ho hs
    unfold wH at hw
    rw [ho, hs] at hw
    simp only [Bool.and_eq_false_iff, decide_eq_false_iff_not] at hw
    rw [tk.hp]
    cases hb : B j with
    | none => rfl
    | some ob =>
      rw [hb] at hw
      simp only [Option.isSome_some, Bool.true_eq_false, false_or] at hw
      have hlt : posR (base + j) (ev (G j)) o < (H j).length := by rw [T.lenk j (by have := ops_lt ho; omega)]; exact T.plt ho hs hb
      simp only [putO, List.getD_eq_getElem?_getD]
      rw [put_get hlt, if_neg (fun e => hw e.symm)]
theorem Trc.hget (T : Trc sg C ops base G H V B E) (id : Nat) : ∀ j, j ≤ ops.size → (H j).getD id .dead = LW (wH sg ops base G B id) (fun i => (H (i + 1)).getD id .dead) ((H 0).getD id .dead) (fun _ => true) j
  | 0, _ => rfl
  | j + 1, hj => by
    obtain ⟨o, ho⟩ := ops_get (show j < ops.size by omega)
    rw [T.step ho, T.hget id j (by omega)]
    rfl
theorem Trc.fget (T : Trc sg C ops base G H V B E) (t : Nat) : ∀ j, j ≤ ops.size → G j t = LW (wF sg ops t) (fun i => G (i + 1) t) (G 0 t) (fun _ => true) j
  | 0, _ => rfl
  | j + 1, hj => by
    obtain ⟨o, ho⟩ := ops_get (show j < ops.size by omega)
    simp only [LW, Bool.true_and]
    rw [← T.fget t j (by omega)]
    cases hw : wF sg ops t j with
    | true => rfl
    | false =>
      cases hs : sg j with
      | false => simp only [cond_false]; rw [(T.stay j (by omega) hs).1]
      | true =>
      unfold wF at hw
      rw [ho, hs] at hw
      exact (T.tk j o ho hs).gne t (of_decide_eq_false hw)
theorem Trc.made (T : Trc sg C ops base G H V B E) : ∀ j, j ≤ ops.size → ∀ c, c < ops.size → ∀ x, (H j)[base + c]? = some x → x.alive = true → c < j
  | 0, _, c, hc, x, hx, ha => by rw [T.rsv c hc] at hx; cases hx; cases ha
  | j + 1, hj, c, hc, x, hx, ha => by
    obtain ⟨o, ho⟩ := ops_get (show j < ops.size by omega)
    have ih := T.made j (by omega) c hc
    cases hs : sg j with
    | false =>
      rw [(T.stay j (by omega) hs).2] at hx
      have := ih x hx ha
      omega
    | true =>
    have tk := T.tk j o ho hs
    rw [tk.hp] at hx
    cases hb : B j with
    | none =>
      rw [hb] at hx
      have := ih x hx ha
      omega
    | some ob =>
      rw [hb] at hx
      have hlt : posR (base + j) (ev (G j)) o < (H j).length := by rw [T.lenk j (by omega)]; exact T.plt ho hs hb
      simp only [putO] at hx
      rw [put_get hlt] at hx
      by_cases he : base + c = posR (base + j) (ev (G j)) o
      · rcases tk.posc hb with h | ⟨_, oo, h, h2, _⟩
        · omega
        · rw [← he] at h
          have := ih oo h h2
          omega
      · rw [if_neg he] at hx
        have := ih x hx ha
        omega

/-! ### What conflicts -/
theorem conf_slot {x y : Oper} {t : Nat} (hx : x.dst = some t) (hy : t ∈ namesO ops y) : confO ops x y = true ∧ confO ops y x = true := by
  unfold confO
  simp only [hx, hasId_iff.2 hy, Bool.true_or, Bool.or_true, and_self]
theorem conf_mem {x y : Oper} (hx : memW x = true) (hy : memT y = true) : confO ops x y = true ∧ confO ops y x = true := by
  unfold confO
  simp [hx, hy]
theorem ord {S : Nat → Bool} (hS : ∀ j o e, S j = true → ops[j]? = some o → e ∈ o.after.toList → Region.binds .any e = true → S e.on = true)
    (hc : ∀ i j x o, ops[i]? = some x → ops[j]? = some o → i < j → confO ops x o = true → Bef ops i j) {j : Nat} {o : Oper} (ho : ops[j]? = some o) (hj : S j = false)
    (hr : ∀ e ∈ o.after.toList, Region.binds .any e = true → S e.on = true) {i : Nat} {x : Oper} (hx : ops[i]? = some x) (hcf : confO ops x o = true ∧ confO ops o x = true) : (i < j → S i = true) ∧ (j < i → S i = false) := by
  constructor
  · intro hij
    exact (hc i j x o hx ho hij hcf.1).ready hS (fun o' e ho' he hb => by rw [ho] at ho'; cases ho'; exact hr e he hb)
  · intro hij
    cases hSi : S i with
    | false => rfl
    | true =>
      have := (hc j i o x ho hx hij hcf.2).closed hS hSi
      rw [hj] at this
      cases this
end
end Av
