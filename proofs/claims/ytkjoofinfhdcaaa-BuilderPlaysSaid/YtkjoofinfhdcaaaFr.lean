/-
  A function is called with a part of memory alone, whose blocks have other numbers there.
-/
import Derived.Test.YtkjoofinfhdcaaaE5
namespace Av
open Go

/-! ### Other numbers -/
mutual
def renV (g : Nat → Option Nat) : AV → AV
 | .any => .any
 | .und => .und
 | .bool b => .bool b
 | .int k n => .int k n
 | .str s => .str s
 | .nilp => .nilp
 | .nsl => .nsl
 | .ptr id off => match g id with | some i => .ptr i off | none => .any
 | .optr id gn t i off => match g id with | some j => .optr j gn t i off | none => .any
 | .pv cs => .pv (renVs g cs)
 | .agg cs => .agg (renVs g cs)
 | .tup cs => .tup (renVs g cs)
 | .lst t l => .lst t l
 | .tlst t l => .tlst t l
 | .own id gn n => match g id with | some i => .own i gn n | none => .any
 | .osl id gn lo n => match g id with | some i => .osl i gn lo n | none => .any
 | .tosl id gn lo n => match g id with | some i => .tosl i gn lo n | none => .any
 | .zsl t => .zsl t
 | .fn f a b => .fn f (renVs g a) (renVs g b)
 | .nilfn => .nilfn
 | .iface t v => .iface t (renV g v)
 | .nili => .nili
 | .nilm => .nilm
 | .csl id n cap => match g id with | some i => .csl i n cap | none => .any
 | .raw K b off => .raw K b off
 | .oth id => match g id with | some i => .oth i | none => .any
def renVs (g : Nat → Option Nat) : List AV → List AV
 | [] => []
 | v :: vs => renV g v :: renVs g vs
end
mutual
def unz : AV → AV
 | .zsl t => .lst t []
 | .agg cs => .agg (unzs cs)
 | .any => .any
 | .und => .und
 | .bool b => .bool b
 | .int k n => .int k n
 | .str s => .str s
 | .nilp => .nilp
 | .nsl => .nsl
 | .ptr id off => .ptr id off
 | .optr id gn t i off => .optr id gn t i off
 | .pv cs => .pv cs
 | .tup cs => .tup cs
 | .lst t l => .lst t l
 | .tlst t l => .tlst t l
 | .own id gn n => .own id gn n
 | .osl id gn lo n => .osl id gn lo n
 | .tosl id gn lo n => .tosl id gn lo n
 | .fn f a b => .fn f a b
 | .nilfn => .nilfn
 | .iface t v => .iface t v
 | .nili => .nili
 | .nilm => .nilm
 | .csl id n cap => .csl id n cap
 | .raw K b off => .raw K b off
 | .oth id => .oth id
def unzs : List AV → List AV
 | [] => []
 | v :: vs => unz v :: unzs vs
end
mutual
theorem unz_R {s : St} : ∀ (a : AV) (v : Value), R s a v → R s (unz a) v
 | .zsl t, v, h => by
  simp only [unz, R] at h ⊢
  subst h
  exact ⟨none, 0, rfl, Nat.le_refl _, fun h => absurd rfl h⟩
 | .agg cs, v, h => by
  simp only [unz, R] at h ⊢
  obtain ⟨vs, h1, h2, h3⟩ := h
  exact ⟨vs, h1, unzs_R cs vs h2, h3⟩
 | .any, _, h => h
 | .und, _, h => h
 | .bool _, _, h => h
 | .int _ _, _, h => h
 | .str _, _, h => h
 | .nilp, _, h => h
 | .nsl, _, h => h
 | .ptr _ _, _, h => h
 | .optr _ _ _ _ _, _, h => h
 | .pv _, _, h => h
 | .tup _, _, h => h
 | .lst _ _, _, h => h
 | .tlst _ _, _, h => h
 | .own _ _ _, _, h => h
 | .osl _ _ _ _, _, h => h
 | .tosl _ _ _ _, _, h => h
 | .fn _ _ _, _, h => h
 | .nilfn, _, h => h
 | .iface _ _, _, h => h
 | .nili, _, h => h
 | .nilm, _, h => h
 | .csl _ _ _, _, h => h
 | .raw _ _ _, _, h => h
 | .oth _, _, h => h
theorem unzs_R {s : St} : ∀ (cs : List AV) (vs : List Value), RL s cs vs → RL s (unzs cs) vs
 | [], _, h => h
 | c :: cs, vs, h => by
  simp only [unzs, RL] at h ⊢
  obtain ⟨v, vs', h1, h2, h3⟩ := h
  exact ⟨v, vs', h1, unz_R c v h2, unzs_R cs vs' h3⟩
end
def renO (g : Nat → Option Nat) : AObj → AObj
 | .oth o => .oth o
 | .resv => .resv
 | .dead => .dead
 | .cells T cs => .cells T (renVs g cs)
 | .arr T t l f gn => .arr T t l f gn
theorem renO_alive (g : Nat → Option Nat) (o : AObj) : (renO g o).alive = o.alive := by cases o <;> rfl
theorem renO_more (g : Nat → Option Nat) (o : AObj) : (renO g o).more = o.more := by cases o <;> rfl
theorem renO_resv {g : Nat → Option Nat} {o : AObj} (h : renO g o = .resv) : o = .resv := by cases o <;> first | rfl | cases h
theorem kn_of {h : Hp} {id : Nat} {o : AObj} (h1 : h[id]? = some o) (h2 : o ≠ .resv) : kn h id = true := by
 unfold kn
 rw [h1]
 cases o <;> first | rfl | exact absurd rfl h2
theorem kn_get {h : Hp} {id : Nat} (hk : kn h id = true) : ∃ o, h[id]? = some o ∧ o ≠ .resv := by
 unfold kn at hk
 split at hk
 ·cases hk
 ·rename_i o hne h1
  exact ⟨o, h1, fun e => hne e⟩
 ·cases hk
structure Ren (s s2 : St) (g : Nat → Option Nat) : Prop where
 w : s2.w = s.w
 own : ∀ b, ¬ Own s b → ¬ Own s2 b
 kn : ∀ id i, g id = some i → Av.kn s.h id = true → Av.kn s2.h i = true
 sg : ∀ id i, g id = some i → Av.kn s.h id = true → s2.σ i = s.σ id
 obj : ∀ id i o2, g id = some i → Av.kn s.h id = true → s2.h[i]? = some o2 → ∃ o, s.h[id]? = some o ∧ o2 = renO g o
section
variable {s s2 : St} {g : Nat → Option Nat}
theorem Ren.cells (h : Ren s s2 g) {id i : Nat} (hg : g id = some i) (hk : Av.kn s.h id = true) {T : TypeId} {cs : List AV} (ho : s2.h[i]? = some (.cells T cs)) : ∃ cs', s.h[id]? = some (.cells T cs') := by
 obtain ⟨o, h1, h2⟩ := h.obj id i _ hg hk ho
 cases o <;> first | cases h2 | skip
 exact ⟨_, h1⟩
theorem Ren.arr (h : Ren s s2 g) {id i : Nat} (hg : g id = some i) (hk : Av.kn s.h id = true) {T : TypeId} {t : Ty} {l : List t.El} {f : Bool} {gn : Nat} (ho : s2.h[i]? = some (.arr T t l f gn)) : s.h[id]? = some (.arr T t l f gn) := by
 obtain ⟨o, h1, h2⟩ := h.obj id i _ hg hk ho
 cases o <;> first | cases h2 | skip
 exact h1
theorem Ren.oth (h : Ren s s2 g) {id i : Nat} (hg : g id = some i) (hk : Av.kn s.h id = true) {o : OObj} (ho : s2.h[i]? = some (.oth o)) : s.h[id]? = some (.oth o) := by
 obtain ⟨o, h1, h2⟩ := h.obj id i _ hg hk ho
 cases o <;> first | cases h2 | skip
 exact h1
mutual
theorem R_ren (h : Ren s s2 g) : ∀ (a : AV) (v : Value), R s a v → R s2 (renV g a) v
 | .any, _, _ => by simp only [renV, R]
 | .und, v, hr => by simp only [renV, R] at hr ⊢; exact hr
 | .bool b, v, hr => by simp only [renV, R] at hr ⊢; exact hr
 | .int k n, v, hr => by simp only [renV, R] at hr ⊢; exact hr
 | .str x, v, hr => by simp only [renV, R] at hr ⊢; exact hr
 | .raw _ _ _, v, hr => by simp only [renV, R] at hr ⊢; exact hr
 | .nilp, v, hr => by simp only [renV, R] at hr ⊢; exact hr
 | .nsl, v, hr => by simp only [renV, R] at hr ⊢; exact hr
 | .zsl _, v, hr => by simp only [renV, R] at hr ⊢; exact hr
 | .nilfn, v, hr => by simp only [renV, R] at hr ⊢; exact hr
 | .nili, v, hr => by simp only [renV, R] at hr ⊢; exact hr
 | .nilm, v, hr => by simp only [renV, R] at hr ⊢; exact hr
 | .oth id, v, hr => by
  simp only [renV]
  simp only [R] at hr
  split
  ·rename_i i hg
   simp only [R]
   exact ⟨h.kn id i hg hr.1, hr.2.1, fun o ho => by rw [h.sg id i hg hr.1]; exact hr.2.2 o (h.oth hg hr.1 ho)⟩
  ·simp only [R]
 | .ptr id off, v, hr => by
  simp only [renV]
  simp only [R] at hr
  obtain ⟨hk, b, hv, hr⟩ := hr
  split
  ·rename_i i hg
   simp only [R]
   refine ⟨h.kn id i hg hk, b, hv, fun T cs ho => ?_⟩
   obtain ⟨cs', h1⟩ := h.cells hg hk ho
   rw [h.sg id i hg hk]
   exact hr T cs' h1
  ·simp only [R]
 | .csl id n cap, v, hr => by
  simp only [renV]
  simp only [R] at hr
  obtain ⟨hk, b, hv, hr⟩ := hr
  split
  ·rename_i i hg
   simp only [R]
   refine ⟨h.kn id i hg hk, b, hv, fun T cs ho => ?_⟩
   obtain ⟨cs', h1⟩ := h.cells hg hk ho
   rw [h.sg id i hg hk]
   exact hr T cs' h1
  ·simp only [R]
 | .optr id gn t i off, v, hr => by
  simp only [renV]
  simp only [R] at hr
  obtain ⟨hk, b, hv, hr⟩ := hr
  split
  ·rename_i j hg
   simp only [R]
   refine ⟨h.kn id j hg hk, b, hv, fun T t' l f g0 ho => ?_⟩
   rw [h.sg id j hg hk]
   exact hr T t' l f g0 (h.arr hg hk ho)
  ·simp only [R]
 | .own id gn n, v, hr => by
  simp only [renV]
  simp only [R] at hr
  obtain ⟨hk, b, cap, hv, hr⟩ := hr
  split
  ·rename_i j hg
   simp only [R]
   refine ⟨h.kn id j hg hk, b, cap, hv, fun T t' l f g0 ho => ?_⟩
   rw [h.sg id j hg hk]
   exact hr T t' l f g0 (h.arr hg hk ho)
  ·simp only [R]
 | .osl id gn lo n, v, hr => by
  simp only [renV]
  simp only [R] at hr
  obtain ⟨hk, b, cap, hv, hc, hr⟩ := hr
  split
  ·rename_i j hg
   simp only [R]
   refine ⟨h.kn id j hg hk, b, cap, hv, hc, fun T t' l f g0 ho => ?_⟩
   rw [h.sg id j hg hk]
   exact hr T t' l f g0 (h.arr hg hk ho)
  ·simp only [R]
 | .tosl id gn lo n, v, hr => by
  simp only [renV]
  simp only [R] at hr
  obtain ⟨⟨hk, b, cap, hv, hc, hr⟩, ht⟩ := hr
  split
  ·rename_i j hg
   simp only [R]
   refine ⟨⟨h.kn id j hg hk, b, cap, hv, hc, fun T t' l f g0 ho => ?_⟩, ht⟩
   rw [h.sg id j hg hk]
   exact hr T t' l f g0 (h.arr hg hk ho)
  ·simp only [R]
 | .pv cs, v, hr => by
  simp only [renV, R] at hr ⊢
  obtain ⟨b, o, hv, hlt, hb, hc⟩ := hr
  exact ⟨b, o, hv, by rw [h.w]; exact hlt, h.own b hb, by rw [h.w]; exact RC_ren h cs _ hc⟩
 | .agg cs, v, hr => by
  simp only [renV, R] at hr ⊢
  obtain ⟨vs, hv, hl, h1⟩ := hr
  exact ⟨vs, hv, RL_ren h cs vs hl, h1⟩
 | .tup cs, v, hr => by
  simp only [renV, R] at hr ⊢
  obtain ⟨vs, hv, hl⟩ := hr
  exact ⟨vs, hv, RL_ren h cs vs hl⟩
 | .lst t l, v, hr => by simp only [renV, R] at hr ⊢; exact RLst_pure h.w h.own hr
 | .tlst t l, v, hr => by simp only [renV, R] at hr ⊢; exact ⟨RLst_pure h.w h.own hr.1, hr.2⟩
 | .fn f a b, v, hr => by
  simp only [renV, R] at hr ⊢
  obtain ⟨xs, ys, hv, h1, h2⟩ := hr
  exact ⟨xs, ys, hv, RL_ren h a xs h1, RL_ren h b ys h2⟩
 | .iface t x, v, hr => by
  simp only [renV, R] at hr ⊢
  obtain ⟨y, hv, h1⟩ := hr
  exact ⟨y, hv, R_ren h x y h1⟩
theorem RL_ren (h : Ren s s2 g) : ∀ (cs : List AV) (vs : List Value), RL s cs vs → RL s2 (renVs g cs) vs
 | [], vs, hr => by simp only [renVs, RL] at hr ⊢; exact hr
 | c :: cs, vs, hr => by
  simp only [renVs, RL] at hr ⊢
  obtain ⟨v, vs', hv, h1, h2⟩ := hr
  exact ⟨v, vs', hv, R_ren h c v h1, RL_ren h cs vs' h2⟩
theorem RC_ren (h : Ren s s2 g) : ∀ (cs : List AV) (c : Nat → Option Value), RC s cs c → RC s2 (renVs g cs) c
 | [], _, _ => by simp only [renVs, RC]
 | x :: cs, c, hr => by
  simp only [renVs, RC] at hr ⊢
  obtain ⟨⟨v, h0, h1, h2⟩, h3⟩ := hr
  exact ⟨⟨v, h0, R_ren h x v h1, h2⟩, RC_ren h cs _ h3⟩
end
theorem ObjR_ren (h : Ren s s2 g) {id i : Nat} {o : AObj} (hσ : s2.σ i = s.σ id) (ho : ObjR s id o) : ObjR s2 i (renO g o) := by
 cases o with
 | resv => trivial
 | dead => trivial
 | oth o =>
  cases o with
  | map bm kt vt l =>
   obtain ⟨e, q1, es, hh, q2, q3, q4⟩ := ho
   exact ⟨hσ.trans e, q1, es, by rw [h.w]; exact hh, q2, fun i en x hi hx => by obtain ⟨r1, r2, r3⟩ := q3 i en x hi hx; exact ⟨r1, RV_pure h.w h.own vt x.2 _ r2, r3⟩, q4⟩
  | mapD bm kt vt l bs ck =>
   obtain ⟨e, q1, es, hh, q2, q3, q4⟩ := ho
   exact ⟨hσ.trans e, q1, es, by rw [h.w]; exact hh, q2, fun i en x hi hx => by obtain ⟨r1, r2, r3⟩ := q3 i en x hi hx; exact ⟨r1, RV_pure h.w h.own vt x.2 _ r2, r3⟩, q4⟩
  | iter mid bm n seen =>
   obtain ⟨r, e, hh⟩ := ho
   exact ⟨r, hσ.trans e, by rw [h.w]; exact hh⟩
  | bxs T t m =>
   obtain ⟨e, q1, q2⟩ := ho
   exact ⟨by rw [hσ]; exact e, q1, fun b x hx => by obtain ⟨vs, rest, r1, r2, r3, r4⟩ := q2 b x hx; exact ⟨vs, rest, by rw [h.w]; exact r1, r2, RT_pure h.w h.own t x _ r3, r4⟩⟩
 | cells T cs =>
  obtain ⟨b, vs, rest, e, hh, hl, h2⟩ := ho
  exact ⟨b, vs, rest, hσ.trans e, by rw [h.w]; exact hh, RL_ren h cs vs hl, h2⟩
 | arr T t l f gn =>
  obtain ⟨xs, hown, h2, hx, hf⟩ := ho
  exact ⟨xs, by rw [h.w, hσ]; exact hown, h2, fun i x hi => RT_pure h.w h.own t x _ (hx i x hi), fun hf' => by rw [hσ]; exact hf hf'⟩
theorem Has_ren {id i : Nat} {o : AObj} {b : Nat} (hσ : s2.σ i = s.σ id) : Has s2 i (renO g o) b ↔ Has s id o b := by
 unfold Has
 rw [hσ, renO_more]
end
/-! ### A part of memory -/
def posGo : List Nat → Nat → Nat → Option Nat
 | [], _, _ => none
 | j :: js, i, id => match Nat.beq j id with | true => some i | false => posGo js (i + 1) id
def inv (sel : List Nat) (id : Nat) : Option Nat := posGo sel 0 id
theorem posGo_some : ∀ {sel : List Nat} {n id i : Nat}, posGo sel n id = some i → ∃ k, i = n + k ∧ sel[k]? = some id
 | [], _, _, _, h => by cases h
 | j :: js, n, id, i, h => by
  simp only [posGo] at h
  split at h
  ·rename_i hb
   cases h
   exact ⟨0, rfl, by rw [List.getElem?_cons_zero, Nat.eq_of_beq_eq_true hb]⟩
  ·obtain ⟨k, h1, h2⟩ := posGo_some h
   exact ⟨k + 1, by omega, by rw [List.getElem?_cons_succ]; exact h2⟩
theorem posGo_none : ∀ {sel : List Nat} {n id : Nat}, posGo sel n id = none → id ∉ sel
 | [], _, _, _ => by simp
 | j :: js, n, id, h => by
  simp only [posGo] at h
  split at h
  ·cases h
  ·rename_i hb
   intro hm
   rcases List.mem_cons.1 hm with rfl | hm
   ·rw [Nat.beq_refl] at hb; cases hb
   ·exact posGo_none h hm
theorem inv_some {sel : List Nat} {id i : Nat} (h : inv sel id = some i) : sel[i]? = some id := by
 obtain ⟨k, h1, h2⟩ := posGo_some h
 rw [h1, Nat.zero_add]
 exact h2
theorem nodup_get {sel : List Nat} (hn : sel.Nodup) {i j id : Nat} (h1 : sel[i]? = some id) (h2 : sel[j]? = some id) : i = j := by
 exact (List.getElem?_inj (List.getElem?_eq_some_iff.1 h1).1 hn).1 (h1.trans h2.symm)
theorem inv_of {sel : List Nat} (hn : sel.Nodup) {id i : Nat} (h : sel[i]? = some id) : inv sel id = some i := by
 cases he : inv sel id with
 | none => exact absurd (List.mem_of_getElem? h) (posGo_none he)
 | some k => rw [nodup_get hn (inv_some he) h]
def selOk : List Nat → Nat → Bool
 | [], _ => true
 | j :: js, L => Nat.blt j L && !hasId js j && selOk js L
theorem hasId_mem : ∀ {l : List Nat} {n : Nat}, n ∈ l → hasId l n = true
 | [], _, h => by simp at h
 | j :: l, n, h => by
  simp only [hasId]
  rcases List.mem_cons.1 h with rfl | h
  ·simp [Nat.beq_refl]
  ·rw [hasId_mem h]; simp
theorem selOk_spec : ∀ {sel : List Nat} {L : Nat}, selOk sel L = true → sel.Nodup ∧ ∀ j ∈ sel, j < L
 | [], _, _ => ⟨List.nodup_nil, by simp⟩
 | j :: js, L, h => by
  simp only [selOk, Bool.and_eq_true, Bool.not_eq_true'] at h
  obtain ⟨h1, h2⟩ := selOk_spec h.2
  refine ⟨List.nodup_cons.2 ⟨fun hm => ?_, h1⟩, fun i hi => ?_⟩
  ·rw [hasId_mem hm] at h; cases h.1.2
  ·rcases List.mem_cons.1 hi with rfl | hi
   ·have := h.1.1
    simp only [Nat.blt_eq] at this
    exact this
   ·exact h2 i hi
def pickK (g : Nat → Option Nat) (h : Hp) : List Nat → (Hp → Prop) → Prop
 | [], k => k []
 | j :: js, k => match h[j]? with
  | some o => forceO (renO g o) fun o => pickK g h js fun os => k (o :: os)
  | none => False
theorem pickK_spec {g : Nat → Option Nat} {h : Hp} : ∀ (sel : List Nat) (k : Hp → Prop), pickK g h sel k → ∃ h0, k h0 ∧ h0.length = sel.length ∧ ∀ i j : Nat, sel[i]? = some j → ∃ o, h[j]? = some o ∧ h0[i]? = some (renO g o)
 | [], k, hk => ⟨[], hk, rfl, by simp⟩
 | j :: js, k, hk => by
  simp only [pickK] at hk
  split at hk
  ·rename_i o ho
   rw [forceO_eq] at hk
   obtain ⟨h0, h1, h2, h3⟩ := pickK_spec js _ hk
   refine ⟨renO g o :: h0, h1, by simp [h2], fun i j' hi => ?_⟩
   cases i with
   | zero =>
    rw [List.getElem?_cons_zero] at hi
    cases hi
    exact ⟨o, ho, rfl⟩
   | succ i => exact h3 i j' (by simpa using hi)
  ·exact hk.elim
def rhoGo : List Nat → Nat → Nat → Nat
 | [], L, i => L + i
 | j :: js, L, i => match i with | 0 => j | i + 1 => rhoGo js L i
theorem rhoGo_sel : ∀ {sel : List Nat} {L i j : Nat}, sel[i]? = some j → rhoGo sel L i = j
 | [], _, _, _, h => by simp at h
 | j' :: js, L, 0, j, h => by simpa [rhoGo] using h
 | j' :: js, L, i + 1, j, h => by simp only [rhoGo]; exact rhoGo_sel (by simpa using h)
theorem rhoGo_new : ∀ {sel : List Nat} {L i : Nat}, sel.length ≤ i → rhoGo sel L i = L + (i - sel.length)
 | [], _, _, _ => by simp [rhoGo]
 | j' :: js, L, 0, h => by simp at h
 | j' :: js, L, i + 1, h => by
  simp only [rhoGo]
  rw [rhoGo_new (by simpa using h)]
  simp only [List.length_cons]
  omega
def appK (g : Nat → Option Nat) : List AObj → Hp → (Hp → Prop) → Prop
 | [], h, k => k h
 | o :: os, h, k => forceO (renO g o) fun o => lenK h fun n => putK h n o fun h => appK g os h k
def mergeK (g : Nat → Option Nat) : List Nat → List AObj → Hp → (Hp → Prop) → Prop
 | [], os, h, k => appK g os h k
 | j :: js, os, h, k => match os with
  | [] => putK h j .dead fun h => mergeK g js [] h k
  | o :: os => forceO (renO g o) fun o => putK h j o fun h => mergeK g js os h k
def mergeD (g : Nat → Option Nat) : List Nat → List AObj → Hp → Hp
 | [], os, h => h ++ os.map (renO g)
 | j :: js, os, h => match os with
  | [] => mergeD g js [] (put h j .dead)
  | o :: os => mergeD g js os (put h j (renO g o))
theorem appK_eq (g : Nat → Option Nat) : ∀ (os : List AObj) (h : Hp) (k : Hp → Prop), appK g os h k = k (h ++ os.map (renO g))
 | [], h, k => by simp [appK]
 | o :: os, h, k => by
  simp only [appK]
  rw [forceO_eq, lenK_eq, putK_eq, appK_eq g os]
  simp [put]
theorem mergeK_eq (g : Nat → Option Nat) : ∀ (sel : List Nat) (os : List AObj) (h : Hp) (k : Hp → Prop), mergeK g sel os h k = k (mergeD g sel os h)
 | [], os, h, k => by simp only [mergeK, mergeD, appK_eq]
 | j :: js, [], h, k => by simp only [mergeK, mergeD]; rw [putK_eq, mergeK_eq g js]
 | j :: js, o :: os, h, k => by simp only [mergeK, mergeD]; rw [forceO_eq, putK_eq, mergeK_eq g js]
theorem frPut_len {h : Hp} {j : Nat} {o : AObj} (hj : j < h.length) : (put h j o).length = h.length := by
 unfold put
 rw [if_pos hj, List.length_set]
theorem frPut_get {h : Hp} {j : Nat} {o : AObj} (hj : j < h.length) (i : Nat) : (put h j o)[i]? = if i = j then some o else h[i]? := by
 unfold put
 rw [if_pos hj, List.getElem?_set]
 by_cases e : i = j
 ·subst e; simp [hj]
 ·rw [if_neg (fun h => e h.symm), if_neg e]
theorem mergeD_new (g : Nat → Option Nat) : ∀ (sel : List Nat) (os : List AObj) (h : Hp) (m : Nat), (∀ j ∈ sel, j < h.length) → (mergeD g sel os h)[h.length + m]? = (os[sel.length + m]?).map (renO g)
 | [], os, h, m, _ => by
  simp only [mergeD]
  rw [List.getElem?_append_right (by omega), List.getElem?_map]
  simp
 | j :: js, [], h, m, hs => by
  have hj := hs j (by simp)
  have := mergeD_new g js [] (put h j .dead) m (fun i hi => by rw [frPut_len hj]; exact hs i (by simp [hi]))
  rw [frPut_len hj] at this
  simp only [mergeD]
  rw [this]
  simp
 | j :: js, o :: os, h, m, hs => by
  have hj := hs j (by simp)
  have := mergeD_new g js os (put h j (renO g o)) m (fun i hi => by rw [frPut_len hj]; exact hs i (by simp [hi]))
  rw [frPut_len hj] at this
  simp only [mergeD]
  rw [this, List.length_cons, show js.length + 1 + m = (js.length + m) + 1 by omega, List.getElem?_cons_succ]
theorem mergeD_old (g : Nat → Option Nat) : ∀ (sel : List Nat) (os : List AObj) (h : Hp) (i : Nat), (∀ j ∈ sel, j < h.length) → i < h.length → i ∉ sel → (mergeD g sel os h)[i]? = h[i]?
 | [], os, h, i, _, hi, _ => by
  simp only [mergeD]
  rw [List.getElem?_append_left hi]
 | j :: js, [], h, i, hs, hi, hn => by
  have hj := hs j (by simp)
  simp only [mergeD]
  rw [mergeD_old g js [] _ i (fun i hi => by rw [frPut_len hj]; exact hs i (by simp [hi])) (by rw [frPut_len hj]; exact hi) (fun h => hn (by simp [h])), frPut_get hj, if_neg (by rintro rfl; simp at hn)]
 | j :: js, o :: os, h, i, hs, hi, hn => by
  have hj := hs j (by simp)
  simp only [mergeD]
  rw [mergeD_old g js os _ i (fun i hi => by rw [frPut_len hj]; exact hs i (by simp [hi])) (by rw [frPut_len hj]; exact hi) (fun h => hn (by simp [h])), frPut_get hj, if_neg (by rintro rfl; simp at hn)]
theorem mergeD_sel (g : Nat → Option Nat) : ∀ (sel : List Nat) (os : List AObj) (h : Hp) (i j : Nat), sel.Nodup → (∀ j ∈ sel, j < h.length) → sel[i]? = some j → (mergeD g sel os h)[j]? = match os[i]? with | some o => some (renO g o) | none => some .dead
 | [], os, h, i, j, _, _, hi => by simp at hi
 | j' :: js, [], h, i, j, hn, hs, hi => by
  have hj := hs j' (by simp)
  have hs' : ∀ i ∈ js, i < (put h j' AObj.dead).length := fun i hi => by rw [frPut_len hj]; exact hs i (by simp [hi])
  simp only [mergeD]
  cases i with
  | zero =>
   simp at hi
   subst hi
   rw [mergeD_old g js [] _ j' hs' (by rw [frPut_len hj]; exact hj) (List.nodup_cons.1 hn).1, frPut_get hj, if_pos rfl]
   simp
  | succ i =>
   rw [mergeD_sel g js [] _ i j (List.nodup_cons.1 hn).2 hs' (by simpa using hi)]
   simp
 | j' :: js, o :: os, h, i, j, hn, hs, hi => by
  have hj := hs j' (by simp)
  have hs' : ∀ i ∈ js, i < (put h j' (renO g o)).length := fun i hi => by rw [frPut_len hj]; exact hs i (by simp [hi])
  simp only [mergeD]
  cases i with
  | zero =>
   simp at hi
   subst hi
   rw [mergeD_old g js os _ j' hs' (by rw [frPut_len hj]; exact hj) (List.nodup_cons.1 hn).1, frPut_get hj, if_pos rfl]
   simp
  | succ i =>
   rw [mergeD_sel g js os _ i j (List.nodup_cons.1 hn).2 hs' (by simpa using hi)]
   simp

/-! ### The part as a state of its own -/
def St.part (s : St) (sel : List Nat) (h0 : Hp) : St :=
 ⟨fun i => match sel[i]? with | some j => s.σ j | none => .bool false, h0, s.w, fun b => s.F b ∨ ∃ id o, s.h[id]? = some o ∧ o.alive = true ∧ id ∉ sel ∧ Has s id o b⟩
structure Picked (s : St) (sel : List Nat) (h0 : Hp) : Prop where
 nd : sel.Nodup
 lt : ∀ j ∈ sel, j < s.h.length
 len : h0.length = sel.length
 get : ∀ i j : Nat, sel[i]? = some j → ∃ o, s.h[j]? = some o ∧ h0[i]? = some (renO (inv sel) o)
section
variable {s : St} {sel : List Nat} {h0 : Hp}
theorem part_sg {i j : Nat} (h : sel[i]? = some j) : (s.part sel h0).σ i = s.σ j := by
 simp only [St.part, h]
theorem part_get (hp : Picked s sel h0) {i : Nat} {o : AObj} (h : h0[i]? = some o) : ∃ j o', sel[i]? = some j ∧ s.h[j]? = some o' ∧ o = renO (inv sel) o' := by
 have hi : i < sel.length := by rw [← hp.len]; exact (List.getElem?_eq_some_iff.1 h).1
 obtain ⟨o', h1, h2⟩ := hp.get i _ (List.getElem?_eq_getElem hi)
 rw [h] at h2
 exact ⟨_, o', List.getElem?_eq_getElem hi, h1, Option.some.inj h2⟩
theorem part_ownI (hp : Picked s sel h0) {b : Nat} : OwnI (s.part sel h0) b ↔ ∃ id o, s.h[id]? = some o ∧ o.alive = true ∧ id ∈ sel ∧ Has s id o b := by
 constructor
 ·rintro ⟨i, o, h1, h2, h3⟩
  obtain ⟨j, o', h4, h5, rfl⟩ := part_get hp h1
  rw [renO_alive] at h2
  exact ⟨j, o', h5, h2, List.mem_of_getElem? h4, (Has_ren (part_sg h4)).1 h3⟩
 ·rintro ⟨id, o, h1, h2, h3, h4⟩
  obtain ⟨i, hi⟩ := List.mem_iff_getElem?.1 h3
  obtain ⟨o', h5, h6⟩ := hp.get i id hi
  rw [h1] at h5
  cases h5
  exact ⟨i, _, h6, by rw [renO_alive]; exact h2, (Has_ren (part_sg hi)).2 h4⟩
theorem part_own (hp : Picked s sel h0) {b : Nat} : Own (s.part sel h0) b ↔ Own s b := by
 constructor
 ·rintro (h | h)
  ·rcases h with h | ⟨id, o, h1, h2, _, h4⟩
   ·exact .inl h
   ·exact .inr ⟨id, o, h1, h2, h4⟩
  ·obtain ⟨id, o, h1, h2, _, h4⟩ := (part_ownI hp).1 h
   exact .inr ⟨id, o, h1, h2, h4⟩
 ·rintro (h | ⟨id, o, h1, h2, h3⟩)
  ·exact .inl (.inl h)
  ·by_cases hm : id ∈ sel
   ·exact .inr ((part_ownI hp).2 ⟨id, o, h1, h2, hm, h3⟩)
   ·exact .inl (.inr ⟨id, o, h1, h2, hm, h3⟩)
theorem part_ren (hp : Picked s sel h0) : Ren s (s.part sel h0) (inv sel) where
 w := rfl
 own := fun b hn h => hn ((part_own hp).1 h)
 kn := fun id i hg hk => by
  obtain ⟨o, h1, h2⟩ := hp.get i id (inv_some hg)
  obtain ⟨o', h3, h4⟩ := kn_get hk
  rw [h1] at h3
  cases h3
  exact kn_of h2 (fun e => h4 (renO_resv e))
 sg := fun id i hg _ => part_sg (inv_some hg)
 obj := fun id i o2 hg _ h => by
  obtain ⟨o, h1, h2⟩ := hp.get i id (inv_some hg)
  have h : h0[i]? = some o2 := h
  rw [h2] at h
  exact ⟨o, h1, (Option.some.inj h).symm⟩
theorem part_ok (hok : Ok s) (hp : Picked s sel h0) : Ok (s.part sel h0) where
 obj := fun i o h => by
  obtain ⟨j, o', h4, h5, rfl⟩ := part_get hp h
  exact ObjR_ren (part_ren hp) (part_sg h4) (hok.obj j o' h5)
 inj := fun i j o p b hi hj hao hap hbi hbj => by
  obtain ⟨i', o', a1, a2, rfl⟩ := part_get hp hi
  obtain ⟨j', p', b1, b2, rfl⟩ := part_get hp hj
  rw [renO_alive] at hao hap
  have := hok.inj i' j' o' p' b a2 b2 hao hap ((Has_ren (part_sg a1)).1 hbi) ((Has_ren (part_sg b1)).1 hbj)
  subst this
  exact nodup_get hp.nd a1 b1
 fb := fun b hb => by
  rcases hb with hb | ⟨id, o, h1, h2, _, h4⟩
  ·exact hok.fb b hb
  ·exact own_lt hok ⟨id, o, h1, h2, h4⟩
 dis := fun b h hF => by
  obtain ⟨id, o, h1, h2, h3, h4⟩ := (part_ownI hp).1 h
  rcases hF with hF | ⟨id', o', k1, k2, k3, k4⟩
  ·exact hok.dis b ⟨id, o, h1, h2, h4⟩ hF
  ·have := hok.inj id id' o o' b h1 k1 h2 k2 h4 k4
   subst this
   exact k3 h3
end
/-! ### The whole, behind the call -/
def St.join (s s1 : St) (sel : List Nat) (h' : Hp) : St :=
 ⟨fun id => match inv sel id with | some i => s1.σ i | none => if id < s.h.length then s.σ id else s1.σ (sel.length + (id - s.h.length)), h', s1.w, s.F⟩
section
variable {s s1 : St} {sel : List Nat} {h0 : Hp}
theorem join_cls (hp : Picked s sel h0) {id : Nat} {o : AObj} (h : (mergeD (fun i => some (rhoGo sel s.h.length i)) sel s1.h s.h)[id]? = some o) :
  (∃ i o', s1.h[i]? = some o' ∧ rhoGo sel s.h.length i = id ∧ o = renO (fun i => some (rhoGo sel s.h.length i)) o' ∧ ∀ h', (s.join s1 sel h').σ id = s1.σ i) ∨ o = .dead ∨ (id < s.h.length ∧ id ∉ sel ∧ s.h[id]? = some o ∧ ∀ h', (s.join s1 sel h').σ id = s.σ id) := by
 cases hi : inv sel id with
 | some i =>
  have h1 := inv_some hi
  rw [mergeD_sel _ _ _ _ i id hp.nd hp.lt h1] at h
  split at h
  ·rename_i o' ho'
   cases h
   exact .inl ⟨i, o', ho', rhoGo_sel h1, rfl, fun h' => by simp only [St.join, hi]⟩
  ·cases h
   exact .inr (.inl rfl)
 | none =>
  have hn := posGo_none hi
  by_cases hlt : id < s.h.length
  ·rw [mergeD_old _ _ _ _ id hp.lt hlt hn] at h
   exact .inr (.inr ⟨hlt, hn, h, fun h' => by simp only [St.join, hi]; rw [if_pos hlt]⟩)
  ·have he : id = s.h.length + (id - s.h.length) := by omega
   rw [he, mergeD_new _ _ _ _ _ hp.lt] at h
   cases ho' : s1.h[sel.length + (id - s.h.length)]? with
   | none => rw [ho'] at h; cases h
   | some o' =>
    rw [ho'] at h
    cases h
    exact .inl ⟨_, o', ho', by rw [rhoGo_new (by omega)]; omega, rfl, fun h' => by simp only [St.join, hi]; rw [if_neg hlt]⟩
theorem join_sg (hp : Picked s sel h0) (i : Nat) (h' : Hp) : (s.join s1 sel h').σ (rhoGo sel s.h.length i) = s1.σ i := by
 by_cases hi : i < sel.length
 ·have h1 := List.getElem?_eq_getElem hi
  rw [rhoGo_sel h1]
  simp only [St.join, inv_of hp.nd h1]
 ·rw [rhoGo_new (by omega)]
  have : inv sel (s.h.length + (i - sel.length)) = none := by
   cases he : inv sel (s.h.length + (i - sel.length)) with
   | none => rfl
   | some k =>
    have := hp.lt _ (List.mem_of_getElem? (inv_some he))
    omega
  simp only [St.join, this]
  rw [if_neg (by omega), show sel.length + (s.h.length + (i - sel.length) - s.h.length) = i by omega]
theorem join_get (hp : Picked s sel h0) {i : Nat} {o : AObj} (h : s1.h[i]? = some o) : (mergeD (fun i => some (rhoGo sel s.h.length i)) sel s1.h s.h)[rhoGo sel s.h.length i]? = some (renO (fun i => some (rhoGo sel s.h.length i)) o) := by
 by_cases hi : i < sel.length
 ·have h1 := List.getElem?_eq_getElem hi
  rw [rhoGo_sel h1, mergeD_sel _ _ _ _ i _ hp.nd hp.lt h1, h]
 ·rw [rhoGo_new (by omega), mergeD_new _ _ _ _ _ hp.lt, show sel.length + (i - sel.length) = i by omega, h]
  rfl
theorem join_ownI (hp : Picked s sel h0) {b : Nat} : OwnI (s.join s1 sel (mergeD (fun i => some (rhoGo sel s.h.length i)) sel s1.h s.h)) b ↔ OwnI s1 b ∨ ∃ id o, s.h[id]? = some o ∧ o.alive = true ∧ id ∉ sel ∧ Has s id o b := by
 constructor
 ·rintro ⟨id, o, h1, h2, h3⟩
  rcases join_cls hp h1 with ⟨i, o', k1, _, rfl, k2⟩ | rfl | ⟨k1, k2, k3, k4⟩
  ·rw [renO_alive] at h2
   exact .inl ⟨i, o', k1, h2, (Has_ren (k2 _)).1 h3⟩
  ·cases h2
  ·exact .inr ⟨id, o, k3, h2, k2, Has.of (k4 _) h3⟩
 ·rintro (⟨i, o, h1, h2, h3⟩ | ⟨id, o, h1, h2, h3, h4⟩)
  ·exact ⟨_, _, join_get hp h1, by rw [renO_alive]; exact h2, (Has_ren (join_sg hp i _)).2 h3⟩
  ·have hlt := (List.getElem?_eq_some_iff.1 h1).1
   have hi : inv sel id = none := by
    cases he : inv sel id with
    | none => rfl
    | some k => exact absurd (List.mem_of_getElem? (inv_some he)) h3
   refine ⟨id, o, by show (mergeD _ _ _ _)[id]? = _; rw [mergeD_old _ _ _ _ id hp.lt hlt h3]; exact h1, h2, ?_⟩
   exact Has.of (s := s.join s1 sel _) (s' := s) (by simp only [St.join, hi]; rw [if_pos hlt]) h4
theorem join_step (hok : Ok s) (hp : Picked s sel h0) (hst : Step (s.part sel h0) s1) : Step s (s.join s1 sel (mergeD (fun i => some (rhoGo sel s.h.length i)) sel s1.h s.h)) := by
 have cls : ∀ (id : Nat) (o : AObj), Av.kn s.h id = true → (mergeD (fun i => some (rhoGo sel s.h.length i)) sel s1.h s.h)[id]? = some o → o ≠ .dead →
   (∃ i o' p, sel[i]? = some id ∧ s1.h[i]? = some o' ∧ o = renO (fun i => some (rhoGo sel s.h.length i)) o' ∧ s.h[id]? = some p ∧ h0[i]? = some (renO (inv sel) p) ∧ (s.join s1 sel (mergeD (fun i => some (rhoGo sel s.h.length i)) sel s1.h s.h)).σ id = s1.σ i ∧ (s.part sel h0).σ i = s.σ id ∧ Av.kn h0 i = true) ∨
   (s.h[id]? = some o ∧ (s.join s1 sel (mergeD (fun i => some (rhoGo sel s.h.length i)) sel s1.h s.h)).σ id = s.σ id) := by
  intro id o hk h hd
  obtain ⟨p, hp1, hp2⟩ := kn_get hk
  have hlt := (List.getElem?_eq_some_iff.1 hp1).1
  rcases join_cls hp h with ⟨i, o', k1, k2, k3, k4⟩ | rfl | ⟨k1, k2, k3, k4⟩
  ·have hi : i < sel.length := by
    rcases Nat.lt_or_ge i sel.length with hi | hi
    ·exact hi
    ·rw [rhoGo_new hi] at k2; omega
   have h1 := List.getElem?_eq_getElem hi
   rw [rhoGo_sel h1] at k2
   rw [k2] at h1
   obtain ⟨p', q1, q2⟩ := hp.get i id h1
   rw [hp1] at q1
   cases q1
   exact .inl ⟨i, o', p, h1, k1, k3, hp1, q2, k4 _, part_sg h1, kn_of q2 (fun e => hp2 (renO_resv e))⟩
  ·exact absurd rfl hd
  ·exact .inr ⟨k3, k4 _⟩
 exact {
  os := hst.os
  tape := hst.tape
  output := hst.output
  drawn := hst.drawn
  size := hst.size
  kn := fun id hk => by
   obtain ⟨p, hp1, hp2⟩ := kn_get hk
   have hlt := (List.getElem?_eq_some_iff.1 hp1).1
   cases hi : inv sel id with
   | none =>
    refine kn_of (o := p) ?_ hp2
    show (mergeD _ _ _ _)[id]? = _
    rw [mergeD_old _ _ _ _ id hp.lt hlt (posGo_none hi)]
    exact hp1
   | some i =>
    have h1 := inv_some hi
    obtain ⟨p', q1, q2⟩ := hp.get i id h1
    rw [hp1] at q1
    cases q1
    obtain ⟨o, r1, r2⟩ := kn_get (hst.kn i (kn_of q2 (fun e => hp2 (renO_resv e))))
    refine kn_of (o := renO (fun i => some (rhoGo sel s.h.length i)) o) ?_ (fun e => r2 (renO_resv e))
    show (mergeD _ _ _ _)[id]? = _
    rw [mergeD_sel _ _ _ _ i id hp.nd hp.lt h1, r1]
  keep := fun b hb hn => by
   have h1 : ¬ OwnI (s.part sel h0) b := fun h => by
    obtain ⟨id, o, k1, k2, _, k4⟩ := (part_ownI hp).1 h
    exact hn ⟨id, o, k1, k2, k4⟩
   obtain ⟨h2, h3⟩ := hst.keep b hb h1
   refine ⟨fun h => ?_, h3⟩
   rcases (join_ownI hp).1 h with h | ⟨id, o, k1, k2, _, k4⟩
   ·exact h2 h
   ·exact hn ⟨id, o, k1, k2, k4⟩
  frn := rfl
  cells := fun id T cs' hk h => by
   rcases cls id _ hk h (by simp) with ⟨i, o', p, _, q2, q3, q4, q5, q6, q7, q8⟩ | ⟨q1, q2⟩
   ·cases o' <;> first | cases q3 | skip
    obtain ⟨r1, cs, r2⟩ := hst.cells i _ _ q8 q2
    have r2 : h0[i]? = some (.cells _ cs) := r2
    rw [q5] at r2
    cases p <;> first | (cases r2; done) | skip
    cases r2
    exact ⟨q6.trans (r1.trans q7), _, q4⟩
   ·exact ⟨q2, cs', q1⟩
  oth := fun id o2 hk h => by
   rcases cls id _ hk h (by simp) with ⟨i, o', p, _, q2, q3, q4, q5, q6, q7, q8⟩ | ⟨q1, q2⟩
   ·cases o' <;> first | cases q3 | skip
    obtain ⟨r1, o3, r2⟩ := hst.oth i _ q8 q2
    have r2 : h0[i]? = some (.oth o3) := r2
    rw [q5] at r2
    cases p <;> first | (cases r2; done) | skip
    cases r2
    exact ⟨q6.trans (r1.trans q7), _, q4⟩
   ·exact ⟨q2, o2, q1⟩
  arr := fun id T t l' f' gn hk h => by
   rcases cls id _ hk h (by simp) with ⟨i, o', p, _, q2, q3, q4, q5, q6, q7, q8⟩ | ⟨q1, q2⟩
   ·cases o' <;> first | (cases q3; done) | skip
    cases q3
    obtain ⟨l, f, g0, r2, r3, r4⟩ := hst.arr i _ _ _ _ _ q8 q2
    have r2 : h0[i]? = some (.arr T t l f g0) := r2
    rw [q5] at r2
    cases p <;> first | (cases r2; done) | skip
    cases r2
    exact ⟨_, _, _, q4, r3, fun e => ⟨q6.trans ((r4 e).1.trans q7), (r4 e).2⟩⟩
   ·exact ⟨l', f', gn, q1, Nat.le_refl _, fun _ => ⟨q2, rfl⟩⟩ }
theorem join_own (hp : Picked s sel h0) (hst : Step (s.part sel h0) s1) {b : Nat} : Own (s.join s1 sel (mergeD (fun i => some (rhoGo sel s.h.length i)) sel s1.h s.h)) b ↔ Own s1 b := by
 have hF : s1.F b ↔ (s.F b ∨ ∃ id o, s.h[id]? = some o ∧ o.alive = true ∧ id ∉ sel ∧ Has s id o b) := by
  rw [hst.frn]
  exact Iff.rfl
 constructor
 ·rintro (h | h)
  ·exact .inl (hF.2 (.inl h))
  ·rcases (join_ownI hp).1 h with h | h
   ·exact .inr h
   ·exact .inl (hF.2 (.inr h))
 ·rintro (h | h)
  ·rcases hF.1 h with h | h
   ·exact .inl h
   ·exact .inr ((join_ownI hp).2 (.inr h))
  ·exact .inr ((join_ownI hp).2 (.inl h))
theorem join_ren (hp : Picked s sel h0) (hst : Step (s.part sel h0) s1) : Ren s1 (s.join s1 sel (mergeD (fun i => some (rhoGo sel s.h.length i)) sel s1.h s.h)) (fun i => some (rhoGo sel s.h.length i)) where
 w := rfl
 own := fun b hn h => hn ((join_own hp hst).1 h)
 kn := fun id i hg hk => by
  cases hg
  obtain ⟨o, h1, h2⟩ := kn_get hk
  exact kn_of (join_get hp h1) (fun e => h2 (renO_resv e))
 sg := fun id i hg _ => by cases hg; exact join_sg hp id _
 obj := fun id i o2 hg hk h => by
  cases hg
  obtain ⟨o, h1, h2⟩ := kn_get hk
  have h3 := join_get (s := s) hp h1
  have h : (mergeD _ _ _ _)[rhoGo sel s.h.length id]? = some o2 := h
  rw [h3] at h
  exact ⟨o, h1, (Option.some.inj h).symm⟩
theorem join_ok (hok : Ok s) (hp : Picked s sel h0) (hst : Step (s.part sel h0) s1) (hok1 : Ok s1) : Ok (s.join s1 sel (mergeD (fun i => some (rhoGo sel s.h.length i)) sel s1.h s.h)) := by
 have hF : ∀ b, (∃ id o, s.h[id]? = some o ∧ o.alive = true ∧ id ∉ sel ∧ Has s id o b) → s1.F b := fun b h => by rw [hst.frn]; exact .inr h
 exact {
  obj := fun id o h => by
   rcases join_cls hp h with ⟨i, o', k1, _, rfl, k2⟩ | rfl | ⟨k1, k2, k3, k4⟩
   ·exact ObjR_ren (join_ren hp hst) (k2 _) (hok1.obj i o' k1)
   ·trivial
   ·cases ha : o.alive with
    | false => cases o <;> first | trivial | cases ha
    | true =>
     refine ObjR_mono (join_step hok hp hst) (k4 _) (fun b hb => ?_) (hok.obj id o k3)
     have h1 := own_lt hok ⟨id, o, k3, ha, hb⟩
     have h2 : ¬ OwnI (s.part sel h0) b := fun h => (part_ok hok hp).dis b h (.inr ⟨id, o, k3, ha, k2, hb⟩)
     exact (hst.keep b h1 h2).2
  inj := fun i j o p b hi hj hao hap hbi hbj => by
   rcases join_cls hp hi with ⟨i', o', a1, a2, rfl, a3⟩ | rfl | ⟨a1, a2, a3, a4⟩
   ·rw [renO_alive] at hao
    have hbi' := (Has_ren (a3 _)).1 hbi
    rcases join_cls hp hj with ⟨j', p', b1, b2, rfl, b3⟩ | rfl | ⟨b1, b2, b3, b4⟩
    ·rw [renO_alive] at hap
     have := hok1.inj i' j' o' p' b a1 b1 hao hap hbi' ((Has_ren (b3 _)).1 hbj)
     rw [← a2, ← b2, this]
    ·cases hap
    ·exact (hok1.dis b ⟨i', o', a1, hao, hbi'⟩ (hF b ⟨j, p, b3, hap, b2, Has.of (b4 _) hbj⟩)).elim
   ·cases hao
   ·have hbi' := Has.of (a4 _) hbi
    rcases join_cls hp hj with ⟨j', p', b1, b2, rfl, b3⟩ | rfl | ⟨b1, b2, b3, b4⟩
    ·rw [renO_alive] at hap
     exact (hok1.dis b ⟨j', p', b1, hap, (Has_ren (b3 _)).1 hbj⟩ (hF b ⟨i, o, a3, hao, a2, hbi'⟩)).elim
    ·cases hap
    ·exact hok.inj i j o p b a3 b3 hao hap hbi' (Has.of (b4 _) hbj)
  fb := fun b hb => Nat.lt_of_lt_of_le (hok.fb b hb) hst.size
  dis := fun b h hFb => by
   rcases (join_ownI hp).1 h with h | ⟨id, o, h1, h2, _, h4⟩
   ·exact hok1.dis b h (by rw [hst.frn]; exact .inl hFb)
   ·exact hok.dis b ⟨id, o, h1, h2, h4⟩ hFb }
end
/-! ### Calls with a part of memory -/
abbrev LocA := List AV → Hp → (AV → Hp → Prop) → Prop
def LocOk (P : Program) (g : FuncId) (A : LocA) : Prop :=
 ∀ ys h0 K, A ys h0 K → Enters P g ∧ ∀ s, s.h = h0 → Ok s → ∀ cs, RL s ys cs →
  Calls P g cs.toArray s.w fun e w' => ∃ s' v cr, e = .returned cr ∧ s'.w = w' ∧ Step s s' ∧ Ok s' ∧ R s' v cr ∧ K v s'.h
def frK (A : LocA) (sel : List Nat) (xs : List AV) (h : Hp) (K : AV → Hp → Prop) : Prop := lenK h fun L => match selOk sel L with
 | true => fl2 (unzs (renVs (inv sel) xs)) fun ys => pickK (inv sel) h sel fun h0 => A ys h0 fun v h1 => force (renV (fun i => some (rhoGo sel L i)) v) fun v => mergeK (fun i => some (rhoGo sel L i)) sel h1 h fun h2 => K v h2
 | false => False
inductive frP (A : LocA) (xs : List AV) (h : Hp) (K : AV → Hp → Prop) : Prop where
 | mk (sel : List Nat) (hh : frK A sel xs h K) : frP A xs h K
section
variable {P : Program}
theorem fr_ok {g : FuncId} {A : LocA} (hA : LocOk P g A) {xs : List AV} {h : Hp} {K : AV → Hp → Prop} (hk : frP A xs h K) : Enters P g ∧ ∀ s, s.h = h → Ok s → ∀ cs, RL s xs cs →
  Calls P g cs.toArray s.w fun e w' => ∃ s' v cr, e = .returned cr ∧ s'.w = w' ∧ Step s s' ∧ Ok s' ∧ R s' v cr ∧ K v s'.h := by
 obtain ⟨sel, hk⟩ := hk
 unfold frK at hk
 rw [lenK_eq] at hk
 split at hk
 ·rename_i hs
  rw [fl2_eq] at hk
  obtain ⟨h0, h1, h2, h3⟩ := pickK_spec sel _ hk
  obtain ⟨he, hc⟩ := hA _ _ _ h1
  refine ⟨he, fun s hsh hok cs hr => ?_⟩
  subst hsh
  obtain ⟨hnd, hlt⟩ := selOk_spec hs
  have hp : Picked s sel h0 := ⟨hnd, hlt, h2, h3⟩
  refine Calls.mono (hc (s.part sel h0) rfl (part_ok hok hp) cs (unzs_R _ _ (RL_ren (part_ren hp) _ _ hr))) ?_
  rintro e w' ⟨s1, v, cr, rfl, rfl, hst, hok1, hv, hK⟩
  rw [force_eq, mergeK_eq] at hK
  exact ⟨s.join s1 sel (mergeD (fun i => some (rhoGo sel s.h.length i)) sel s1.h s.h), _, cr, rfl, rfl, join_step hok hp hst, join_ok hok hp hst hok1, R_ren (join_ren hp hst) v cr hv, hK⟩
 ·exact hk.elim
def lkl : List (FuncId × LocA) → FuncId → Option LocA
 | [], _ => none
 | p :: l, f => bif Nat.beq p.1 f then some p.2 else lkl l f
def LocsOk (P : Program) (l : List (FuncId × LocA)) : Prop := ∀ g A, lkl l g = some A → LocOk P g A
theorem LocsOk.nil : LocsOk P [] := fun g A h => by cases h
theorem LocsOk.cons {g : FuncId} {A : LocA} {l : List (FuncId × LocA)} (h : LocOk P g A) (hl : LocsOk P l) : LocsOk P ((g, A) :: l) := by
 intro g' A' h'
 simp only [lkl] at h'
 cases hb : Nat.beq g g' with
 | true =>
  rw [hb] at h'
  have := Nat.eq_of_beq_eq_true hb
  cases h'
  exact this ▸ h
 | false =>
  rw [hb] at h'
  exact hl g' A' h'
noncomputable def callM (C : Cx) (T : List (FuncId × LocA)) : Nat → CallA
 | 0, _, _, _, _ => False
 | n + 1, g, xs, h, K => match lkl T g with
  | some A => frP A xs h K
  | none => match lkf C.fns g with
   | some fn => bodyA C (fun g xs h K => callM C T n g xs h K) fn xs h K
   | none => False
theorem callM_ok {C : Cx} (hm : P.follows .mixedOrders = true) (hT : TbOk P C.tb) (hD : SpecsOk P C.specs) (hF : FnsOk P C.fns) {T : List (FuncId × LocA)} (hL : LocsOk P T) : ∀ n, CallOk P (callM C T n)
 | 0 => fun g xs h K hk => hk.elim
 | n + 1 => fun g xs h K hk => by
  simp only [callM] at hk
  split at hk
  ·rename_i A hl
   exact fr_ok (hL g A hl) hk
  ·split at hk
   ·rename_i fn hl
    have hfn := hF g fn hl
    refine ⟨hfn.enters, fun s hs hok cs hr => ?_⟩
    subst hs
    exact bodyA_ok hm hT hD (callM_ok hm hT hD hF hL n) hfn hk hok hr
   ·exact hk.elim

/-! ### At a function's end: what is left of memory, and where -/
def exGo : Hp → List Nat → Nat → Bool
 | [], _, _ => true
 | o :: h, sel, i => (match o with
  | .resv => true
  | _ => match sel with
   | j :: _ => Nat.beq j i
   | [] => false) && exGo h sel.tail (i + 1)
theorem exGo_spec : ∀ {h : Hp} {sel : List Nat} {n : Nat}, exGo h sel n = true → ∀ i o, h[i]? = some o → o ≠ .resv → sel[i]? = some (n + i)
 | [], _, _, _, i, o, hi, _ => by simp at hi
 | x :: h, sel, n, hx, i, o, hi, hne => by
  simp only [exGo, Bool.and_eq_true] at hx
  cases i with
  | zero =>
   simp at hi
   subst hi
   have h1 := hx.1
   cases x <;> first | exact absurd rfl hne | skip
   all_goals
    cases sel with
    | nil => cases h1
    | cons j js => simp only at h1; rw [Nat.eq_of_beq_eq_true h1]; rfl
  | succ i =>
   have := exGo_spec hx.2 i o (by simpa using hi) hne
   cases sel with
   | nil => simp at this
   | cons j js => rw [List.getElem?_cons_succ]; rw [List.tail_cons] at this; rw [this]; congr 1; omega
def exK (h0 : Hp) (K : AV → Hp → Prop) (sel vsel : List Nat) (v : AV) (h : Hp) : Prop := lenK h fun L => match selOk (sel ++ vsel) L && exGo h0 sel 0 with
 | true => pickK (inv vsel) h vsel fun hv => (viewR hv (renV (inv vsel) v) fun y => .ok y none).sat fun y _ => pickK (inv sel) h sel fun h1 => force y fun y => K y h1
 | false => False
inductive exP (h0 : Hp) (K : AV → Hp → Prop) (v : AV) (h : Hp) : Prop where
 | mk (sel vsel : List Nat) (hh : exK h0 K sel vsel v h) : exP h0 K v h
def exNK (h0 : Hp) (K : AV → Hp → Prop) (sel : List Nat) (v : AV) (h : Hp) : Prop := lenK h fun L => match selOk sel L && exGo h0 sel 0 with
 | true => pickK (inv sel) h sel fun h1 => force (renV (inv sel) v) fun y => K y h1
 | false => False
inductive exNP (h0 : Hp) (K : AV → Hp → Prop) (v : AV) (h : Hp) : Prop where
 | mk (sel : List Nat) (hh : exNK h0 K sel v h) : exNP h0 K v h
def St.left (s1 : St) (sel : List Nat) (h1 : Hp) : St := ⟨(s1.part sel h1).σ, h1, s1.w, s1.F⟩
theorem left_own {s1 : St} {sel : List Nat} {h1 : Hp} (hp : Picked s1 sel h1) {b : Nat} (h : OwnI (s1.left sel h1) b) : OwnI (s1.part sel h1) b ∧ OwnI s1 b := by
 obtain ⟨i, o, a1, a2, a3⟩ := h
 have h : OwnI (s1.part sel h1) b := ⟨i, o, a1, a2, a3⟩
 obtain ⟨id, o', b1, b2, _, b4⟩ := (part_ownI hp).1 h
 exact ⟨h, ⟨id, o', b1, b2, b4⟩⟩
theorem left_ren {s1 : St} {sel : List Nat} {h1 : Hp} (hp : Picked s1 sel h1) : Ren s1 (s1.left sel h1) (inv sel) := by
 have h := part_ren hp
 exact ⟨rfl, fun b hn h => hn (h.elim (fun h => .inl h) (fun h => .inr (left_own hp h).2)), h.kn, h.sg, h.obj⟩
theorem left_ok {s s1 : St} (hst : Step s s1) (hok : Ok s1) {sel : List Nat} {h1 : Hp} (hp : Picked s1 sel h1) (hx : ∀ (i : Nat) (o : AObj), s.h[i]? = some o → o ≠ .resv → sel[i]? = some (0 + i)) : Step s (s1.left sel h1) ∧ Ok (s1.left sel h1) := by
 have hren := left_ren hp
 have hpok := part_ok hok hp
 have at' : ∀ id, Av.kn s.h id = true → sel[id]? = some id := by
  intro id hk
  obtain ⟨o, a1, a2⟩ := kn_get hk
  have := hx id o a1 a2
  rwa [Nat.zero_add] at this
 have old : ∀ (id : Nat) (o : AObj), Av.kn s.h id = true → h1[id]? = some o → ∃ o', s1.h[id]? = some o' ∧ o = renO (inv sel) o' ∧ (s1.left sel h1).σ id = s1.σ id := by
  intro id o hk ho
  have h2 := at' id hk
  obtain ⟨o', a1, a2⟩ := hp.get id id h2
  rw [ho] at a2
  exact ⟨o', a1, Option.some.inj a2, part_sg (h0 := h1) h2⟩
 refine ⟨?_, ?_⟩
 ·exact {
   os := hst.os
   tape := hst.tape
   output := hst.output
   drawn := hst.drawn
   size := hst.size
   kn := fun id hk => by
    have h2 := at' id hk
    exact hren.kn id id (inv_of hp.nd h2) (hst.kn id hk)
   keep := fun b hb hn => ⟨fun h => (hst.keep b hb hn).1 (left_own hp h).2, (hst.keep b hb hn).2⟩
   frn := hst.frn
   cells := fun id T cs' hk h => by
    obtain ⟨o', a1, a2, a3⟩ := old id _ hk h
    cases o' <;> first | cases a2 | skip
    obtain ⟨b1, b2⟩ := hst.cells id _ _ hk a1
    exact ⟨a3.trans b1, b2⟩
   oth := fun id o2 hk h => by
    obtain ⟨o', a1, a2, a3⟩ := old id _ hk h
    cases o' <;> first | cases a2 | skip
    obtain ⟨b1, b2⟩ := hst.oth id _ hk a1
    exact ⟨a3.trans b1, b2⟩
   arr := fun id T t l' f' gn hk h => by
    obtain ⟨o', a1, a2, a3⟩ := old id _ hk h
    cases o' <;> first | (cases a2; done) | skip
    cases a2
    obtain ⟨l, f, g0, b1, b2, b3⟩ := hst.arr id _ _ _ _ _ hk a1
    exact ⟨l, f, g0, b1, b2, fun e => ⟨a3.trans (b3 e).1, (b3 e).2⟩⟩ }
 ·exact {
   obj := fun i o h => by
    obtain ⟨j, o', h4, h5, rfl⟩ := part_get hp h
    exact ObjR_ren hren (part_sg (h0 := h1) h4) (hok.obj j o' h5)
   inj := fun i j o p b hi hj => hpok.inj i j o p b hi hj
   fb := hok.fb
   dis := fun b h => hok.dis b (left_own hp h).2 }
theorem exN_ok {s s1 : St} {K : AV → Hp → Prop} {v : AV} {cr : Value} (hst : Step s s1) (hok : Ok s1) (hv : R s1 v cr) (hk : exNP s.h K v s1.h) : ∃ s' v', s'.w = s1.w ∧ Step s s' ∧ Ok s' ∧ R s' v' cr ∧ K v' s'.h := by
 obtain ⟨sel, hk⟩ := hk
 unfold exNK at hk
 rw [lenK_eq] at hk
 split at hk
 ·rename_i hs
  rw [Bool.and_eq_true] at hs
  obtain ⟨hnd, hlt⟩ := selOk_spec hs.1
  have hx := exGo_spec hs.2
  obtain ⟨h1, k1, k2, k3⟩ := pickK_spec sel _ hk
  rw [force_eq] at k1
  have hp : Picked s1 sel h1 := ⟨hnd, hlt, k2, k3⟩
  obtain ⟨q1, q2⟩ := left_ok hst hok hp hx
  exact ⟨s1.left sel h1, _, rfl, q1, q2, R_ren (left_ren hp) v cr hv, k1⟩
 ·exact hk.elim
theorem ex_ok {s s1 : St} {K : AV → Hp → Prop} {v : AV} {cr : Value} (hst : Step s s1) (hok : Ok s1) (hv : R s1 v cr) (hk : exP s.h K v s1.h) : ∃ s' v', s'.w = s1.w ∧ Step s s' ∧ Ok s' ∧ R s' v' cr ∧ K v' s'.h := by
 obtain ⟨sel, vsel, hk⟩ := hk
 unfold exK at hk
 rw [lenK_eq] at hk
 split at hk
 ·rename_i hs
  rw [Bool.and_eq_true] at hs
  obtain ⟨hnd, hlt⟩ := selOk_spec hs.1
  have hx := exGo_spec hs.2
  obtain ⟨hnd1, hnd2, hdis⟩ := List.nodup_append.1 hnd
  obtain ⟨hv1, k1, k2, k3⟩ := pickK_spec vsel _ hk
  have hpv : Picked s1 vsel hv1 := ⟨hnd2, fun j hj => hlt j (List.mem_append_right _ hj), k2, k3⟩
  obtain ⟨y, ob, his, k1⟩ := Res.sat_is k1
  obtain ⟨h1, k1, k4, k5⟩ := pickK_spec sel _ k1
  rw [force_eq] at k1
  have hp : Picked s1 sel h1 := ⟨hnd1, fun j hj => hlt j (List.mem_append_left _ hj), k4, k5⟩
  obtain ⟨q1, q2⟩ := left_ok hst hok hp hx
  have hpvok := part_ok hok hpv
  obtain ⟨z, hz, hR⟩ := viewR_ok hpvok (SubH.refl _) (F := (s1.part vsel hv1).F) (fun b hb => .inl hb) _ cr _ y ob (R_ren (part_ren hpv) v cr hv) (fun _ b hb => hpvok.dis b hb) his
  obtain ⟨rfl, _⟩ := hz
  refine ⟨s1.left sel h1, z, rfl, q1, q2, ?_, k1⟩
  have hRL : RL ((s1.part vsel hv1).callee (s1.part vsel hv1).F) [z] [cr] := by
   simp only [RL]
   exact ⟨cr, [], rfl, hR, rfl⟩
  have h2 := RL_pure (s := (s1.part vsel hv1).callee (s1.part vsel hv1).F) (s2 := s1.left sel h1) rfl rfl (fun b hn h => hn (callee_own.2 (by
   rcases h with h | h
   ·exact .inl h
   ·obtain ⟨id, o, c1, c2, c3, c4⟩ := (part_ownI hp).1 (left_own hp h).1
    exact .inr ⟨id, o, c1, c2, fun hm => hdis id c3 id hm rfl, c4⟩))) [z] [cr] hRL
  simp only [RL] at h2
  obtain ⟨c, l, e, h3, h4⟩ := h2
  subst h4
  cases e
  exact h3
 ·exact hk.elim
theorem loc_body {C : Cx} (hm : P.follows .mixedOrders = true) (hT : TbOk P C.tb) (hD : SpecsOk P C.specs) {call : CallA} (hcall : CallOk P call) {g : FuncId} {fn : Func} (hf : FnOk P g fn) {A : LocA}
  (h : ∀ ys h0 K, A ys h0 K → bodyA C call fn ys h0 (fun v h => exP h0 K v h)) : LocOk P g A := by
 intro ys h0 K hA
 refine ⟨hf.enters, fun s hs hok cs hr => ?_⟩
 have hb := h ys h0 K hA
 subst hs
 refine Calls.mono (bodyA_ok hm hT hD hcall hf hb hok hr) ?_
 rintro e w' ⟨s1, v, cr, rfl, rfl, hst, hok1, hv, hK⟩
 obtain ⟨s', v', a1, a2, a3, a4, a5⟩ := ex_ok hst hok1 hv hK
 exact ⟨s', v', cr, rfl, a1, a2, a3, a4, a5⟩
theorem loc_bodyN {C : Cx} (hm : P.follows .mixedOrders = true) (hT : TbOk P C.tb) (hD : SpecsOk P C.specs) {call : CallA} (hcall : CallOk P call) {g : FuncId} {fn : Func} (hf : FnOk P g fn) {A : LocA}
  (h : ∀ ys h0 K, A ys h0 K → bodyA C call fn ys h0 (fun v h => exNP h0 K v h)) : LocOk P g A := by
 intro ys h0 K hA
 refine ⟨hf.enters, fun s hs hok cs hr => ?_⟩
 have hb := h ys h0 K hA
 subst hs
 refine Calls.mono (bodyA_ok hm hT hD hcall hf hb hok hr) ?_
 rintro e w' ⟨s1, v, cr, rfl, rfl, hst, hok1, hv, hK⟩
 obtain ⟨s', v', a1, a2, a3, a4, a5⟩ := exN_ok hst hok1 hv hK
 exact ⟨s', v', cr, rfl, a1, a2, a3, a4, a5⟩
end
theorem exA {h0 : Hp} {K : AV → Hp → Prop} {v : AV} {h : Hp} (sel : List Nat) (hh : exK h0 K sel (idsV v) v h) : exP h0 K v h := .mk sel _ hh
theorem auTq {b : Bool} {x y : Prop} (h : x) (hb : b = true := by with_reducible first | exact rfl | assumption) : br b x y := .t hb h
theorem auFq {b : Bool} {x y : Prop} (h : y) (hb : b = false := by with_reducible first | exact rfl | assumption) : br b x y := .f hb h
end Av
