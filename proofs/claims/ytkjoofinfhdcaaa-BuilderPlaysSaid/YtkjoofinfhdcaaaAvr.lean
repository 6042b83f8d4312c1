/-
  An abstract reading of values and memory: frames; arrays that are given up.
-/
import Derived.Test.YtkjoofinfhdcaaaAvg
namespace Av
open Go

/-! ### Frames -/
theorem Tr.get_set_ne : ∀ (f : Tr) (n m : Nat) (x : AV), m ≠ n → (f.set n x).get m = f.get m
 | .leaf, _, _, _, _ => rfl
 | .node l v r, n, m, x, h => by
  cases n with
  | zero =>
   cases m with
   | zero => exact absurd rfl h
   | succ m => simp only [Tr.set, Tr.get]
  | succ n =>
   cases m with
   | zero => simp only [Tr.set]; split <;> simp only [Tr.get]
   | succ m =>
    simp only [Tr.set]
    cases hn : Nat.beq (n % 2) 0 <;> cases hm : Nat.beq (m % 2) 0 <;> simp only [Tr.get, hm]
    ·refine Tr.get_set_ne r _ _ _ (fun e => h ?_)
     have h1 : n % 2 ≠ 0 := fun e => by rw [e] at hn; simp at hn
     have h2 : m % 2 ≠ 0 := fun e => by rw [e] at hm; simp at hm
     omega
    ·refine Tr.get_set_ne l _ _ _ (fun e => h ?_)
     have h1 := Nat.eq_of_beq_eq_true hn
     have h2 := Nat.eq_of_beq_eq_true hm
     omega
theorem Tr.get_set_eq : ∀ (f : Tr) (n : Nat) (x : AV), (f.set n x).get n = x ∨ (f.set n x).get n = .any
 | .leaf, _, _ => .inr rfl
 | .node l v r, n, x => by
  cases n with
  | zero => exact .inl rfl
  | succ n =>
   simp only [Tr.set]
   cases hn : Nat.beq (n % 2) 0 <;> simp only [Tr.get, hn]
   ·exact Tr.get_set_eq r _ _
   ·exact Tr.get_set_eq l _ _

def FR (s : St) (get : Nat → AV) (a : Act) : Prop := ∀ t, R s (get t) (a.tmps.getD t undef)
theorem FR.step {s s' : St} {g : Nat → AV} {a : Act} (h : FR s g a) (hs : Step s s') : FR s' g a := fun t => R_mono hs _ _ (h t)
theorem getD_put {a : Act} {d t : Nat} {v : Value} (hd : d < a.tmps.size) : (a.put (some d) v).tmps.getD t undef = if t = d then v else a.tmps.getD t undef := by
 simp only [Act.put, Array.getD_eq_getD_getElem?, Array.getElem?_setIfInBounds]
 by_cases h : t = d
 ·subst h; simp [hd]
 ·rw [if_neg (fun e => h e.symm), if_neg h]
theorem FR.put {s s' : St} {f : Tr} {a : Act} (h : FR s f.get a) (hs : Step s s') {d : Nat} (hd : d < a.tmps.size) {v : AV} {cv : Value} (hv : R s' v cv) : FR s' (f.set d v).get (a.put (some d) cv) := by
 intro t
 rw [getD_put hd]
 by_cases ht : t = d
 ·subst ht
  rw [if_pos rfl]
  rcases Tr.get_set_eq f t v with e | e <;> rw [e]
  ·exact hv
  ·simp only [R]
 ·rw [if_neg ht, Tr.get_set_ne f d t v ht]
  exact R_mono hs _ _ (h t)
theorem avOf_R (s : St) (c : Value) : R s (avOf c) c := by
 unfold avOf
 split <;> simp only [R]
theorem ev_R {s : St} {f : Tr} {a : Act} (h : FR s f.get a) (x : Operand) : R s (ev f.get x) (a.eval x) := by
 cases x with
 | tmp t => exact h t
 | const v => exact avOf_R s v
 | func f => simp only [ev, Act.eval, R, RL]; exact ⟨[], [], rfl, rfl, rfl⟩
 | global g => simp only [ev, R]
theorem any_set (f : Tr) (n m : Nat) : (f.set n .any).get m = if m = n then .any else f.get m := by
 by_cases h : m = n
 ·subst h
  rw [if_pos rfl]
  rcases Tr.get_set_eq f m .any with e | e <;> exact e
 ·rw [if_neg h]
  exact Tr.get_set_ne f n m _ h
theorem FR.set {s : St} {f : Tr} {a : Act} (h : FR s f.get a) {t : Nat} {v : AV} (hv : R s v (a.tmps.getD t undef)) : FR s (f.set t v).get a := by
 intro u
 by_cases hu : u = t
 ·subst hu
  rcases Tr.get_set_eq f u v with e | e <;> rw [e]
  ·exact hv
  ·simp only [R]
 ·rw [Tr.get_set_ne f t u _ hu]
  exact h u
theorem put_get {h : Hp} {nid : Nat} {ob : AObj} (hlt : nid < h.length) (id : Nat) : (put h nid ob)[id]? = if id = nid then some ob else h[id]? := by
 unfold put
 rw [if_pos hlt]
 by_cases he : id = nid
 ·subst he; rw [if_pos rfl]; simp [hlt]
 ·rw [if_neg he, List.getElem?_set_ne (fun e => he e.symm)]
/-! ### Empty slices, and arrays that are given up -/
def St.kill (s : St) (id : Nat) : St := ⟨s.σ, put s.h id .dead, s.w, s.F⟩
theorem kill_get {s : St} {id : Nat} (hlt : id < s.h.length) {i : Nat} {o : AObj} (h : (s.kill id).h[i]? = some o) (ha : o ≠ .dead) : s.h[i]? = some o ∧ i ≠ id := by
 have h : (put s.h id .dead)[i]? = some o := h
 rw [put_get hlt] at h
 split at h
 ·cases h; exact absurd rfl ha
 ·rename_i hne; exact ⟨h, hne⟩
theorem kill_own {s : St} {id : Nat} (hlt : id < s.h.length) {b : Nat} (h : OwnI (s.kill id) b) : OwnI s b := by
 obtain ⟨i, o, h1, h2, h3⟩ := h
 exact ⟨i, o, (kill_get hlt h1 (by rintro rfl; cases h2)).1, h2, h3⟩
theorem kill_step {s : St} {id : Nat} (hlt : id < s.h.length) : Step s (s.kill id) where
 os := rfl
 tape := rfl
 output := rfl
 drawn := Nat.le_refl _
 size := Nat.le_refl _
 kn := fun i hi => by
  unfold Av.kn at hi ⊢
  show (match (put s.h id .dead)[i]? with | some .resv => false | some _ => true | none => false) = true
  rw [put_get hlt]
  by_cases he : i = id
  ·rw [if_pos he]
  ·rw [if_neg he]; exact hi
 keep := fun b _ hn => ⟨fun h => hn (kill_own hlt h), rfl⟩
 frn := rfl
 cells := fun i T cs' _ hc => ⟨rfl, cs', (kill_get hlt hc (fun h => by cases h)).1⟩
 oth := fun i o' _ hc => ⟨rfl, o', (kill_get hlt hc (fun h => by cases h)).1⟩
 arr := fun i T t l' f' g _ hc => ⟨l', f', g, (kill_get hlt hc (fun h => by cases h)).1, Nat.le_refl _, fun _ => ⟨rfl, rfl⟩⟩
theorem kill_ok {s : St} (hok : Ok s) {id : Nat} (hlt : id < s.h.length) : Ok (s.kill id) where
 obj := fun i o hi => by
  by_cases ho : o = .dead
  ·subst ho; trivial
  ·obtain ⟨h1, _⟩ := kill_get hlt hi ho
   exact ObjR_mono (kill_step hlt) rfl (fun _ _ => rfl) (hok.obj i o h1)
 inj := fun i j o p b hi hj ho hp => hok.inj i j o p b (kill_get hlt hi (by rintro rfl; cases ho)).1 (kill_get hlt hj (by rintro rfl; cases hp)).1 ho hp
 fb := hok.fb
 dis := fun b h => hok.dis b (kill_own hlt h)
theorem kill_view {s : St} (hok : Ok s) {id : Nat} {T : TypeId} {t : Ty} {l : List t.El} {f : Bool} {g : Nat} (ho : s.h[id]? = some (.arr T t l f g)) {base : Option Addr} {len cap lo n : Nat} {ad : Option Addr} {cap' : Nat} (hσ : s.σ id = .slice base len cap) (hn : lo + n ≤ l.length) (hc : n ≤ cap')
  (ha : 0 < n → ∃ b, base = some ⟨b, 0, none⟩ ∧ ad = some ⟨b, lo * t.size, none⟩) : RLst (s.kill id) t ((l.drop lo).take n) (.slice ad n cap') := by
 have hlt : id < s.h.length := (List.getElem?_eq_some_iff.1 ho).1
 have key := own_view hok (F := Own (s.kill id)) (fun b hb => by
   rcases hb with h1 | h1
   ·exact .inl h1
   ·exact .inr (kill_own hlt h1)) (id := id) (fun b hbk hF => by
   rcases hF with h1 | ⟨j, o, h1, h2, h3⟩
   ·exact hok.dis b ⟨id, _, ho, rfl, .inl hbk⟩ h1
   ·obtain ⟨h4, h5⟩ := kill_get hlt h1 (by rintro rfl; cases h2)
    exact h5 (hok.inj id j _ _ b ho h4 rfl h2 (.inl hbk) h3).symm) ho hσ hn hc ha
 exact RLst_pure (s := s.callee (Own (s.kill id))) (s2 := s.kill id) rfl (fun b hb h => hb (callee_own.2 h)) key
theorem RL_set {s : St} : ∀ {cs : List AV} {vs : List Value} {j : Nat} {y : AV}, RL s cs vs → (∀ c, vs[j]? = some c → (∀ x, cs[j]? = some x → R s x c) → R s y c) → RL s (cs.set j y) vs
 | [], vs, j, y, h, _ => by simpa using h
 | c :: cs, vs, 0, y, h, hy => by
  simp only [RL] at h
  obtain ⟨v, vs', rfl, h1, h2⟩ := h
  simp only [List.set_cons_zero, RL]
  exact ⟨v, vs', rfl, hy v rfl (fun x hx => by cases hx; exact h1), h2⟩
 | c :: cs, vs, j + 1, y, h, hy => by
  simp only [RL] at h
  obtain ⟨v, vs', rfl, h1, h2⟩ := h
  simp only [List.set_cons_succ, RL]
  exact ⟨v, vs', rfl, h1, RL_set h2 (fun c hc hx => hy c (by simpa using hc) (fun x hxx => hx x (by simpa using hxx)))⟩
theorem nil_own {s : St} (hok : Ok s) (T : TypeId) (t : Ty) : Step s (s.new s.h.length (.arr T t [] false 0) (.slice none 0 0) s.w) ∧ Ok (s.new s.h.length (.arr T t [] false 0) (.slice none 0 0) s.w) ∧ R (s.new s.h.length (.arr T t [] false 0) (.slice none 0 0) s.w) (.own s.h.length 0 0) (.slice none 0 0) := by
 have hfree : Free s.h s.h.length := .inl rfl
 have hno : ∀ b, blkOf (Value.slice none 0 0) = some b → s.w.heap.size ≤ b := fun b hb => by cases hb
 have hst := St.new_step (s := s) hfree (ob := .arr T t [] false 0) (v := .slice none 0 0) (Grew.refl s.w) hno
 have hsame : (s.new s.h.length (.arr T t [] false 0) (.slice none 0 0) s.w).σ s.h.length = .slice none 0 0 := by simp only [St.new]; exact upd_same _ _ _
 have hobj : ObjR (s.new s.h.length (.arr T t [] false 0) (.slice none 0 0) s.w) s.h.length (.arr T t [] false 0) := by
  refine ⟨[], ⟨by simp, .inl ⟨hsame, rfl⟩⟩, by simp, by simp, by simp⟩
 have hok' := St.new_ok hok hfree (Grew.refl s.w) hno hobj
 have hg : (put s.h s.h.length (AObj.arr T t [] false 0))[s.h.length]? = some (.arr T t [] false 0) := put_same hfree _
 refine ⟨hst, hok', ?_⟩
 simp only [R]
 refine ⟨?_, none, 0, rfl, fun T' t' l' f' g0 hc => ?_⟩
 ·unfold kn
  show (match (put s.h s.h.length (AObj.arr T t [] false 0))[s.h.length]? with | some .resv => false | some _ => true | none => false) = true
  rw [hg]
 ·have hc : (put s.h s.h.length (AObj.arr T t [] false 0))[s.h.length]? = some (.arr T' t' l' f' g0) := hc
  rw [hg] at hc
  cases hc
  exact ⟨Nat.le_refl _, fun _ => ⟨by simp, 0, hsame⟩⟩
theorem frzV_ok {s : St} (hok : Ok s) {i0 : Nat} {v : AV} {c : Value} (hv : R s v c) {K : AV → Prop} (h : frzV s.h i0 v K) : ∃ u, K u ∧ R (s.kill i0) u c := by
 unfold frzV at h
 split at h
 ·rename_i id g m
  split at h
  ·rename_i T' t' l' f' g' hid ho
   have hid := Nat.eq_of_beq_eq_true hid
   subst hid
   obtain ⟨⟨rfl, hm⟩, h5⟩ := need_elim h
   refine ⟨_, h5, ?_⟩
   simp only [R] at hv ⊢
   obtain ⟨_, base, cap, hv, hr⟩ := hv
   obtain ⟨_, hr2⟩ := hr T' t' l' f' g' ho
   obtain ⟨_, len, hσ⟩ := hr2 rfl
   obtain ⟨_, hcap, hb⟩ := own_RC hok ho hσ
   have key := kill_view hok ho (lo := 0) (n := m) (ad := base) (cap' := cap) hσ (by omega) (by omega) (fun hpos => by
    have hl0 : l' ≠ [] := by rintro rfl; simp at hm; omega
    obtain ⟨b, hb, _⟩ := hb hl0
    exact ⟨b, hb, by rw [hb, Nat.zero_mul]⟩)
   rw [List.drop_zero] at key
   rw [hv]
   exact key
  ·exact h.elim
 ·rename_i id g lo m
  split at h
  ·rename_i T' t' l' f' g' hid ho
   have hid := Nat.eq_of_beq_eq_true hid
   subst hid
   obtain ⟨⟨rfl, hm⟩, h5⟩ := need_elim h
   refine ⟨_, h5, ?_⟩
   simp only [R] at hv ⊢
   obtain ⟨_, ad, cap', hv, hc, hr⟩ := hv
   obtain ⟨_, hr2⟩ := hr T' t' l' f' g' ho
   obtain ⟨_, base, len, cap, hσ, hb⟩ := hr2 rfl
   rw [hv]
   exact kill_view hok ho (lo := lo) (n := m) (ad := ad) (cap' := cap') hσ hm hc hb
  ·exact h.elim
 ·rename_i id g lo m
  split at h
  ·rename_i T' t' l' f' g' hid ho
   have hid := Nat.eq_of_beq_eq_true hid
   subst hid
   obtain ⟨⟨rfl, hm⟩, h5⟩ := need_elim h
   refine ⟨_, h5, ?_⟩
   simp only [R] at hv ⊢
   obtain ⟨⟨_, ad, cap', hv, hc, hr⟩, _⟩ := hv
   obtain ⟨_, hr2⟩ := hr T' t' l' f' g' ho
   obtain ⟨_, base, len, cap, hσ, hb⟩ := hr2 rfl
   rw [hv]
   exact kill_view hok ho (lo := lo) (n := m) (ad := ad) (cap' := cap') hσ hm hc hb
  ·exact h.elim
 ·exact h.elim
theorem frzL_ok {s : St} (hok : Ok s) {i0 : Nat} (hlt : i0 < s.h.length) : ∀ (cs : List AV) (vs : List Value) (K : List AV → Prop), RL s cs vs → frzL s.h i0 cs K → ∃ us, K us ∧ RL (s.kill i0) us vs
 | [], vs, K, hr, h => ⟨[], h, by simp only [RL] at hr ⊢; exact hr⟩
 | c :: cs, vs, K, hr, h => by
  simp only [RL] at hr
  obtain ⟨v, vs', rfl, h1, h2⟩ := hr
  simp only [frzL, f1_eq] at h
  split at h
  ·obtain ⟨u, h, hu⟩ := frzV_ok hok h1 h
   obtain ⟨us, h, hus⟩ := frzL_ok hok hlt cs vs' _ h2 h
   exact ⟨_, h, by simp only [RL]; exact ⟨v, vs', rfl, hu, hus⟩⟩
  ·obtain ⟨us, h, hus⟩ := frzL_ok hok hlt cs vs' _ h2 h
   exact ⟨_, h, by simp only [RL]; exact ⟨v, vs', rfl, R_mono (kill_step hlt) _ _ h1, hus⟩⟩
theorem frzW_ok {s : St} (hok : Ok s) {i0 : Nat} (hlt : i0 < s.h.length) {v : AV} {c : Value} (hv : R s v c) {K : AV → Prop} (h : frzW s.h i0 v K) : ∃ u, K u ∧ R (s.kill i0) u c := by
 unfold frzW at h
 split at h
 ·simp only [R] at hv
  obtain ⟨vs, rfl, h1, h2⟩ := hv
  obtain ⟨us, h, hus⟩ := frzL_ok hok hlt _ vs _ h1 h
  exact ⟨_, h, by simp only [R]; exact ⟨vs, rfl, hus, h2⟩⟩
 ·exact frzV_ok hok hv h
theorem frzS_ok {a : Act} {s : St} (hok : Ok s) {i0 : Nat} (hlt : i0 < s.h.length) {f0 : Tr} (hf0 : FR s f0.get a) : ∀ (ns : List Nat) (f : Tr) (K : Tr → Prop), FR (s.kill i0) f.get a → frzS s.h i0 f0 ns f K → ∃ f', FR (s.kill i0) f'.get a ∧ K f'
 | [], f, K, hf, h => ⟨f, hf, h⟩
 | n :: ns, f, K, hf, h => by
  simp only [frzS, f1_eq] at h
  obtain ⟨u, h, hu⟩ := frzW_ok hok hlt (hf0 n) h
  rw [Tr.setK_eq] at h
  exact frzS_ok hok hlt hf0 ns _ K (hf.set hu) h
theorem frzC_ok {s : St} (hok : Ok s) {i0 : Nat} : ∀ (l : List (Nat × Nat)) (t : St) (K : Hp → Prop), Ok t → Step (s.kill i0) t → t.w = s.w → t.σ = s.σ → frzC s.h i0 l t.h K → ∃ t', Ok t' ∧ Step (s.kill i0) t' ∧ t'.w = s.w ∧ K t'.h
 | [], t, K, ht, hst, hw, hσ, h => ⟨t, ht, hst, hw, h⟩
 | (i, j) :: l, t, K, ht, hst, hw, hσ, h => by
  simp only [frzC] at h
  split at h
  ·rename_i T0 cs0 ho0
   split at h
   ·rename_i v hj
    obtain ⟨b, vs, rest, e1, hh, hl, h2⟩ := hok.obj i _ ho0
    have hvj : ∃ c, vs[j]? = some c ∧ R s v c := by
     clear h hh h2 ho0
     induction cs0 generalizing vs j with
     | nil => simp at hj
     | cons x cs ih =>
      simp only [RL] at hl
      obtain ⟨c, vs', rfl, h1, h2⟩ := hl
      cases j with
      | zero => cases hj; exact ⟨c, rfl, h1⟩
      | succ j =>
       obtain ⟨c', h3, h4⟩ := ih j (by simpa using hj) vs' h2
       exact ⟨c', by simpa using h3, h4⟩
    obtain ⟨c, hc, hR⟩ := hvj
    obtain ⟨u, h, hu⟩ := frzV_ok hok hR h
    rw [f1_eq] at h
    split at h
    ·rename_i Tc cs ho1
     rw [putK_eq] at h
     have hcmp : Cmp (.cells Tc cs) (t.σ i) (.cells Tc (cs.set j u)) (t.σ i) := .cells _ _ _ _
     have hgb : Gb t.w t.w (blkOf (t.σ i)) := ⟨rfl, rfl, rfl, Nat.le_refl _, Nat.le_refl _, fun _ _ _ => rfl⟩
     have hst2 := St.turn_step ho1 hcmp hgb (fun b hb => .inl hb)
     obtain ⟨b', vs', rest', e1', hh', hl', h2'⟩ := ht.obj i _ ho1
     have hvs : vs' ++ rest' = vs ++ rest := by
      have e2 := e1'
      rw [hσ, e1] at e2
      cases e2
      have hh2 := hh'
      rw [hw, hh] at hh2
      injection hh2 with hh2
      injection hh2 with hh2
      exact (congrArg Array.toList hh2).symm
     have hok2 := St.turn_ok ht ho1 hcmp hgb (fun b hb => .inl hb) (by
      refine ⟨b', vs', rest', by simp only [St.turn, upd_same]; exact e1', hh', RL_mono hst2 _ _ (RL_set hl' (fun c' hc' _ => ?_)), h2'⟩
      have l1 := (List.getElem?_eq_some_iff.1 hc').1
      have l2 := (List.getElem?_eq_some_iff.1 hc).1
      have e3 : (vs' ++ rest')[j]? = (vs ++ rest)[j]? := by rw [hvs]
      rw [List.getElem?_append_left l1, List.getElem?_append_left l2, hc', hc] at e3
      cases e3
      exact R_mono hst _ _ hu)
     have hlt : i < t.h.length := (List.getElem?_eq_some_iff.1 ho1).1
     refine frzC_ok hok l _ K hok2 (hst.trans hst2) hw ?_ ?_
     ·simp only [St.turn]
      rw [← hσ]
      funext x
      by_cases hx : x = i
      ·subst hx; rw [upd_same]
      ·rw [upd_other _ _ hx]
     ·rw [set_put hlt] at h
      exact h
    ·exact h.elim
   ·exact h.elim
  ·exact h.elim
/-! ### An array under another's number -/
def St.move (s : St) (id p : Nat) (ob : AObj) : St := ⟨upd s.σ p (s.σ id), put (put s.h p ob) id .dead, s.w, s.F⟩
section move
variable {s : St} {id p : Nat} {T : TypeId} {t : Ty} {l : List t.El} {b : Bool} {g : Nat} {l2 : List t.El} {b2 : Bool} {gp : Nat}
theorem move_get (hid : id < s.h.length) (hp : p < s.h.length) (ob : AObj) (i : Nat) : (s.move id p ob).h[i]? = if i = id then some .dead else if i = p then some ob else s.h[i]? := by
 show (put (put s.h p ob) id .dead)[i]? = _
 have h1 : (put s.h p ob).length = s.h.length := by unfold put; rw [if_pos hp, List.length_set]
 rw [put_get (by omega), put_get hp]
theorem move_own (hne : id ≠ p) (ho : s.h[id]? = some (.arr T t l b g)) (hp : p < s.h.length) {ob : AObj} {x : Nat} (h : OwnI (s.move id p ob) x) (hmo : ob.more = [] := by rfl) : OwnI s x := by
 obtain ⟨i, o, h1, h2, h3⟩ := h
 have hlt : id < s.h.length := (List.getElem?_eq_some_iff.1 ho).1
 rw [move_get hlt hp] at h1
 split at h1
 ·cases h1; cases h2
 ·split at h1
  ·rename_i hi
   subst hi
   cases h1
   have h3 : blkOf (upd s.σ i (s.σ id) i) = some x := h3.one hmo
   rw [upd_same] at h3
   exact ⟨id, _, ho, rfl, .inl h3⟩
  ·rename_i hi
   exact ⟨i, o, h1, h2, Has.of (s' := s.move id p ob) (upd_other _ _ hi) h3⟩
theorem move_step (hne : id ≠ p) (ho : s.h[id]? = some (.arr T t l b g)) (hp : s.h[p]? = some (.arr T t l2 b2 gp)) : Step s (s.move id p (.arr T t l b (gp + 1))) := by
 have hlt : id < s.h.length := (List.getElem?_eq_some_iff.1 ho).1
 have hlp : p < s.h.length := (List.getElem?_eq_some_iff.1 hp).1
 refine ⟨rfl, rfl, rfl, Nat.le_refl _, Nat.le_refl _, fun i hi => ?_, fun x _ hn => ⟨fun h => hn (move_own hne ho hlp h), rfl⟩, rfl, fun i T' cs' _ hc => ?_, fun i o' _ hc => ?_, fun i T' t' l' f' g' _ hc => ?_⟩
 ·unfold Av.kn at hi ⊢
  rw [move_get hlt hlp]
  by_cases h1 : i = id
  ·rw [if_pos h1]
  ·rw [if_neg h1]
   by_cases h2 : i = p
   ·rw [if_pos h2]
   ·rw [if_neg h2]; exact hi
 ·rw [move_get hlt hlp] at hc
  split at hc
  ·cases hc
  ·split at hc
   ·cases hc
   ·rename_i h2
    exact ⟨upd_other _ _ h2, cs', hc⟩
 ·rw [move_get hlt hlp] at hc
  split at hc
  ·cases hc
  ·split at hc
   ·cases hc
   ·rename_i h2
    exact ⟨upd_other _ _ h2, o', hc⟩
 ·rw [move_get hlt hlp] at hc
  split at hc
  ·cases hc
  ·split at hc
   ·rename_i h2
    subst h2
    cases hc
    exact ⟨l2, b2, gp, hp, Nat.le_succ _, fun e => absurd e (by omega)⟩
   ·rename_i h2
    exact ⟨l', f', g', hc, Nat.le_refl _, fun _ => ⟨upd_other _ _ h2, rfl⟩⟩
theorem move_ok (hok : Ok s) (hne : id ≠ p) (ho : s.h[id]? = some (.arr T t l b g)) (hp : s.h[p]? = some (.arr T t l2 b2 gp)) : Ok (s.move id p (.arr T t l b (gp + 1))) := by
 have hlt : id < s.h.length := (List.getElem?_eq_some_iff.1 ho).1
 have hlp : p < s.h.length := (List.getElem?_eq_some_iff.1 hp).1
 have hst := move_step hne ho hp
 have hg := fun i => move_get hlt hlp (.arr T t l b (gp + 1)) i
 refine ⟨fun i o hi => ?_, fun i j o q x hi hj hoa hqa hbi hbj => ?_, hok.fb, fun x h => hok.dis x (move_own hne ho hlp h)⟩
 ·rw [hg] at hi
  split at hi
  ·cases hi; trivial
  ·split at hi
   ·rename_i h2
    subst h2
    cases hi
    have hσ : (s.move id i (.arr T t l b (gp + 1))).σ i = s.σ id := upd_same _ _ _
    obtain ⟨xs, hown, h1, hx, hf⟩ := hok.obj id _ ho
    refine ⟨xs, ?_, h1, fun j x hj => RT_mono hst t x _ _ (fun _ _ hv => hv) (hx j x hj), fun hf' => by rw [hσ]; exact hf hf'⟩
    rw [hσ]
    exact hown
   ·rename_i h2
    exact ObjR_mono hst (upd_other _ _ h2) (fun _ _ => rfl) (hok.obj i o hi)
 ·rw [hg] at hi hj
  have key : ∀ k : Nat, ∀ r : AObj, (if k = id then some AObj.dead else if k = p then some (.arr T t l b (gp + 1)) else s.h[k]?) = some r → r.alive = true → Has (s.move id p (.arr T t l b (gp + 1))) k r x → ∃ k' r', s.h[k']? = some r' ∧ r'.alive = true ∧ Has s k' r' x ∧ (k' = id → k = p) ∧ (k' ≠ id → k = k') := by
   intro k r h1 h2 h3
   split at h1
   ·cases h1; cases h2
   ·rename_i hk
    split at h1
    ·rename_i hk2
     subst hk2
     cases h1
     have h3 : blkOf (upd s.σ k (s.σ id) k) = some x := h3.one rfl
     rw [upd_same] at h3
     exact ⟨id, _, ho, rfl, .inl h3, fun _ => rfl, fun h => absurd rfl h⟩
    ·rename_i hk2
     exact ⟨k, r, h1, h2, Has.of (s' := s.move id p (.arr T t l b (gp + 1))) (upd_other _ _ hk2) h3, fun h => absurd h hk, fun _ => rfl⟩
  obtain ⟨i', oi, a1, a2, a3, a4, a5⟩ := key i o hi hoa hbi
  obtain ⟨j', oj, c1, c2, c3, c4, c5⟩ := key j q hj hqa hbj
  have e := hok.inj i' j' oi oj x a1 c1 a2 c2 a3 c3
  subst e
  by_cases h : i' = id
  ·rw [a4 h, c4 h]
  ·rw [a5 h, c5 h]
theorem move_R (hne : id ≠ p) (ho : s.h[id]? = some (.arr T t l b g)) (hp : s.h[p]? = some (.arr T t l2 b2 gp)) {m : Nat} {v : Value} (hm : m ≤ l.length) (hv : R s (.own id g m) v) : R (s.move id p (.arr T t l b (gp + 1))) (.own p (gp + 1) m) v := by
 have hlt : id < s.h.length := (List.getElem?_eq_some_iff.1 ho).1
 have hlp : p < s.h.length := (List.getElem?_eq_some_iff.1 hp).1
 have hg : (s.move id p (.arr T t l b (gp + 1))).h[p]? = some (.arr T t l b (gp + 1)) := by rw [move_get hlt hlp, if_neg (fun e => hne e.symm), if_pos rfl]
 simp only [R] at hv ⊢
 obtain ⟨_, base, cap, hv, hr⟩ := hv
 obtain ⟨_, hr2⟩ := hr T t l b g ho
 obtain ⟨_, len, hσ⟩ := hr2 rfl
 refine ⟨?_, base, cap, hv, fun T' t' l' f' g0 hc => ?_⟩
 ·unfold kn
  rw [hg]
 ·rw [hg] at hc
  cases hc
  exact ⟨Nat.le_refl _, fun _ => ⟨hm, len, (upd_same _ _ _).trans hσ⟩⟩
end move
/-! ### A box -/
def St.box (s : St) (id K : Nat) (ob : AObj) : St := ⟨s.σ, put (put s.h id .dead) K ob, s.w, s.F⟩
theorem box_get {s : St} {id K : Nat} (hid : id < s.h.length) (hK : K < s.h.length) (ob : AObj) (i : Nat) : (s.box id K ob).h[i]? = if i = K then some ob else if i = id then some .dead else s.h[i]? := by
 show (put (put s.h id .dead) K ob)[i]? = _
 have h1 : (put s.h id AObj.dead).length = s.h.length := by unfold put; rw [if_pos hid, List.length_set]
 rw [put_get (by omega), put_get hid]
theorem lkB_none {α : Type} : ∀ {m : List (Nat × α)} {b : Nat}, b ∉ m.map Prod.fst → lkB m b = none
 | [], _, _ => rfl
 | (k, y) :: m, b, h => by
  simp only [List.map_cons, List.mem_cons, not_or] at h
  simp only [lkB]
  rw [if_neg (fun e => h.1 e.symm)]
  exact lkB_none h.2
theorem box_ok {s : St} (hok : Ok s) {id K b : Nat} {T : TypeId} {cs : List AV} {t : Ty} {m : List (Nat × t.El)} {x : t.El} (ho : s.h[id]? = some (.cells T cs)) (hK : s.h[K]? = some (.oth (.bxs T t m))) (hσ : s.σ id = .pointer (some ⟨b, 0, none⟩)) (hd : dec t cs = some x) :
  lkB m b = none ∧ Step s (s.box id K (.oth (.bxs T t ((b, x) :: m)))) ∧ Ok (s.box id K (.oth (.bxs T t ((b, x) :: m)))) := by
 have hlt : id < s.h.length := (List.getElem?_eq_some_iff.1 ho).1
 have hlK : K < s.h.length := (List.getElem?_eq_some_iff.1 hK).1
 have hne : id ≠ K := fun e => by rw [e, hK] at ho; cases ho
 have hg := box_get (s := s) hlt hlK (.oth (.bxs T t ((b, x) :: m)))
 obtain ⟨hσK, hnd, hm⟩ := hok.obj K _ hK
 obtain ⟨b', vs, rest, e1, hh, hl, h1⟩ := hok.obj id _ ho
 rw [hσ] at e1
 cases e1
 have hin : b ∉ m.map Prod.fst := fun hin => hne (hok.inj id K _ _ b ho hK rfl rfl (.inl (by rw [hσ]; rfl)) (.inr hin))
 have key : ∀ (c k : Nat) (r : AObj), (s.box id K (.oth (.bxs T t ((b, x) :: m)))).h[k]? = some r → r.alive = true → Has (s.box id K (.oth (.bxs T t ((b, x) :: m)))) k r c → ∃ k' r', s.h[k']? = some r' ∧ r'.alive = true ∧ Has s k' r' c ∧ (k' = id → k = K) ∧ (k' ≠ id → k = k') := by
  intro c k r g1 g2 g3
  rw [hg] at g1
  split at g1
  ·rename_i hk
   cases g1
   subst hk
   rcases g3 with g3 | g3
   ·have g3 : blkOf (s.σ k) = some c := g3
    rw [hσK] at g3
    cases g3
   ·have g3 : c ∈ b :: m.map Prod.fst := g3
    rcases List.mem_cons.1 g3 with rfl | g3
    ·exact ⟨id, _, ho, rfl, .inl (by rw [hσ]; rfl), fun _ => rfl, fun h => absurd rfl h⟩
    ·exact ⟨k, _, hK, rfl, .inr g3, fun _ => rfl, fun _ => rfl⟩
  ·split at g1
   ·cases g1; cases g2
   ·rename_i hk
    exact ⟨k, r, g1, g2, g3, fun h => absurd h hk, fun _ => rfl⟩
 have hown : ∀ c, OwnI (s.box id K (.oth (.bxs T t ((b, x) :: m)))) c → OwnI s c := by
  rintro c ⟨k, r, g1, g2, g3⟩
  obtain ⟨k', r', q1, q2, q3, _⟩ := key c k r g1 g2 g3
  exact ⟨k', r', q1, q2, q3⟩
 have hst : Step s (s.box id K (.oth (.bxs T t ((b, x) :: m)))) := by
  refine ⟨rfl, rfl, rfl, Nat.le_refl _, Nat.le_refl _, fun i hi => ?_, fun c _ hn => ⟨fun h => hn (hown c h), rfl⟩, rfl, fun i T' cs' _ hc => ?_, fun i o' _ hc => ?_, fun i T' t' l' f' g' _ hc => ?_⟩
  ·unfold Av.kn at hi ⊢
   rw [hg]
   by_cases h2 : i = K
   ·rw [if_pos h2]
   ·rw [if_neg h2]
    by_cases h3 : i = id
    ·rw [if_pos h3]
    ·rw [if_neg h3]; exact hi
  ·rw [hg] at hc
   split at hc
   ·cases hc
   ·split at hc
    ·cases hc
    ·exact ⟨rfl, cs', hc⟩
  ·rw [hg] at hc
   split at hc
   ·rename_i hk
    subst hk
    exact ⟨rfl, _, hK⟩
   ·split at hc
    ·cases hc
    ·exact ⟨rfl, o', hc⟩
  ·rw [hg] at hc
   split at hc
   ·cases hc
   ·split at hc
    ·cases hc
    ·exact ⟨l', f', g', hc, Nat.le_refl _, fun _ => ⟨rfl, rfl⟩⟩
 refine ⟨lkB_none hin, hst, ?_⟩
 exact {
  obj := fun i o hi => by
   rw [hg] at hi
   split at hi
   ·rename_i hk
    subst hk
    cases hi
    refine ⟨hσK, by simp only [List.map_cons, List.nodup_cons]; exact ⟨hin, hnd⟩, fun c y hc => ?_⟩
    rcases List.mem_cons.1 hc with e | hc
    ·cases e
     exact ⟨vs, rest, hh, by rw [RL_vals hl, dec_size t cs _ hd], RT_mono hst _ _ _ _ (fun _ _ hv => hv) (dec_RT t cs _ _ hd (RC_of_RL hl h1 (fun _ _ hv => hv))), h1⟩
    ·obtain ⟨vs2, rest2, q1, q2, q3, q4⟩ := hm c y hc
     exact ⟨vs2, rest2, q1, q2, RT_mono hst _ _ _ _ (fun _ _ hv => hv) q3, q4⟩
   ·split at hi
    ·cases hi; trivial
    ·exact ObjR_mono hst rfl (fun _ _ => rfl) (hok.obj i o hi)
  inj := fun i j o p c hi hj hoa hpa hbi hbj => by
   obtain ⟨i', oi, a1, a2, a3, a4, a5⟩ := key c i o hi hoa hbi
   obtain ⟨j', oj, c1, c2, c3, c4, c5⟩ := key c j p hj hpa hbj
   have e := hok.inj i' j' oi oj c a1 c1 a2 c2 a3 c3
   subst e
   by_cases h : i' = id
   ·rw [a4 h, c4 h]
   ·rw [a5 h, c5 h]
  fb := hok.fb
  dis := fun c h => hok.dis c (hown c h) }
theorem normK1_ok {a : Act} (z : NZ) (f : Tr) (s : St) (K : Tr → Hp → Prop) (hok : Ok s) (hf : FR s f.get a) (h : normK1 z f s.h K) : ∃ s' f', Step s s' ∧ Ok s' ∧ FR s' f'.get a ∧ s'.w = s.w ∧ K f' s'.h := by
 cases z with
 | own n T t =>
  simp only [normK1, lenK_eq] at h
  have key : a.tmps.getD n undef = .slice none 0 0 → (f.setK n (.own s.h.length 0 0) fun f => putK s.h s.h.length (.arr T t [] false 0) fun h => K f h) → ∃ s' f', Step s s' ∧ Ok s' ∧ FR s' f'.get a ∧ s'.w = s.w ∧ K f' s'.h := by
   intro hv h
   rw [Tr.setK_eq, putK_eq] at h
   obtain ⟨hst, hok', hR⟩ := nil_own hok T t
   exact ⟨_, _, hst, hok', (hf.step hst).set (by rw [hv]; exact hR), rfl, h⟩
  have hv := hf n
  split at h
  ·rename_i hn
   rw [hn] at hv
   simp only [R] at hv
   exact key hv h
  ·rename_i hn
   rw [hn] at hv
   simp only [R] at hv
   exact key hv h
  ·exact h.elim
 | lst n t =>
  simp only [normK1, lenK_eq] at h
  have hv := hf n
  have key : a.tmps.getD n undef = .slice none 0 0 → (f.setK n (.lst t []) fun f => K f s.h) → ∃ s' f', Step s s' ∧ Ok s' ∧ FR s' f'.get a ∧ s'.w = s.w ∧ K f' s'.h := by
   intro hv h
   rw [Tr.setK_eq] at h
   refine ⟨s, _, Step.refl s, hok, hf.set ?_, rfl, h⟩
   rw [hv]
   simp only [R]
   exact ⟨none, 0, rfl, by simp, fun h => absurd rfl h⟩
  split at h
  ·rename_i hn
   rw [hn] at hv
   simp only [R] at hv
   exact key hv h
  ·rename_i hn
   rw [hn] at hv
   simp only [R] at hv
   exact key hv h
  ·rename_i id g m hn
   rw [hn] at hv
   split at h
   ·rename_i T' t' l' f' g' ho
    obtain ⟨⟨rfl, hm⟩, h5⟩ := need_elim h
    rw [Tr.setK_eq, putK_eq] at h5
    have hlt : id < s.h.length := (List.getElem?_eq_some_iff.1 ho).1
    simp only [R] at hv
    obtain ⟨_, base, cap, hv, hr⟩ := hv
    obtain ⟨_, hr2⟩ := hr T' t' l' f' g' ho
    obtain ⟨_, len, hσ⟩ := hr2 rfl
    obtain ⟨_, hcap, hb⟩ := own_RC hok ho hσ
    have key := kill_view hok ho (lo := 0) (n := m) (ad := base) (cap' := cap) hσ (by omega) (by omega) (fun hpos => by
     have hl0 : l' ≠ [] := by rintro rfl; simp at hm; omega
     obtain ⟨b, hb, _⟩ := hb hl0
     exact ⟨b, hb, by rw [hb, Nat.zero_mul]⟩)
    rw [List.drop_zero] at key
    refine ⟨_, _, kill_step hlt, kill_ok hok hlt, (hf.step (kill_step hlt)).set ?_, rfl, h5⟩
    rw [hv]
    simp only [R]
    exact key
   ·exact h.elim
  ·rename_i id g lo m hn
   rw [hn] at hv
   split at h
   ·rename_i T' t' l' f' g' ho
    obtain ⟨⟨rfl, hm⟩, h5⟩ := need_elim h
    rw [Tr.setK_eq, putK_eq] at h5
    have hlt : id < s.h.length := (List.getElem?_eq_some_iff.1 ho).1
    simp only [R] at hv
    obtain ⟨_, ad, cap', hv, hc, hr⟩ := hv
    obtain ⟨_, hr2⟩ := hr T' t' l' f' g' ho
    obtain ⟨_, base, len, cap, hσ, hb⟩ := hr2 rfl
    have key := kill_view hok ho (lo := lo) (n := m) (ad := ad) (cap' := cap') hσ hm hc hb
    refine ⟨_, _, kill_step hlt, kill_ok hok hlt, (hf.step (kill_step hlt)).set ?_, rfl, h5⟩
    rw [hv]
    simp only [R]
    exact key
   ·exact h.elim
  ·exact h.elim
 | cell id j T t =>
  simp only [normK1, lenK_eq] at h
  split at h
  ·rename_i Tc cs ho
   have hlt : id < s.h.length := (List.getElem?_eq_some_iff.1 ho).1
   have key : ∀ x, cs[j]? = some x → (∀ s c, R s x c → c = .slice none 0 0) → (putK s.h s.h.length (.arr T t [] false 0) fun h' => putK h' id (.cells Tc (cs.set j (.own s.h.length 0 0))) fun h' => K f h') → ∃ s' f', Step s s' ∧ Ok s' ∧ FR s' f'.get a ∧ s'.w = s.w ∧ K f' s'.h := by
    intro x hx hnil h
    rw [putK_eq, putK_eq] at h
    obtain ⟨hst, hok', hR⟩ := nil_own hok T t
    have hne : id ≠ s.h.length := by omega
    have ho1 : (s.new s.h.length (.arr T t [] false 0) (.slice none 0 0) s.w).h[id]? = some (.cells Tc cs) := (put_other (.inl rfl) _ hne).trans ho
    have hcmp : Cmp (.cells Tc cs) ((s.new s.h.length (.arr T t [] false 0) (.slice none 0 0) s.w).σ id) (.cells Tc (cs.set j (.own s.h.length 0 0))) ((s.new s.h.length (.arr T t [] false 0) (.slice none 0 0) s.w).σ id) := .cells _ _ _ _
    have hgb : Gb (s.new s.h.length (.arr T t [] false 0) (.slice none 0 0) s.w).w s.w (blkOf ((s.new s.h.length (.arr T t [] false 0) (.slice none 0 0) s.w).σ id)) := ⟨rfl, rfl, rfl, Nat.le_refl _, Nat.le_refl _, fun _ _ _ => rfl⟩
    have hst2 := St.turn_step ho1 hcmp hgb (fun b hb => .inl hb)
    obtain ⟨b, vs, rest, e1, hh, hl, h2⟩ := hok'.obj id _ ho1
    have hok2 := St.turn_ok hok' ho1 hcmp hgb (fun b hb => .inl hb) (by
     refine ⟨b, vs, rest, by simp only [St.turn, upd_same]; exact e1, hh, RL_mono hst2 _ _ (RL_set hl (fun c hc hxr => ?_)), h2⟩
     have hx1 : cs[j]? = some x := hx
     have := hnil _ _ (hxr x hx1)
     rw [this]
     exact hR)
    refine ⟨_, f, hst.trans hst2, hok2, (hf.step hst).step hst2, rfl, ?_⟩
    have hlt2 : id < (put s.h s.h.length (AObj.arr T t [] false 0)).length := by
     unfold put
     rw [if_neg (Nat.lt_irrefl _)]
     simp
     omega
    rw [set_put hlt2] at h
    exact h
   split at h
   ·rename_i t' hx
    exact key _ hx (fun s c hc => by simpa only [R] using hc) h
   ·rename_i hx
    exact key _ hx (fun s c hc => by simpa only [R] using hc) h
   ·exact h.elim
  ·exact h.elim
 | frz id slots cells =>
  simp only [normK1, lenK_eq] at h
  split at h
  ·rename_i T' t' l' f' g' ho
   have hlt : id < s.h.length := (List.getElem?_eq_some_iff.1 ho).1
   rw [putK_eq] at h
   obtain ⟨f', hf', h⟩ := frzS_ok hok hlt hf slots f _ (hf.step (kill_step hlt)) h
   obtain ⟨t, h1, h2, h3, h4⟩ := frzC_ok hok cells (s.kill id) _ (kill_ok hok hlt) (Step.refl _) rfl rfl h
   exact ⟨t, f', (kill_step hlt).trans h2, h1, hf'.step h2, h3, h4⟩
  ·exact h.elim
 | mv n p =>
  simp only [normK1] at h
  split at h
  ·rename_i id g m hn
   split at h
   ·rename_i T t l b g' T2 t2 l2 b2 gp hb ho hp
    obtain ⟨⟨rfl, rfl⟩, h4⟩ := h
    obtain ⟨⟨rfl, hm⟩, h5⟩ := need_elim h4
    have hne : id ≠ p := fun e => by subst e; simp at hb
    have hv := hf n
    rw [hn] at hv
    have hst := move_step hne ho hp
    rw [Tr.setK_eq, putK_eq, putK_eq] at h5
    exact ⟨s.move id p _, _, hst, move_ok hok hne ho hp, (hf.step hst).set (move_R hne ho hp hm hv), rfl, h5⟩
   ·exact h.elim
  ·exact h.elim
 | mvc i j p =>
  simp only [normK1] at h
  split at h
  ·rename_i Tc cs hi
   split at h
   ·rename_i id g m hj
    split at h
    ·rename_i T t l b g' T2 t2 l2 b2 gp hb ho hp
     obtain ⟨⟨rfl, rfl⟩, h4⟩ := h
     obtain ⟨⟨rfl, hm⟩, h5⟩ := need_elim h4
     have hne : id ≠ p := fun e => by subst e; simp at hb
     have hni : i ≠ id := fun e => by subst e; rw [ho] at hi; cases hi
     have hnp : i ≠ p := fun e => by subst e; rw [hp] at hi; cases hi
     have hlt : id < s.h.length := (List.getElem?_eq_some_iff.1 ho).1
     have hlp : p < s.h.length := (List.getElem?_eq_some_iff.1 hp).1
     have hli : i < s.h.length := (List.getElem?_eq_some_iff.1 hi).1
     have hst := move_step hne ho hp
     have hok' := move_ok hok hne ho hp
     rw [putK_eq, putK_eq, putK_eq] at h5
     have ho1 : (s.move id p (.arr T2 t2 l b (gp + 1))).h[i]? = some (.cells Tc cs) := by
      rw [move_get hlt hlp, if_neg hni, if_neg hnp]; exact hi
     have hcmp : Cmp (.cells Tc cs) ((s.move id p (.arr T2 t2 l b (gp + 1))).σ i) (.cells Tc (cs.set j (.own p (gp + 1) m))) ((s.move id p (.arr T2 t2 l b (gp + 1))).σ i) := .cells _ _ _ _
     have hgb : Gb (s.move id p (.arr T2 t2 l b (gp + 1))).w s.w (blkOf ((s.move id p (.arr T2 t2 l b (gp + 1))).σ i)) := ⟨rfl, rfl, rfl, Nat.le_refl _, Nat.le_refl _, fun _ _ _ => rfl⟩
     have hst2 := St.turn_step ho1 hcmp hgb (fun b hb => .inl hb)
     obtain ⟨bk, vs, rest, e1, hh, hl, h2⟩ := hok.obj i _ hi
     have hσi : (s.move id p (.arr T2 t2 l b (gp + 1))).σ i = s.σ i := upd_other _ _ hnp
     have hok2 := St.turn_ok hok' ho1 hcmp hgb (fun b hb => .inl hb) (by
      refine ⟨bk, vs, rest, by simp only [St.turn, upd_same]; exact hσi.trans e1, hh, RL_mono hst2 _ _ (RL_set (RL_mono hst _ _ hl) (fun c hc _ => ?_)), h2⟩
      obtain ⟨v, hv, hr⟩ := RL_get hl j _ hj
      rw [hc] at hv
      cases hv
      exact move_R hne ho hp hm hr)
     refine ⟨_, f, hst.trans hst2, hok2, (hf.step hst).step hst2, rfl, ?_⟩
     have hlt2 : i < (put (put s.h p (AObj.arr T2 t2 l b (gp + 1))) id .dead).length := by
      unfold put
      split <;> split <;> simp <;> omega
     rw [set_put hlt2] at h5
     exact h5
    ·exact h.elim
   ·exact h.elim
  ·exact h.elim
 | bx n K =>
  simp only [normK1] at h
  split at h
  ·rename_i id off hn
   split at h
   ·rename_i T cs T' t m hoff ho hK
    have hoff := Nat.eq_of_beq_eq_true hoff
    subst hoff
    split at h
    ·rename_i x hb hd
     have hb := Nat.eq_of_beq_eq_true hb
     subst hb
     obtain ⟨h⟩ := h
     have hv := hf n
     rw [hn] at hv
     simp only [R] at hv
     obtain ⟨_, b, hv, hσ⟩ := hv
     obtain ⟨hno, hst, hok'⟩ := box_ok hok ho hK (hσ T cs ho) hd
     have h := h b hno
     rw [Tr.setK_eq, putK_eq, putK_eq] at h
     exact ⟨_, _, hst, hok', (hf.step hst).set (by simp only [R]; exact hv), rfl, h⟩
    ·exact h.elim
   ·exact h.elim
  ·exact h.elim
theorem normK_ok {a : Act} : ∀ (nz : List NZ) (f : Tr) (s : St) (K : Tr → Hp → Prop), Ok s → FR s f.get a → normK nz f s.h K → ∃ s' f', Step s s' ∧ Ok s' ∧ FR s' f'.get a ∧ s'.w = s.w ∧ K f' s'.h
 | [], f, s, K, hok, hf, h => ⟨s, f, Step.refl s, hok, hf, rfl, h⟩
 | z :: nz, f, s, K, hok, hf, h => by
  rw [normK_cons] at h
  obtain ⟨s1, f1, h1, h2, h3, h4, h5⟩ := normK1_ok z f s _ hok hf h
  obtain ⟨s', f', h6, h7, h8, h9, h10⟩ := normK_ok nz f1 s1 K h2 h3 h5
  exact ⟨s', f', h1.trans h6, h7, h8, h9.trans h4, h10⟩
end Av
