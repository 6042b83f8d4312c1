/-
  An abstract reading of values and memory: what a function value that a sort is given sees, whatever the sort does meanwhile.
-/
import Derived.Test.YtjlfkgffgnkflaaSo1
namespace Av
open Go

/-! ### Values that are read in a later world -/
structure Fr (s s2 : St) : Prop where
  size : s.w.heap.size ≤ s2.w.heap.size
  own : ∀ b, ¬ Own s b → ¬ Own s2 b
  heap : ∀ b, ¬ Own s b → b < s.w.heap.size → s2.w.heap[b]? = s.w.heap[b]?
theorem Fr.cell {s s2 : St} (h : Fr s s2) {b : Nat} (hb : ¬ Own s b) {o : Nat} {v : Value} (hc : s.w.cell? ⟨b, o, none⟩ = some v) : s2.w.cell? ⟨b, o, none⟩ = some v := by
  have hlt : b < s.w.heap.size := World.block_lt_of_cell? s.w ⟨b, o, none⟩ hc
  rw [World.cell?_of_block (w := s.w) (a := ⟨b, o, none⟩) (h.heap b hb hlt)]
  exact hc
mutual
theorem RT_fr {s s2 : St} (hf : Fr s s2) : ∀ (t : Ty) (x : t.El) (c c' : Nat → Option Value), (∀ j v, c j = some v → c' j = some v) → RT s t x c → RT s2 t x c'
  | .bool, b, c, c', hc, h => by simp only [RT] at h ⊢; exact hc _ _ h
  | .int _, b, c, c', hc, h => by simp only [RT] at h ⊢; exact hc _ _ h
  | .str, b, c, c', hc, h => by simp only [RT] at h ⊢; exact hc _ _ h
  | .sl e, l, c, c', hc, h => by
    simp only [RT] at h ⊢
    obtain ⟨a, cap, h0, h1, h2⟩ := h
    refine ⟨a, cap, hc _ _ h0, h1, fun hne => ?_⟩
    obtain ⟨b, o, ha, hlt, hb, hx⟩ := h2 hne
    exact ⟨b, o, ha, Nat.lt_of_lt_of_le hlt hf.size, hf.own b hb, fun i x hi => RT_fr hf e x _ _ (fun _ _ hv => hf.cell hb hv) (hx i x hi)⟩
  | .st fs, x, c, c', hc, h => by simp only [RT] at h ⊢; exact RTs_fr hf fs x c c' hc h
theorem RTs_fr {s s2 : St} (hf : Fr s s2) : ∀ (ts : List Ty) (x : Ty.Els ts) (c c' : Nat → Option Value), (∀ j v, c j = some v → c' j = some v) → RTs s ts x c → RTs s2 ts x c'
  | [], _, _, _, _, _ => by simp only [RTs]
  | t :: ts, x, c, c', hc, h => by
    simp only [RTs] at h ⊢
    exact ⟨RT_fr hf t x.1 c c' hc h.1, RTs_fr hf ts x.2 _ _ (fun _ _ hv => hc _ _ hv) h.2⟩
end
theorem RLst_fr {s s2 : St} (hf : Fr s s2) {t : Ty} {l : List t.El} {v : Value} (h : RLst s t l v) : RLst s2 t l v := by
  obtain ⟨a, cap, h0, h1, h2⟩ := h
  refine ⟨a, cap, h0, h1, fun hne => ?_⟩
  obtain ⟨b, o, ha, hlt, hb, hx⟩ := h2 hne
  exact ⟨b, o, ha, Nat.lt_of_lt_of_le hlt hf.size, hf.own b hb, fun i x hi => RT_fr hf t x _ _ (fun _ _ hv => hf.cell hb hv) (hx i x hi)⟩
mutual
theorem R_fr {s s2 : St} (hh : s.h = []) (hf : Fr s s2) : ∀ (a : AV) (v : Value), R s a v → R s2 a v
  | .any, _, _ => by simp only [R]
  | .und, v, h => by simpa only [R] using h
  | .bool b, v, h => by simpa only [R] using h
  | .int k n, v, h => by simpa only [R] using h
  | .str x, v, h => by simpa only [R] using h
  | .nilp, v, h => by simpa only [R] using h
  | .nsl, v, h => by simpa only [R] using h
  | .zsl _, v, h => by simpa only [R] using h
  | .nilfn, v, h => by simpa only [R] using h
  | .nili, v, h => by simpa only [R] using h
  | .ptr id off, v, h => by simp only [R] at h; rw [hh] at h; simp [kn] at h
  | .optr id g t i off, v, h => by simp only [R] at h; rw [hh] at h; simp [kn] at h
  | .own id g n, v, h => by simp only [R] at h; rw [hh] at h; simp [kn] at h
  | .osl id g lo n, v, h => by simp only [R] at h; rw [hh] at h; simp [kn] at h
  | .tosl id g lo n, v, h => by simp only [R] at h; rw [hh] at h; simp [kn] at h
  | .pv cs, v, h => by
    simp only [R] at h ⊢
    obtain ⟨b, o, hv, hlt, hb, hc⟩ := h
    exact ⟨b, o, hv, Nat.lt_of_lt_of_le hlt hf.size, hf.own b hb, RC_fr hh hf cs _ _ (fun _ _ hv => hf.cell hb hv) hc⟩
  | .agg cs, v, h => by
    simp only [R] at h ⊢
    obtain ⟨vs, hv, hl, h1⟩ := h
    exact ⟨vs, hv, RL_fr hh hf cs vs hl, h1⟩
  | .tup cs, v, h => by
    simp only [R] at h ⊢
    obtain ⟨vs, hv, hl⟩ := h
    exact ⟨vs, hv, RL_fr hh hf cs vs hl⟩
  | .lst t l, v, h => by simp only [R] at h ⊢; exact RLst_fr hf h
  | .tlst t l, v, h => by simp only [R] at h ⊢; exact ⟨RLst_fr hf h.1, h.2⟩
  | .fn f a b, v, h => by
    simp only [R] at h ⊢
    obtain ⟨xs, ys, hv, h1, h2⟩ := h
    exact ⟨xs, ys, hv, RL_fr hh hf a xs h1, RL_fr hh hf b ys h2⟩
  | .iface t x, v, h => by
    simp only [R] at h ⊢
    obtain ⟨y, hv, h1⟩ := h
    exact ⟨y, hv, R_fr hh hf x y h1⟩
theorem RL_fr {s s2 : St} (hh : s.h = []) (hf : Fr s s2) : ∀ (cs : List AV) (vs : List Value), RL s cs vs → RL s2 cs vs
  | [], vs, h => by simpa only [RL] using h
  | c :: cs, vs, h => by
    simp only [RL] at h ⊢
    obtain ⟨v, vs', hv, h1, h2⟩ := h
    exact ⟨v, vs', hv, R_fr hh hf c v h1, RL_fr hh hf cs vs' h2⟩
theorem RC_fr {s s2 : St} (hh : s.h = []) (hf : Fr s s2) : ∀ (cs : List AV) (c c' : Nat → Option Value), (∀ j v, c j = some v → c' j = some v) → RC s cs c → RC s2 cs c'
  | [], _, _, _, _ => by simp only [RC]
  | x :: cs, c, c', hc, h => by
    simp only [RC] at h ⊢
    obtain ⟨⟨v, h0, h1, h2⟩, h3⟩ := h
    exact ⟨⟨v, hc _ _ h0, R_fr hh hf x v h1, h2⟩, RC_fr hh hf cs _ _ (fun _ _ hv => hc _ _ hv) h3⟩
end

/-! ### What a function value sees -/
def viewsD (f : AV → (AV → Prop) → Prop) (l : List AV) : (List AV → Prop) → Prop :=
  @List.rec AV (fun _ => (List AV → Prop) → Prop) (fun k => k []) (fun c _ ih k => f c fun c => ih fun cs => k (c :: cs)) l
def viewD1 (i0 : Nat) (h : Hp) (ih : AV → (AV → Prop) → Prop) (v : AV) (k : AV → Prop) : Prop := match v with
  | .ptr id off => match Nat.beq id i0, h[id]? with
    | false, some (.cells _ cs) => viewsD ih (cs.drop off) fun cs => k (.pv cs)
    | _, _ => False
  | .own id g m => match Nat.beq id i0, h[id]? with
    | false, some (.arr _ t l _ g') => need (g' = g ∧ m ≤ l.length) (k (.lst t (l.take m)))
    | _, _ => False
  | .fn f [] caps => viewsD ih caps fun caps => k (.fn f [] caps)
  | .agg cs => viewsD ih cs fun cs => k (.agg cs)
  | .lst t l => k (.lst t l)
  | .tlst t l => k (.lst t l)
  | .bool b => k (.bool b)
  | .int i n => k (.int i n)
  | .str s => k (.str s)
  | .nilfn => k .nilfn
  | .nilp => k .nilp
  | .nili => k .nili
  | .zsl t => k (.lst t [])
  | _ => False
def viewD (n i0 : Nat) (h : Hp) : AV → (AV → Prop) → Prop :=
  @Nat.rec (fun _ => AV → (AV → Prop) → Prop) (fun _ _ => False) (fun _ ih => viewD1 i0 h ih) n
theorem viewsD_ok {s s0 : St} {f : AV → (AV → Prop) → Prop} (hf : ∀ v c k, R s v c → f v k → ∃ v', k v' ∧ R s0 v' c) : ∀ (l : List AV) (cs : List Value) (k : List AV → Prop), RL s l cs → viewsD f l k → ∃ l', k l' ∧ RL s0 l' cs
  | [], cs, k, hr, h => ⟨[], h, by simpa only [RL] using hr⟩
  | v :: l, cs, k, hr, h => by
    simp only [RL] at hr
    obtain ⟨c, cs', rfl, h1, h2⟩ := hr
    have h : f v fun v' => viewsD f l fun l' => k (v' :: l') := h
    obtain ⟨v', h3, h4⟩ := hf v c _ h1 h
    obtain ⟨l', h5, h6⟩ := viewsD_ok hf l cs' _ h2 h3
    exact ⟨v' :: l', h5, by simp only [RL]; exact ⟨c, cs', rfl, h4, h6⟩⟩
theorem viewsD_RC {s s0 : St} {f : AV → (AV → Prop) → Prop} (hf : ∀ v c k, R s v c → f v k → ∃ v', k v' ∧ R s0 v' c) : ∀ (l : List AV) (c : Nat → Option Value) (k : List AV → Prop), RC s l c → viewsD f l k → ∃ l', k l' ∧ RC s0 l' c
  | [], c, k, hr, h => ⟨[], h, by simp only [RC]⟩
  | v :: l, c, k, hr, h => by
    simp only [RC] at hr
    obtain ⟨⟨u, h0, h1, h1'⟩, h2⟩ := hr
    have h : f v fun v' => viewsD f l fun l' => k (v' :: l') := h
    obtain ⟨v', h3, h4⟩ := hf v u _ h1 h
    obtain ⟨l', h5, h6⟩ := viewsD_RC hf l _ _ h2 h3
    exact ⟨v' :: l', h5, by simp only [RC]; exact ⟨⟨u, h0, h4, h1'⟩, h6⟩⟩
/-- The state of a function that is called while a block of the caller's is being written. -/
def St.only (s : St) (b : Nat) : St := s.callee (fun x => x = b)
theorem viewD_ok {s : St} (hok : Ok s) {i0 b0 : Nat} {o0 : AObj} (ho0 : s.h[i0]? = some o0) (ha0 : o0.alive = true) (hb0 : blkOf (s.σ i0) = some b0) : ∀ (n : Nat) (v : AV) (c : Value) (k : AV → Prop), R s v c → viewD n i0 s.h v k → ∃ v', k v' ∧ R (s.only b0) v' c
  | 0, v, c, k, _, h => h.elim
  | n + 1, v, c, k, hr, h => by
    have ih := viewD_ok hok ho0 ha0 hb0 n
    replace h : viewD1 i0 s.h (viewD n i0 s.h) v k := h
    have hF : ∀ b, (fun x => x = b0) b → Own s b := fun b hb => by
      have hb : b = b0 := hb
      rw [hb]
      exact .inr ⟨i0, o0, ho0, ha0, hb0⟩
    have hne : ∀ {id : Nat} {o : AObj} {b : Nat}, Nat.beq id i0 = false → s.h[id]? = some o → o.alive = true → blkOf (s.σ id) = some b → b ≠ b0 := by
      intro id o b hid ho ha hb e
      subst e
      have := hok.inj id i0 o o0 b ho ho0 ha ha0 hb hb0
      subst this
      simp at hid
    have hlst : ∀ {t : Ty} {l : List t.El} {c : Value}, RLst s t l c → RLst (s.only b0) t l c := fun h =>
      RLst_pure (s := s) (s2 := s.only b0) rfl (fun b hb h => hb (hF b ((callee_own (F := fun x => x = b0)).1 h))) h
    unfold viewD1 at h
    split at h
    · rename_i id off
      split at h
      · rename_i Tc cs hid hoc
        simp only [R] at hr
        obtain ⟨_, b, hv, hσ⟩ := hr
        have hσ := hσ _ _ hoc
        obtain ⟨b', hσ', hrc⟩ := cells_RC hok hoc
        rw [hσ] at hσ'
        cases hσ'
        obtain ⟨cs', h1, h2⟩ := viewsD_RC ih _ _ _ (RC_drop off hrc) h
        refine ⟨_, h1, ?_⟩
        simp only [R]
        exact ⟨b, off, hv, own_lt hok ⟨id, _, hoc, rfl, by rw [hσ]; rfl⟩, fun h => hne hid hoc rfl (by rw [hσ]; rfl) ((callee_own (F := fun x => x = b0)).1 h), h2⟩
      · exact h.elim
    · rename_i id g m
      split at h
      · rename_i Tc t l f g' hid hoc
        obtain ⟨⟨rfl, hm⟩, hkk⟩ := need_elim h
        refine ⟨_, hkk, ?_⟩
        simp only [R] at hr ⊢
        obtain ⟨_, base, cap, rfl, hr⟩ := hr
        obtain ⟨_, len, hσ⟩ := (hr _ _ _ _ _ hoc).2 rfl
        obtain ⟨_, hcap, hb⟩ := own_RC hok hoc hσ
        have := own_view hok (F := fun x => x = b0) hF (fun b hb h => hne hid hoc rfl hb h) hoc (lo := 0) (n := m) (ad := base) (cap' := cap) hσ (by omega) (by omega) (fun hpos => by
          have hl0 : l ≠ [] := by rintro rfl; simp at hm; omega
          obtain ⟨b, hb, _⟩ := hb hl0
          exact ⟨b, hb, by rw [hb, Nat.zero_mul]⟩)
        rw [List.drop_zero] at this
        exact this
      · exact h.elim
    · simp only [R] at hr
      obtain ⟨xs, ys, hv, h1, h2⟩ := hr
      obtain ⟨l', h3, h4⟩ := viewsD_ok ih _ _ _ h2 h
      exact ⟨_, h3, by simp only [R]; exact ⟨xs, ys, hv, by simpa only [RL] using h1, h4⟩⟩
    · simp only [R] at hr
      obtain ⟨vs, hv, h1, h2⟩ := hr
      obtain ⟨l', h3, h4⟩ := viewsD_ok ih _ _ _ h1 h
      exact ⟨_, h3, by simp only [R]; exact ⟨vs, hv, h4, h2⟩⟩
    · exact ⟨_, h, by simp only [R] at hr ⊢; exact hlst hr⟩
    · exact ⟨_, h, by simp only [R] at hr ⊢; exact hlst hr.1⟩
    · exact ⟨_, h, by simpa only [R] using hr⟩
    · exact ⟨_, h, by simpa only [R] using hr⟩
    · exact ⟨_, h, by simpa only [R] using hr⟩
    · exact ⟨_, h, by simpa only [R] using hr⟩
    · exact ⟨_, h, by simpa only [R] using hr⟩
    · exact ⟨_, h, by simpa only [R] using hr⟩
    · refine ⟨_, h, ?_⟩
      simp only [R] at hr ⊢
      subst hr
      exact ⟨none, 0, rfl, Nat.le_refl _, fun h => absurd rfl h⟩
    · exact h.elim
end Av
