/-
  An abstract reading of values and memory: what a function value that a sort is given sees, whatever the sort does meanwhile.
  An abstract reading of values and memory: slices.SortFunc, by the library's contract, as a call that is walked through.
  An abstract reading of values and memory: slices.SortFunc: the contracts, taken over.
  An abstract reading of values and memory: slices.SortFunc at elements of one cell.
  An abstract reading of values and memory: slices.SortFunc at structs.
  An abstract reading of values and memory: slices.Sort at numbers.
-/
import Derived.Test.YtdbnohpolknbbaaSo1
import Derived.Shelf.SlSortCmp.WholeK
import Derived.Shelf.SortG.Plain
import Derived.Shelf.SortG.SortNone
namespace Av
open Go

/-! ### Values that are read in a later world -/
structure Fr (s s2 : St) : Prop where
  size : s.w.heap.size ≤ s2.w.heap.size
  own : ∀ b, ¬ Own s b → ¬ Own s2 b
  heap : ∀ b, ¬ Own s b → b < s.w.heap.size → s2.w.heap[b]? = s.w.heap[b]?
theorem Fr.cell {s s2 : St} (h : Fr s s2) {b : Nat} (hb : ¬ Own s b) {o : Nat} {v : Value} (hc : s.w.cell? ⟨b, o, none⟩ = some v) : s2.w.cell? ⟨b, o, none⟩ = some v := by
  have hlt : b < s.w.heap.size := World.block_lt_of_cell? s.w ⟨b, o, none⟩ hc
  rw [World.cell?_of_block (w := s.w) (a := ⟨b, o, none⟩) (h.heap b hb hlt)]
  exact hc
mutual
theorem RT_fr {s s2 : St} (hf : Fr s s2) : ∀ (t : Ty) (x : t.El) (c c' : Nat → Option Value), (∀ j v, c j = some v → c' j = some v) → RT s t x c → RT s2 t x c'
  | .bool, b, c, c', hc, h => by simp only [RT] at h ⊢; exact hc _ _ h
  | .int _, b, c, c', hc, h => by simp only [RT] at h ⊢; exact hc _ _ h
  | .str, b, c, c', hc, h => by simp only [RT] at h ⊢; exact hc _ _ h
  | .sl e, l, c, c', hc, h => by
    simp only [RT] at h ⊢
    obtain ⟨a, cap, h0, h1, h2⟩ := h
    refine ⟨a, cap, hc _ _ h0, h1, fun hne => ?_⟩
    obtain ⟨b, o, ha, hlt, hb, hx⟩ := h2 hne
    exact ⟨b, o, ha, Nat.lt_of_lt_of_le hlt hf.size, hf.own b hb, fun i x hi => RT_fr hf e x _ _ (fun _ _ hv => hf.cell hb hv) (hx i x hi)⟩
  | .st fs, x, c, c', hc, h => by simp only [RT] at h ⊢; exact RTs_fr hf fs x c c' hc h
  | .ifc Ts ts, x, c, c', hc, h => by
    simp only [RT] at h ⊢
    obtain ⟨v, h0, h1⟩ := h
    exact ⟨v, hc _ _ h0, RA_fr hf ts Ts x v h1⟩
theorem RTs_fr {s s2 : St} (hf : Fr s s2) : ∀ (ts : List Ty) (x : Ty.Els ts) (c c' : Nat → Option Value), (∀ j v, c j = some v → c' j = some v) → RTs s ts x c → RTs s2 ts x c'
  | [], _, _, _, _, _ => by simp only [RTs]
  | t :: ts, x, c, c', hc, h => by
    simp only [RTs] at h ⊢
    exact ⟨RT_fr hf t x.1 c c' hc h.1, RTs_fr hf ts x.2 _ _ (fun _ _ hv => hc _ _ hv) h.2⟩
theorem RA_fr {s s2 : St} (hf : Fr s s2) : ∀ (ts : List Ty) (Ts : List TypeId) (x : Ty.Alts ts Ts) (v : Value), RA s ts Ts x v → RA s2 ts Ts x v
  | [], _, x, _, _ => nomatch x
  | _ :: _, [], x, _, _ => nomatch x
  | t :: ts, T :: Ts, .inl y, v, h => by
    simp only [RA] at h ⊢
    obtain ⟨w, h0, h1⟩ := h
    exact ⟨w, h0, RV_fr hf t y w h1⟩
  | t :: ts, T :: Ts, .inr x, v, h => by
    simp only [RA] at h ⊢
    exact RA_fr hf ts Ts x v h
theorem RV_fr {s s2 : St} (hf : Fr s s2) : ∀ (t : Ty) (x : t.El) (v : Value), RV s t x v → RV s2 t x v
  | .bool, _, _, h => by simp only [RV] at h ⊢; exact h
  | .int _, _, _, h => by simp only [RV] at h ⊢; exact h
  | .str, _, _, h => by simp only [RV] at h ⊢; exact h
  | .sl e, l, v, h => by
    simp only [RV] at h ⊢
    obtain ⟨a, cap, h0, h1, h2⟩ := h
    refine ⟨a, cap, h0, h1, fun hne => ?_⟩
    obtain ⟨b, o, ha, hlt, hb, hx⟩ := h2 hne
    exact ⟨b, o, ha, Nat.lt_of_lt_of_le hlt hf.size, hf.own b hb, fun i x hi => RT_fr hf e x _ _ (fun _ _ hv => hf.cell hb hv) (hx i x hi)⟩
  | .st fs, x, v, h => by
    simp only [RV] at h ⊢
    obtain ⟨vs, h1, h2, h3, h4⟩ := h
    exact ⟨vs, h1, h2, RTs_fr hf fs x _ _ (fun _ _ hv => hv) h3, h4⟩
  | .ifc Ts ts, x, v, h => by simp only [RV] at h ⊢; exact RA_fr hf ts Ts x v h
end
theorem RLst_fr {s s2 : St} (hf : Fr s s2) {t : Ty} {l : List t.El} {v : Value} (h : RLst s t l v) : RLst s2 t l v := by
  obtain ⟨a, cap, h0, h1, h2⟩ := h
  refine ⟨a, cap, h0, h1, fun hne => ?_⟩
  obtain ⟨b, o, ha, hlt, hb, hx⟩ := h2 hne
  exact ⟨b, o, ha, Nat.lt_of_lt_of_le hlt hf.size, hf.own b hb, fun i x hi => RT_fr hf t x _ _ (fun _ _ hv => hf.cell hb hv) (hx i x hi)⟩
mutual
theorem R_fr {s s2 : St} (hh : s.h = []) (hf : Fr s s2) : ∀ (a : AV) (v : Value), R s a v → R s2 a v
  | .any, _, _ => by simp only [R]
  | .und, v, h => by simpa only [R] using h
  | .bool b, v, h => by simpa only [R] using h
  | .int k n, v, h => by simpa only [R] using h
  | .str x, v, h => by simpa only [R] using h
  | .nilp, v, h => by simpa only [R] using h
  | .nsl, v, h => by simpa only [R] using h
  | .zsl _, v, h => by simpa only [R] using h
  | .nilfn, v, h => by simpa only [R] using h
  | .nili, v, h => by simpa only [R] using h
  | .nilm, v, h => by simpa only [R] using h
  | .oth id, v, h => by simp only [R] at h; rw [hh] at h; simp [kn] at h
  | .ptr id off, v, h => by simp only [R] at h; rw [hh] at h; simp [kn] at h
  | .optr id g t i off, v, h => by simp only [R] at h; rw [hh] at h; simp [kn] at h
  | .own id g n, v, h => by simp only [R] at h; rw [hh] at h; simp [kn] at h
  | .osl id g lo n, v, h => by simp only [R] at h; rw [hh] at h; simp [kn] at h
  | .tosl id g lo n, v, h => by simp only [R] at h; rw [hh] at h; simp [kn] at h
  | .pv cs, v, h => by
    simp only [R] at h ⊢
    obtain ⟨b, o, hv, hlt, hb, hc⟩ := h
    exact ⟨b, o, hv, Nat.lt_of_lt_of_le hlt hf.size, hf.own b hb, RC_fr hh hf cs _ _ (fun _ _ hv => hf.cell hb hv) hc⟩
  | .agg cs, v, h => by
    simp only [R] at h ⊢
    obtain ⟨vs, hv, hl, h1⟩ := h
    exact ⟨vs, hv, RL_fr hh hf cs vs hl, h1⟩
  | .tup cs, v, h => by
    simp only [R] at h ⊢
    obtain ⟨vs, hv, hl⟩ := h
    exact ⟨vs, hv, RL_fr hh hf cs vs hl⟩
  | .lst t l, v, h => by simp only [R] at h ⊢; exact RLst_fr hf h
  | .tlst t l, v, h => by simp only [R] at h ⊢; exact ⟨RLst_fr hf h.1, h.2⟩
  | .fn f a b, v, h => by
    simp only [R] at h ⊢
    obtain ⟨xs, ys, hv, h1, h2⟩ := h
    exact ⟨xs, ys, hv, RL_fr hh hf a xs h1, RL_fr hh hf b ys h2⟩
  | .iface t x, v, h => by
    simp only [R] at h ⊢
    obtain ⟨y, hv, h1⟩ := h
    exact ⟨y, hv, R_fr hh hf x y h1⟩
theorem RL_fr {s s2 : St} (hh : s.h = []) (hf : Fr s s2) : ∀ (cs : List AV) (vs : List Value), RL s cs vs → RL s2 cs vs
  | [], vs, h => by simpa only [RL] using h
  | c :: cs, vs, h => by
    simp only [RL] at h ⊢
    obtain ⟨v, vs', hv, h1, h2⟩ := h
    exact ⟨v, vs', hv, R_fr hh hf c v h1, RL_fr hh hf cs vs' h2⟩
theorem RC_fr {s s2 : St} (hh : s.h = []) (hf : Fr s s2) : ∀ (cs : List AV) (c c' : Nat → Option Value), (∀ j v, c j = some v → c' j = some v) → RC s cs c → RC s2 cs c'
  | [], _, _, _, _ => by simp only [RC]
  | x :: cs, c, c', hc, h => by
    simp only [RC] at h ⊢
    obtain ⟨⟨v, h0, h1, h2⟩, h3⟩ := h
    exact ⟨⟨v, hc _ _ h0, R_fr hh hf x v h1, h2⟩, RC_fr hh hf cs _ _ (fun _ _ hv => hc _ _ hv) h3⟩
end

/-! ### What a function value sees -/
def viewsD (f : AV → (AV → Prop) → Prop) (l : List AV) : (List AV → Prop) → Prop :=
  @List.rec AV (fun _ => (List AV → Prop) → Prop) (fun k => k []) (fun c _ ih k => f c fun c => ih fun cs => k (c :: cs)) l
def viewD1 (i0 : Nat) (h : Hp) (ih : AV → (AV → Prop) → Prop) (v : AV) (k : AV → Prop) : Prop := match v with
  | .ptr id off => match Nat.beq id i0, h[id]? with
    | false, some (.cells _ cs) => viewsD ih (cs.drop off) fun cs => k (.pv cs)
    | _, _ => False
  | .own id g m => match Nat.beq id i0, h[id]? with
    | false, some (.arr _ t l _ g') => need (g' = g ∧ m ≤ l.length) (k (.lst t (l.take m)))
    | _, _ => False
  | .fn f [] caps => viewsD ih caps fun caps => k (.fn f [] caps)
  | .agg cs => viewsD ih cs fun cs => k (.agg cs)
  | .lst t l => k (.lst t l)
  | .tlst t l => k (.lst t l)
  | .bool b => k (.bool b)
  | .int i n => k (.int i n)
  | .str s => k (.str s)
  | .nilfn => k .nilfn
  | .nilp => k .nilp
  | .nili => k .nili
  | .zsl t => k (.lst t [])
  | _ => False
def viewD (n i0 : Nat) (h : Hp) : AV → (AV → Prop) → Prop :=
  @Nat.rec (fun _ => AV → (AV → Prop) → Prop) (fun _ _ => False) (fun _ ih => viewD1 i0 h ih) n
theorem viewsD_ok {s s0 : St} {f : AV → (AV → Prop) → Prop} (hf : ∀ v c k, R s v c → f v k → ∃ v', k v' ∧ R s0 v' c) : ∀ (l : List AV) (cs : List Value) (k : List AV → Prop), RL s l cs → viewsD f l k → ∃ l', k l' ∧ RL s0 l' cs
  | [], cs, k, hr, h => ⟨[], h, by simpa only [RL] using hr⟩
  | v :: l, cs, k, hr, h => by
    simp only [RL] at hr
    obtain ⟨c, cs', rfl, h1, h2⟩ := hr
    have h : f v fun v' => viewsD f l fun l' => k (v' :: l') := h
    obtain ⟨v', h3, h4⟩ := hf v c _ h1 h
    obtain ⟨l', h5, h6⟩ := viewsD_ok hf l cs' _ h2 h3
    exact ⟨v' :: l', h5, by simp only [RL]; exact ⟨c, cs', rfl, h4, h6⟩⟩
theorem viewsD_RC {s s0 : St} {f : AV → (AV → Prop) → Prop} (hf : ∀ v c k, R s v c → f v k → ∃ v', k v' ∧ R s0 v' c) : ∀ (l : List AV) (c : Nat → Option Value) (k : List AV → Prop), RC s l c → viewsD f l k → ∃ l', k l' ∧ RC s0 l' c
  | [], c, k, hr, h => ⟨[], h, by simp only [RC]⟩
  | v :: l, c, k, hr, h => by
    simp only [RC] at hr
    obtain ⟨⟨u, h0, h1, h1'⟩, h2⟩ := hr
    have h : f v fun v' => viewsD f l fun l' => k (v' :: l') := h
    obtain ⟨v', h3, h4⟩ := hf v u _ h1 h
    obtain ⟨l', h5, h6⟩ := viewsD_RC hf l _ _ h2 h3
    exact ⟨v' :: l', h5, by simp only [RC]; exact ⟨⟨u, h0, h4, h1'⟩, h6⟩⟩
/-- The state of a function that is called while a block of the caller's is being written. -/
def St.only (s : St) (b : Nat) : St := s.callee (fun x => x = b)
theorem viewD_ok {s : St} (hok : Ok s) {i0 b0 : Nat} {o0 : AObj} (ho0 : s.h[i0]? = some o0) (ha0 : o0.alive = true) (hb0 : blkOf (s.σ i0) = some b0) : ∀ (n : Nat) (v : AV) (c : Value) (k : AV → Prop), R s v c → viewD n i0 s.h v k → ∃ v', k v' ∧ R (s.only b0) v' c
  | 0, v, c, k, _, h => h.elim
  | n + 1, v, c, k, hr, h => by
    have ih := viewD_ok hok ho0 ha0 hb0 n
    replace h : viewD1 i0 s.h (viewD n i0 s.h) v k := h
    have hF : ∀ b, (fun x => x = b0) b → Own s b := fun b hb => by
      have hb : b = b0 := hb
      rw [hb]
      exact .inr ⟨i0, o0, ho0, ha0, hb0⟩
    have hne : ∀ {id : Nat} {o : AObj} {b : Nat}, Nat.beq id i0 = false → s.h[id]? = some o → o.alive = true → blkOf (s.σ id) = some b → b ≠ b0 := by
      intro id o b hid ho ha hb e
      subst e
      have := hok.inj id i0 o o0 b ho ho0 ha ha0 hb hb0
      subst this
      simp at hid
    have hlst : ∀ {t : Ty} {l : List t.El} {c : Value}, RLst s t l c → RLst (s.only b0) t l c := fun h =>
      RLst_pure (s := s) (s2 := s.only b0) rfl (fun b hb h => hb (hF b ((callee_own (F := fun x => x = b0)).1 h))) h
    unfold viewD1 at h
    split at h
    · rename_i id off
      split at h
      · rename_i Tc cs hid hoc
        simp only [R] at hr
        obtain ⟨_, b, hv, hσ⟩ := hr
        have hσ := hσ _ _ hoc
        obtain ⟨b', hσ', hrc⟩ := cells_RC hok hoc
        rw [hσ] at hσ'
        cases hσ'
        obtain ⟨cs', h1, h2⟩ := viewsD_RC ih _ _ _ (RC_drop off hrc) h
        refine ⟨_, h1, ?_⟩
        simp only [R]
        exact ⟨b, off, hv, own_lt hok ⟨id, _, hoc, rfl, by rw [hσ]; rfl⟩, fun h => hne hid hoc rfl (by rw [hσ]; rfl) ((callee_own (F := fun x => x = b0)).1 h), h2⟩
      · exact h.elim
    · rename_i id g m
      split at h
      · rename_i Tc t l f g' hid hoc
        obtain ⟨⟨rfl, hm⟩, hkk⟩ := need_elim h
        refine ⟨_, hkk, ?_⟩
        simp only [R] at hr ⊢
        obtain ⟨_, base, cap, rfl, hr⟩ := hr
        obtain ⟨_, len, hσ⟩ := (hr _ _ _ _ _ hoc).2 rfl
        obtain ⟨_, hcap, hb⟩ := own_RC hok hoc hσ
        have := own_view hok (F := fun x => x = b0) hF (fun b hb h => hne hid hoc rfl hb h) hoc (lo := 0) (n := m) (ad := base) (cap' := cap) hσ (by omega) (by omega) (fun hpos => by
          have hl0 : l ≠ [] := by rintro rfl; simp at hm; omega
          obtain ⟨b, hb, _⟩ := hb hl0
          exact ⟨b, hb, by rw [hb, Nat.zero_mul]⟩)
        rw [List.drop_zero] at this
        exact this
      · exact h.elim
    · simp only [R] at hr
      obtain ⟨xs, ys, hv, h1, h2⟩ := hr
      obtain ⟨l', h3, h4⟩ := viewsD_ok ih _ _ _ h2 h
      exact ⟨_, h3, by simp only [R]; exact ⟨xs, ys, hv, by simpa only [RL] using h1, h4⟩⟩
    · simp only [R] at hr
      obtain ⟨vs, hv, h1, h2⟩ := hr
      obtain ⟨l', h3, h4⟩ := viewsD_ok ih _ _ _ h1 h
      exact ⟨_, h3, by simp only [R]; exact ⟨vs, hv, h4, h2⟩⟩
    · exact ⟨_, h, by simp only [R] at hr ⊢; exact hlst hr⟩
    · exact ⟨_, h, by simp only [R] at hr ⊢; exact hlst hr.1⟩
    · exact ⟨_, h, by simpa only [R] using hr⟩
    · exact ⟨_, h, by simpa only [R] using hr⟩
    · exact ⟨_, h, by simpa only [R] using hr⟩
    · exact ⟨_, h, by simpa only [R] using hr⟩
    · exact ⟨_, h, by simpa only [R] using hr⟩
    · exact ⟨_, h, by simpa only [R] using hr⟩
    · refine ⟨_, h, ?_⟩
      simp only [R] at hr ⊢
      subst hr
      exact ⟨none, 0, rfl, Nat.le_refl _, fun h => absurd rfl h⟩
    · exact h.elim
end Av
namespace Av
open Go Go.Sort Go.Proofs

/-- A sort: whatever the order of equal elements, what follows holds. -/
inductive sortP (call : CallA) (c : FuncId) (t : Ty) (caps : List AV) (l : List t.El) (k : List t.El → Prop) : Prop where
  | mk (Q : t.El → Prop) (cf : t.El → t.El → Int) (hl : ∀ x ∈ l, Q x)
      (hc : ∀ x y, Q x → Q y → call c (elA t x :: elA t y :: caps) [] fun v _ => v = .int .i64 (cf x y))
      (hirr : ∀ x, Q x → ¬ cf x x < 0) (htr : ∀ x y z, Q x → Q y → Q z → cf x y < 0 → cf y z < 0 → cf x z < 0)
      (hnt : ∀ x y z, Q x → Q y → Q z → ¬ cf x y < 0 → ¬ cf y z < 0 → ¬ cf x z < 0)
      (hk : ∀ l', l'.Perm l → l'.Pairwise (fun x y => ¬ cf y x < 0) → k l') : sortP call c t caps l k
def sortA (t0 : Ty) (call : CallA) (xs : List AV) (h : Hp) (K : AV → Hp → Prop) : Prop := match xs with
  | [.own id g n, .fn (.func c) [] caps] => match h[id]? with
    | some (.arr T t l f g') => need (g' = g ∧ n = l.length ∧ Ty.beq t t0 = true ∧ l.length < 4611686018427387904) (viewsD (viewD 6 id h) caps fun caps => sortP call c t caps l fun l' => putK h id (.arr T t l' f g') fun h => K (.tup []) h)
    | _ => False
  | [.nsl, .fn (.func _) [] _] => K (.tup []) h
  | [.zsl _, .fn (.func _) [] _] => K (.tup []) h
  | _ => False

/-! ### The world behind a sort -/
theorem putCells_list {F : Array Value} {cur : Array Value} (h : F.size ≤ cur.size) : (putCells id 0 F cur).toList = F.toList ++ cur.toList.drop F.size := by
  apply List.ext_getElem?
  intro k
  simp only [putCells, Array.getElem?_toList, Array.getElem?_mapIdx, Nat.zero_le, true_and, Nat.zero_add, Nat.sub_zero, id]
  by_cases hk : k < cur.size
  · rw [Array.getElem?_eq_getElem hk, Option.map_some]
    by_cases hF : k < F.size
    · rw [if_pos hF, List.getElem?_append_left (by simpa using hF), getElem!_pos F k hF]
      simp
    · rw [if_neg hF, List.getElem?_append_right (by simp; omega), List.getElem?_drop]
      simp only [Array.length_toList]
      rw [show F.size + (k - F.size) = k by omega, Array.getElem?_toList, Array.getElem?_eq_getElem hk]
  · rw [Array.getElem?_eq_none (by omega), List.getElem?_eq_none (by simp; omega)]
    rfl
theorem world_heap {w : World} {b : Nat} {cur : Array Value} {T : TypeId} (hg : w.heap[b]? = some (.cells cur T (0, 0))) (n : Nat) (F : Array Value) (os : Array Obj) :
    (grow (putRow id (Sort.ahead w n) b 0 F) os).heap[b]? = some (.cells (putCells id 0 F cur) T (0, 0)) := by
  have hb : b < w.heap.size := (Array.getElem?_eq_some_iff.1 hg).1
  show ((w.heap.modify b (onCells (putCells id 0 F))) ++ os)[b]? = _
  rw [Array.getElem?_append_left (by simpa using hb), Array.getElem?_modify, if_pos rfl, hg]
  rfl
theorem world_other {w : World} {b : Nat} (n : Nat) (F : Array Value) (os : Array Obj) {k : Nat} (hk : k < w.heap.size) (hne : k ≠ b) :
    (grow (putRow id (Sort.ahead w n) b 0 F) os).heap[k]? = w.heap[k]? := by
  show ((w.heap.modify b (onCells (putCells id 0 F))) ++ os)[k]? = _
  rw [Array.getElem?_append_left (by simpa using hk), Array.getElem?_modify, if_neg (Ne.symm hne)]
theorem world_size {w : World} {b : Nat} (n : Nat) (F : Array Value) (os : Array Obj) : w.heap.size ≤ (grow (putRow id (Sort.ahead w n) b 0 F) os).heap.size := by
  show w.heap.size ≤ ((w.heap.modify b (onCells (putCells id 0 F))) ++ os).size
  simp
theorem world_gb (w : World) (b n : Nat) (F : Array Value) (os : Array Obj) : Gb w (grow (putRow id (Sort.ahead w n) b 0 F) os) (some b) :=
  ⟨rfl, rfl, rfl, Nat.le_add_right _ _, world_size n F os, fun k hk hne => world_other n F os hk (fun e => hne (by rw [e]))⟩
/-- An array that has been put in order. -/
theorem sort_turn {s : St} (hok : Ok s) {id : Nat} {T : TypeId} {t : Ty} {l l' : List t.El} {f : Bool} {g : Nat} (ho : s.h[id]? = some (.arr T t l f g)) (hft : flatT t = true) {b len cap : Nat} (hσ : s.σ id = .slice (some ⟨b, 0, none⟩) len cap)
    (hl : l'.length = l.length) {F : Array Value} (hF : F.toList = rowsV t l') (n : Nat) (os : Array Obj) {w' : World} (hw' : w' = grow (putRow _root_.id (Sort.ahead s.w n) b 0 F) os) :
    Step s (s.turn id (.arr T t l' f g) (s.σ id) w') ∧ Ok (s.turn id (.arr T t l' f g) (s.σ id) w') := by
  obtain ⟨xs, hown, hone, hrow, hfull⟩ := hok.obj id _ ho
  have hxl := hown.1
  rw [hσ] at hown
  rcases hown.2 with ⟨he, _⟩ | ⟨b', cap', cur, he, hb0, hg, hnc, hcm, hcs, htake⟩
  · cases he
  · cases he
    have hw : Gb s.w w' (blkOf (s.σ id)) := by rw [hσ, hw']; exact world_gb _ _ _ _ _
    have hcmp : Cmp (.arr T t l f g) (s.σ id) (.arr T t l' f g) (s.σ id) := .arr _ _ _ _ _ _ _ _ _ _ (Nat.le_refl _) (fun _ => ⟨rfl, hl⟩)
    have hst := St.turn_step ho hcmp hw (fun b hb => .inl hb)
    refine ⟨hst, St.turn_ok hok ho hcmp hw (fun b hb => .inl hb) ?_⟩
    have hFl : F.size = l.length * t.size := by
      have := congrArg List.length hF
      rw [rowsV_len hft, hl] at this
      simpa using this
    have hcap : l.length * t.size ≤ cap * t.size := Nat.mul_le_mul_right _ hnc
    refine ⟨rowsV t l', ?_, fun u hu => ?_, fun i x hi => (valsT_RT t x _ hft).2 fun j v hv => ?_, fun hf => ?_⟩
    · simp only [St.turn, upd_same]
      rw [hσ]
      refine ⟨by rw [rowsV_len hft], .inr ⟨b, cap, putCells _root_.id 0 F cur, by rw [hl], Nat.zero_le _, by rw [hw']; exact world_heap hg _ _ _, by rw [hl]; exact hnc, hcm, ?_, ?_⟩⟩
      · simp only [putCells, Array.size_mapIdx]
        exact hcs
      · rw [putCells_list (by rw [hFl, hcs]; exact hcap), List.take_append_of_le_length (by simp [hFl, hl]), hF, List.take_of_length_le (by rw [rowsV_len hft, hl]; exact Nat.le_refl _)]
    · obtain ⟨x, _, hx⟩ := List.mem_flatMap.1 hu
      exact valsT_one t x u hx
    · rw [rowsV_get hft l' i x j hi (by rw [← valsT_len t x hft]; exact (List.getElem?_eq_some_iff.1 hv).1)]
      exact hv
    · obtain ⟨base, hb⟩ := hfull hf
      refine ⟨base, ?_⟩
      simp only [St.turn, upd_same]
      rw [hl]
      exact hb
end Av
namespace Av
open Go Go.Sort Go.Proofs

theorem step_grow {s s' : St} (hh : s.h = []) (hst : Step s s') : ∃ q os, s'.w = grow (s.w.drewN q) os := by
  refine ⟨s'.w.drawn - s.w.drawn, s'.w.heap.extract s.w.heap.size s'.w.heap.size, ?_⟩
  have hd : s'.w.drawn = s.w.drawn + (s'.w.drawn - s.w.drawn) := by have := hst.drawn; omega
  have hheap : s'.w.heap = s.w.heap ++ s'.w.heap.extract s.w.heap.size s'.w.heap.size := by
    apply Array.ext_getElem?
    intro k
    by_cases hk : k < s.w.heap.size
    · rw [Array.getElem?_append_left hk]
      exact (hst.keep k hk (fun ⟨id, o, h, _⟩ => by rw [hh] at h; simp at h)).2
    · rw [Array.getElem?_append_right (by omega)]
      by_cases hk2 : k < s'.w.heap.size
      · rw [Array.getElem?_extract, if_pos (by omega), show s.w.heap.size + (k - s.w.heap.size) = k by omega]
      · rw [Array.getElem?_eq_none (by omega), Array.getElem?_eq_none (by simp; omega)]
  have h1 := hst.os
  have h2 := hst.tape
  have h3 := hst.output
  generalize s'.w.heap.extract s.w.heap.size s'.w.heap.size = ext at hheap ⊢
  generalize s'.w.drawn - s.w.drawn = q at hd ⊢
  unfold grow World.drewN
  obtain ⟨σ', h', w', F'⟩ := s'
  obtain ⟨heap', tape', drawn', os', out'⟩ := w'
  simp only at hd hheap h1 h2 h3
  simp only [hd, hheap, h1, h2, h3]
theorem only_fr {s : St} {b n : Nat} (F : Array Value) (os : Array Obj) : Fr (s.only b) ⟨s.σ, [], grow (putRow id (Sort.ahead s.w n) b 0 F) os, fun x => x = b⟩ where
  size := world_size _ _ _
  own := fun x hx => by
    rintro (h | ⟨id, o, h, _⟩)
    · exact hx (.inl h)
    · simp at h
  heap := fun x hx hlt => world_other _ _ _ hlt (fun e => hx (.inl e))
theorem only_ok {s : St} {b n : Nat} (hb : b < s.w.heap.size) (F : Array Value) (os : Array Obj) : Ok ⟨s.σ, [], grow (putRow id (Sort.ahead s.w n) b 0 F) os, fun x => x = b⟩ where
  obj := fun id o h => by simp at h
  inj := fun i j o p b h => by simp at h
  fb := fun x hx => by
    have hx : x = b := hx
    rw [hx]
    exact Nat.lt_of_lt_of_le hb (world_size _ _ _)
  dis := fun b ⟨id, o, h, _⟩ => by simp at h
section
variable {P : Program} {ρ : Shelf.Ren}
/-- What the comparison returns, in every world that a sort passes through. -/
theorem cmp_calls {call : CallA} (hcall : CallOk P call) {c : FuncId} {t : Ty} (hft : flatT t = true) {caps : List AV} {s : St} {b : Nat} (hb : b < s.w.heap.size) {ys : List Value} (hys : RL (s.only b) caps ys) {x y : t.El} {r : Int}
    (hc : call c (elA t x :: elA t y :: caps) [] fun v _ => v = .int .i64 r) (n : Nat) (F : Array Value) (os : Array Obj) :
    Calls P c (#[elV t x, elV t y] ++ ys.toArray) (grow (putRow id (Sort.ahead s.w n) b 0 F) os) fun e w' => e = .returned (.int .i64 r) ∧ ∃ q os', w' = grow ((grow (putRow id (Sort.ahead s.w n) b 0 F) os).drewN q) os' := by
  obtain ⟨_, H⟩ := hcall _ _ _ _ hc
  have hfr := only_fr (s := s) (b := b) (n := n) F os
  have hRL : RL ⟨s.σ, [], grow (putRow id (Sort.ahead s.w n) b 0 F) os, fun x => x = b⟩ (elA t x :: elA t y :: caps) (elV t x :: elV t y :: ys) := by
    simp only [RL]
    exact ⟨_, _, rfl, elA_R t x hft, _, _, rfl, elA_R t y hft, RL_fr rfl hfr _ _ hys⟩
  have := H _ rfl (only_ok hb F os) _ hRL
  rw [show (elV t x :: elV t y :: ys).toArray = #[elV t x, elV t y] ++ ys.toArray by simp] at this
  refine Calls.mono this ?_
  rintro e w' ⟨s', v, cr, rfl, rfl, hst, _, hR, rfl⟩
  simp only [R] at hR
  subst hR
  obtain ⟨q, os', hw⟩ := step_grow rfl hst
  exact ⟨rfl, q, os', hw⟩
def att {α : Type} {Q : α → Prop} : (l : List α) → (∀ x ∈ l, Q x) → List {x // Q x}
  | [], _ => []
  | x :: l, h => ⟨x, h x (by simp)⟩ :: att l (fun y hy => h y (by simp [hy]))
theorem att_map {α : Type} {Q : α → Prop} : ∀ (l : List α) (h : ∀ x ∈ l, Q x), (att l h).map (·.1) = l
  | [], _ => rfl
  | x :: l, h => by simp [att, att_map l]
theorem att_len {α : Type} {Q : α → Prop} (l : List α) (h : ∀ x ∈ l, Q x) : (att l h).length = l.length := by
  have := congrArg List.length (att_map l h)
  simpa using this
theorem att_get {α : Type} {Q : α → Prop} {l : List α} (h : ∀ x ∈ l, Q x) {i : Nat} {x : {x // Q x}} (hx : (att l h)[i]? = some x) : l[i]? = some x.1 := by
  have := congrArg (fun m => m[i]?) (att_map l h)
  simp only [List.getElem?_map, hx, Option.map_some] at this
  exact this.symm
theorem swo_of {α : Type} {Q : α → Prop} {cf : α → α → Int} (hirr : ∀ x, Q x → ¬ cf x x < 0) (htr : ∀ x y z, Q x → Q y → Q z → cf x y < 0 → cf y z < 0 → cf x z < 0)
      (hnt : ∀ x y z, Q x → Q y → Q z → ¬ cf x y < 0 → ¬ cf y z < 0 → ¬ cf x z < 0) : SWO (ltOf fun x y : {x // Q x} => cf x.1 y.1) where
  irrefl x := by unfold ltOf; exact decide_eq_false (hirr x.1 x.2)
  trans x y z h1 h2 := by
    unfold ltOf at *
    exact decide_eq_true (htr x.1 y.1 z.1 x.2 y.2 z.2 (of_decide_eq_true h1) (of_decide_eq_true h2))
  ntrans x y z h1 h2 := by
    unfold ltOf at *
    exact decide_eq_false (hnt x.1 y.1 z.1 x.2 y.2 z.2 (of_decide_eq_false h1) (of_decide_eq_false h2))
theorem get_bang {α : Type} [Inhabited α] {l : List α} {i : Nat} {x : α} (h : l[i]? = some x) : (l.toArray)[i]! = x := by
  obtain ⟨hlt, rfl⟩ := List.getElem?_eq_some_iff.1 h
  rw [getElem!_pos _ i (by simpa using hlt)]
  simp
theorem sorted_list {α : Type} {Q : α → Prop} [Inhabited {x // Q x}] {cf : α → α → Int} {l : List α} {hl : ∀ x ∈ l, Q x} {d' : Array {x // Q x}} (hp : PermIn 0 (att l hl).toArray.size (att l hl).toArray d') (hs : SortedIn (ltOf fun x y : {x // Q x} => cf x.1 y.1) 0 (att l hl).toArray.size d') :
    (d'.toList.map (·.1)).Perm l ∧ (d'.toList.map (·.1)).Pairwise (fun x y => ¬ cf y x < 0) ∧ d'.size = l.length := by
  obtain ⟨hsz, _, hperm⟩ := hp
  have e1 : d'.extract 0 (att l hl).toArray.size = d' := by rw [← hsz]; exact Array.extract_size
  rw [e1, Array.extract_size] at hperm
  have hlen : d'.size = l.length := by rw [hsz]; simp [att_len]
  refine ⟨?_, ?_, hlen⟩
  · have := hperm.map (fun x : {x // Q x} => x.1)
    rwa [show ((att l hl).toArray.toList.map fun x : {x // Q x} => x.1) = l from att_map l hl] at this
  · rw [List.pairwise_map, List.pairwise_iff_getElem]
    intro i j hi hj hij
    have hi' : i < d'.size := by simpa using hi
    have hj' : j < d'.size := by simpa using hj
    have := hs i j (Nat.zero_le _) hij (by rw [← hsz]; exact hj')
    rw [getElem!_pos d' j hj', getElem!_pos d' i hi'] at this
    have := of_decide_eq_false this
    simpa using this
end
end Av
namespace Av
open Go Go.Sort Go.Proofs Go.Shelf

def cell1 : Ty → Bool
  | .bool => true
  | .int _ => true
  | .str => true
  | _ => false
theorem cell1_flat : ∀ {t : Ty}, cell1 t = true → flatT t = true
  | .bool, _ => rfl
  | .int _, _ => rfl
  | .str, _ => rfl
theorem cell1_size : ∀ {t : Ty}, cell1 t = true → t.size = 1
  | .bool, _ => rfl
  | .int _, _ => rfl
  | .str, _ => rfl
theorem cell1_vals : ∀ {t : Ty} (_ : cell1 t = true) (x : t.El), valsT t x = [elV t x]
  | .bool, _, _ => rfl
  | .int _, _, _ => rfl
  | .str, _, _ => rfl
theorem cell1_one {t : Ty} (h : cell1 t = true) (x : t.El) : (elV t x).oneCell' = true :=
  valsT_one t x _ (by rw [cell1_vals h]; simp)
theorem rowsV_one {t : Ty} (h : cell1 t = true) : ∀ l : List t.El, rowsV t l = l.map (elV t)
  | [] => rfl
  | x :: l => by
    have := rowsV_one h l
    simp only [rowsV] at this
    simp only [rowsV, List.flatMap_cons, cell1_vals h, List.map_cons, this]
    rfl
theorem putRow_enc {α : Type} [Inhabited α] (enc : α → Value) (w : World) (b off : Nat) (d : Array α) : putRow enc w b off d = putRow id w b off (d.map enc) := by
  have : putCells enc off d = putCells id off (d.map enc) := by
    funext c
    unfold putCells
    congr 1
    funext k x
    rw [Array.size_map]
    by_cases hk : off ≤ k ∧ k < off + d.size
    · rw [if_pos hk, if_pos hk, getElem!_pos d _ (by omega), getElem!_pos (d.map enc) _ (by simp; omega)]
      simp
    · rw [if_neg hk, if_neg hk]
  unfold putRow
  rw [this]
def lkz : List (FuncId × Ty) → FuncId → Option Ty
  | [], _ => none
  | (a, t) :: l, g => match Nat.beq a g with
    | true => some t
    | false => lkz l g
section
variable {i0 : Nat} {h : Hp}
theorem viewsD_ex {f : AV → (AV → Prop) → Prop} (hf : ∀ v k, f v k → ∃ v', k v') : ∀ (l : List AV) (k : List AV → Prop), viewsD f l k → ∃ l', k l'
  | [], k, h => ⟨[], h⟩
  | v :: l, k, h => by
    have h : f v fun v' => viewsD f l fun l' => k (v' :: l') := h
    obtain ⟨v', h3⟩ := hf v _ h
    obtain ⟨l', h5⟩ := viewsD_ex hf l _ h3
    exact ⟨v' :: l', h5⟩
theorem viewD_ex : ∀ (n : Nat) (v : AV) (k : AV → Prop), viewD n i0 h v k → ∃ v', k v'
  | 0, v, k, h => h.elim
  | n + 1, v, k, hv => by
    have ih := viewD_ex n
    replace hv : viewD1 i0 h (viewD n i0 h) v k := hv
    unfold viewD1 at hv
    split at hv <;> first
      | exact hv.elim
      | exact ⟨_, hv⟩
      | (split at hv
         · first
           | (obtain ⟨cs', h1⟩ := viewsD_ex ih _ _ hv
              exact ⟨_, h1⟩)
           | exact ⟨_, (need_elim hv).2⟩
         · exact hv.elim)
      | (obtain ⟨cs', h1⟩ := viewsD_ex ih _ _ hv
         exact ⟨_, h1⟩)
end
theorem put_set {h : Hp} {id : Nat} {o : AObj} (hlt : id < h.length) : put h id o = h.set id o := by
  unfold put
  rw [if_pos hlt]
variable {P : Program} {ρ : Ren}
theorem sort_f_enters (L : SlLaysF0.n6 P ρ) : Enters P (ρ.f 6) := by
  obtain ⟨nm, h1, h2⟩ := L.f6
  exact ⟨_, _, h2, h1, rfl⟩
set_option maxHeartbeats 1000000 in
/-- slices.SortFunc at elements of one cell, of an array of the code's own. -/
theorem sort1_ok (L : SlLaysF.n6 P ρ) {t0 : Ty} (ht : cell1 t0 = true) {call : CallA} (hcall : CallOk P call) {xs : List AV} {h : Hp} {K : AV → Hp → Prop} (hk : sortA t0 call xs h K) :
    Enters P (ρ.f 6) ∧ ∀ s, s.h = h → Ok s → ∀ cs, RL s xs cs →
      Calls P (ρ.f 6) cs.toArray s.w fun e w' => ∃ s' v cr, e = .returned cr ∧ s'.w = w' ∧ Step s s' ∧ Ok s' ∧ R s' v cr ∧ K v s'.h := by
  refine ⟨sort_f_enters { L with }, fun s hs hok cs hr => ?_⟩
  subst hs
  have htup : ∀ s' : St, R s' (.tup []) (.tuple #[]) := fun s' => by simp only [R]; exact ⟨[], rfl, by simp only [RL]⟩
  unfold sortA at hk
  split at hk
  · rename_i id g n c caps
    split at hk
    · rename_i T t l f g' ho
      obtain ⟨⟨rfl, rfl, htt, hsz⟩, hk2⟩ := need_elim hk
      clear hk
      have htt := Ty.eq_of_beq _ _ htt
      subst htt
      have hft := cell1_flat ht
      simp only [RL] at hr
      obtain ⟨v, _, rfl, hv, vf, _, rfl, hvf, rfl⟩ := hr
      simp only [R] at hv hvf
      obtain ⟨_, base, cap, rfl, hσ⟩ := hv
      obtain ⟨_, len, hσ⟩ := (hσ _ _ _ _ _ ho).2 rfl
      obtain ⟨xs, ys, rfl, hxs, hys⟩ := hvf
      simp only [RL] at hxs
      subst hxs
      have hlt := (List.getElem?_eq_some_iff.1 ho).1
      by_cases hl : l = []
      · subst hl
        obtain ⟨caps', hs⟩ := viewsD_ex (viewD_ex 6) _ _ hk2
        obtain ⟨Q, cf, _, _, _, _, _, hkk⟩ := hs
        have hkk := hkk [] (List.Perm.refl _) List.Pairwise.nil
        rw [putK_eq, put_set hlt] at hkk
        have hset : s.h.set id (.arr T t [] f g') = s.h := by
          apply List.ext_getElem?
          intro j
          by_cases hj : id = j
          · subst hj
            rw [List.getElem?_set_self hlt, ho]
          · rw [List.getElem?_set_ne hj]
        rw [hset] at hkk
        refine Calls.mono (AnyF.slices_SortFunc_none { L with } base cap (.func (.func c) #[] ys.toArray) s.w) ?_
        rintro e w' ⟨rfl, rfl⟩
        exact ⟨s, .tup [], .tuple #[], rfl, rfl, Step.refl s, hok, htup s, hkk⟩
      · obtain ⟨hlen, hcap, hb⟩ := own_RC hok ho hσ
        obtain ⟨b, hbase, _⟩ := hb hl
        subst hlen
        subst hbase
        obtain ⟨caps', hs, hcaps⟩ := viewsD_ok (s := s) (s0 := s.only b) (fun v c k => viewD_ok hok ho rfl (by rw [hσ]; rfl) 6 v c k) _ _ _ hys hk2
        obtain ⟨Q, cf, hQ, hc, hirr, htr, hnt, hkk⟩ := hs
        have hblt : b < s.w.heap.size := own_lt hok ⟨id, _, ho, rfl, by rw [hσ]; rfl⟩
        obtain ⟨x0, hx0⟩ : ∃ x, x ∈ l := by
          cases l with
          | nil => exact absurd rfl hl
          | cons x l => exact ⟨x, by simp⟩
        haveI : Inhabited {x // Q x} := ⟨⟨x0, hQ x0 hx0⟩⟩
        obtain ⟨qs, hown, hone, hrow, _⟩ := hok.obj id _ ho
        have hown' := hown
        rw [hσ] at hown'
        have hqs := rowsV_of (s := s) hft (by rw [cell1_size ht]; omega) hown.1 hrow
        rw [rowsV_one ht] at hqs
        have hen : Enters P c := (hcall _ _ _ _ (hc x0 x0 (hQ _ hx0) (hQ _ hx0))).1
        have hsize : (att l hQ).toArray.size = l.length := by simp [att_len]
        have hown2 := hok.obj id _ ho
        have hcell : ∀ j (hj : j < l.length), s.w.cell? ⟨b, 0 + j, none⟩ = some (elV t l[j]) := by
          intro j hj
          have hq : qs[j]? = some (elV t l[j]) := by
            rw [hqs, List.getElem?_map, List.getElem?_eq_getElem hj]
            rfl
          have := hown'.cells (g := b) rfl j _ hq
          rw [Addr.add_mid, Nat.zero_add] at this
          rw [Nat.zero_add]
          exact this
        have hfroz : ∀ j, s.w.frozen? ⟨b, 0 + j, none⟩ = false := by
          intro j
          rcases hown'.2 with ⟨he, _⟩ | ⟨b', cap', cur, he, hb0, hg, hnc, hcm, hcs, htake⟩
          · cases he
          · cases he
            simp [World.frozen?, hg]
        have hbang : ∀ j (hj : j < l.length), ((att l hQ).toArray[j]!).1 = l[j] := by
          intro j hj
          have h1 : (att l hQ)[j]? = some ((att l hQ)[j]'(by rw [att_len]; exact hj)) := List.getElem?_eq_getElem _
          have h2 := att_get hQ h1
          rw [get_bang h1]
          rw [List.getElem?_eq_getElem hj] at h2
          exact (Option.some.inj h2).symm
        have key := Any.slices_SortFunc L (fun x : {x // Q x} => elV t x.1) (fun x => cell1_one ht x.1) (fun x y => cf x.1 y.1) (swo_of hirr htr hnt) c ys.toArray b 0 cap (att l hQ).toArray s.w
          (fun args w => enter_run hen args w) (fun m os dk hdk x y => by
            unfold sortWorld
            rw [putRow_enc]
            exact cmp_calls hcall hft hblt hcaps (hc x.1 y.1 x.2 y.2) m _ os)
          (fun j hj => by
            rw [hsize] at hj
            refine ⟨?_, hfroz j⟩
            rw [hcell j hj]
            show some (elV t l[j]) = some (elV t ((att l hQ).toArray[j]!).1)
            rw [hbang j hj])
          hblt (by rw [hsize]; exact hsz)
        rw [hsize] at key
        refine Calls.mono key ?_
        rintro e w' ⟨rfl, d', n, os, hp, hso, hw⟩
        rw [← hsize] at hp hso
        obtain ⟨hperm, hpair, hdl⟩ := sorted_list hp hso
        have hkk := hkk _ hperm hpair
        rw [putK_eq, put_set hlt] at hkk
        unfold sortWorld at hw
        rw [putRow_enc] at hw
        have hF : (d'.map fun x : {x // Q x} => elV t x.1).toList = rowsV t (d'.toList.map (·.1)) := by
          rw [rowsV_one ht, Array.toList_map, List.map_map]
          rfl
        generalize (d'.map fun x : {x // Q x} => elV t x.1) = F at hF hw
        generalize (d'.toList.map (·.1)) = l2 at hF hperm hkk
        obtain ⟨hst, hok'⟩ := sort_turn hok ho hft hσ hperm.length_eq hF n os hw
        exact ⟨_, .tup [], .tuple #[], rfl, rfl, hst, hok', htup _, hkk⟩
    · exact hk.elim
  · rename_i g caps
    simp only [RL] at hr
    obtain ⟨v, _, rfl, hv, vf, _, rfl, hvf, rfl⟩ := hr
    simp only [R] at hv hvf
    obtain ⟨xs, ys, rfl, hxs, hys⟩ := hvf
    simp only [RL] at hxs
    subst hxs
    subst hv
    refine Calls.mono (AnyF.slices_SortFunc_none { L with } none 0 (.func (.func g) #[] ys.toArray) s.w) ?_
    rintro e w' ⟨rfl, rfl⟩
    exact ⟨s, .tup [], .tuple #[], rfl, rfl, Step.refl s, hok, htup s, hk⟩
  · rename_i g caps
    simp only [RL] at hr
    obtain ⟨v, _, rfl, hv, vf, _, rfl, hvf, rfl⟩ := hr
    simp only [R] at hv hvf
    obtain ⟨xs, ys, rfl, hxs, hys⟩ := hvf
    simp only [RL] at hxs
    subst hxs
    subst hv
    refine Calls.mono (AnyF.slices_SortFunc_none { L with } none 0 (.func (.func g) #[] ys.toArray) s.w) ?_
    rintro e w' ⟨rfl, rfl⟩
    exact ⟨s, .tup [], .tuple #[], rfl, rfl, Step.refl s, hok, htup s, hk⟩
  · exact hk.elim
/-- Functions that are walked through, to a depth, and sorts. -/
noncomputable def callZ (Z : List (FuncId × Ty)) (C : Cx) : Nat → CallA
  | 0, _, _, _, _ => False
  | n + 1, g, xs, h, K => match lkz Z g with
    | some t => sortA t (fun g xs h K => callZ Z C n g xs h K) xs h K
    | none => match lkf C.fns g with
      | some fn => bodyA C (fun g xs h K => callZ Z C n g xs h K) fn xs h K
      | none => False
def SortOk (P : Program) (f : FuncId) (t : Ty) : Prop :=
  ∀ (call : CallA), CallOk P call → ∀ (xs : List AV) (h : Hp) (K : AV → Hp → Prop), sortA t call xs h K →
    Enters P f ∧ ∀ s, s.h = h → Ok s → ∀ cs, RL s xs cs →
      Calls P f cs.toArray s.w fun e w' => ∃ s' v cr, e = .returned cr ∧ s'.w = w' ∧ Step s s' ∧ Ok s' ∧ R s' v cr ∧ K v s'.h
def SortsOk (P : Program) (Z : List (FuncId × Ty)) : Prop := ∀ g t, lkz Z g = some t → SortOk P g t
theorem SortsOk.nil : SortsOk P [] := fun g t h => by cases h
theorem SortsOk.cons {f : FuncId} {t : Ty} {Z : List (FuncId × Ty)} (h : SortOk P f t) (hZ : SortsOk P Z) : SortsOk P ((f, t) :: Z) := by
  intro g t' hg
  simp only [lkz] at hg
  split at hg
  · rename_i hb
    have := Nat.eq_of_beq_eq_true hb
    cases hg
    exact this ▸ h
  · exact hZ g t' hg
theorem SortOk.one {ρ : Ren} (L : SlLaysF.n6 P ρ) {t : Ty} (ht : cell1 t = true) : SortOk P (ρ.f 6) t := fun _ hc _ _ _ hk => sort1_ok L ht hc hk
theorem callZ_ok {Z : List (FuncId × Ty)} {C : Cx} (hm : P.follows .mixedOrders = true) (hT : TbOk P C.tb) (hD : SpecsOk P C.specs) (hF : FnsOk P C.fns) (hZ : SortsOk P Z) : ∀ n, CallOk P (callZ Z C n)
  | 0 => fun g xs h K hk => hk.elim
  | n + 1 => fun g xs h K hk => by
    simp only [callZ] at hk
    split at hk
    · rename_i t hl
      exact hZ g t hl _ (callZ_ok hm hT hD hF hZ n) _ _ _ hk
    · split at hk
      · rename_i fn hl
        have hfn := hF g fn hl
        refine ⟨hfn.enters, fun s hs hok cs hr => ?_⟩
        subst hs
        exact bodyA_ok hm hT hD (callZ_ok hm hT hD hF hZ n) hfn hk hok hr
      · exact hk.elim
end Av
namespace Av
open Go Go.Sort Go.Proofs Go.Shelf

theorem flatK_rows {t : Ty} (hft : flatT t = true) (hp : 0 < t.size) {α : Type} [Inhabited α] (g : α → t.El) (d : Array α) : flatK (fun x => valsT t (g x)) t.size d = (rowsV t (d.toList.map g)).toArray := by
  have hlen := rowsV_len hft (d.toList.map g)
  rw [List.length_map, Array.length_toList] at hlen
  refine Array.ext (by simp [hlen]) fun q h1 h2 => ?_
  have hq : q < d.size * t.size := by simpa using h1
  have hi : q / t.size < d.size := Nat.div_lt_of_lt_mul (by rw [Nat.mul_comm]; exact hq)
  have hj : q % t.size < t.size := Nat.mod_lt _ hp
  have e : q / t.size * t.size + q % t.size = q := by rw [Nat.mul_comm]; exact Nat.div_add_mod q t.size
  have hx : (d.toList.map g)[q / t.size]? = some (g d[q / t.size]!) := by
    rw [List.getElem?_map, Array.getElem?_toList, Array.getElem?_eq_getElem hi, getElem!_pos d _ hi]
    rfl
  have hr := rowsV_get hft (d.toList.map g) (q / t.size) _ (q % t.size) hx hj
  rw [e] at hr
  have hf := get_flatK (fun x => valsT t (g x)) t.size d q hq
  rw [getElem!_pos (flatK (fun x => valsT t (g x)) t.size d) q h1] at hf
  rw [hf]
  have hv : q % t.size < (valsT t (g d[q / t.size]!)).length := by rw [valsT_len t _ hft]; exact hj
  rw [getElem!_pos (valsT t (g d[q / t.size]!)) _ hv]
  have h3 : (rowsV t (d.toList.map g))[q]? = some ((rowsV t (d.toList.map g)).toArray[q]) := by
    simp only [List.getElem_toArray]
    exact List.getElem?_eq_getElem _
  rw [h3, List.getElem?_eq_getElem hv] at hr
  exact (Option.some.inj hr).symm
section
variable {P : Program} {ρ : Ren}
set_option maxHeartbeats 1000000 in
/-- slices.SortFunc at structs without slices, of an array of the code's own. -/
theorem sortK_ok (L : SlLaysF0.n6 P ρ) {t0 : Ty} (hft0 : flatT t0 = true) (hp0 : 0 < t0.size) (hel : ∀ x, elV t0 x = .agg (valsT t0 x).toArray) (aE : ∀ w, (isAgg (ρ.t 24)).run P w = .ok true w) (zE : ∀ w, (Go.sizeOf (ρ.t 24)).run P w = .ok t0.size w) {call : CallA} (hcall : CallOk P call) {xs : List AV} {h : Hp} {K : AV → Hp → Prop} (hk : sortA t0 call xs h K) :
    Enters P (ρ.f 6) ∧ ∀ s, s.h = h → Ok s → ∀ cs, RL s xs cs →
      Calls P (ρ.f 6) cs.toArray s.w fun e w' => ∃ s' v cr, e = .returned cr ∧ s'.w = w' ∧ Step s s' ∧ Ok s' ∧ R s' v cr ∧ K v s'.h := by
  refine ⟨sort_f_enters { L with }, fun s hs hok cs hr => ?_⟩
  subst hs
  have htup : ∀ s' : St, R s' (.tup []) (.tuple #[]) := fun s' => by simp only [R]; exact ⟨[], rfl, by simp only [RL]⟩
  unfold sortA at hk
  split at hk
  · rename_i id g n c caps
    split at hk
    · rename_i T t l f g' ho
      obtain ⟨⟨rfl, rfl, htt, hsz⟩, hk2⟩ := need_elim hk
      clear hk
      have htt := Ty.eq_of_beq _ _ htt
      subst htt
      have hft := hft0
      simp only [RL] at hr
      obtain ⟨v, _, rfl, hv, vf, _, rfl, hvf, rfl⟩ := hr
      simp only [R] at hv hvf
      obtain ⟨_, base, cap, rfl, hσ⟩ := hv
      obtain ⟨_, len, hσ⟩ := (hσ _ _ _ _ _ ho).2 rfl
      obtain ⟨xs, ys, rfl, hxs, hys⟩ := hvf
      simp only [RL] at hxs
      subst hxs
      have hlt := (List.getElem?_eq_some_iff.1 ho).1
      by_cases hl : l = []
      · subst hl
        obtain ⟨caps', hs⟩ := viewsD_ex (viewD_ex 6) _ _ hk2
        obtain ⟨Q, cf, _, _, _, _, _, hkk⟩ := hs
        have hkk := hkk [] (List.Perm.refl _) List.Pairwise.nil
        rw [putK_eq, put_set hlt] at hkk
        have hset : s.h.set id (.arr T t [] f g') = s.h := by
          apply List.ext_getElem?
          intro j
          by_cases hj : id = j
          · subst hj
            rw [List.getElem?_set_self hlt, ho]
          · rw [List.getElem?_set_ne hj]
        rw [hset] at hkk
        refine Calls.mono (AnyF.slices_SortFunc_none { L with } base cap (.func (.func c) #[] ys.toArray) s.w) ?_
        rintro e w' ⟨rfl, rfl⟩
        exact ⟨s, .tup [], .tuple #[], rfl, rfl, Step.refl s, hok, htup s, hkk⟩
      · obtain ⟨hlen, hcap, hb⟩ := own_RC hok ho hσ
        obtain ⟨b, hbase, _⟩ := hb hl
        subst hlen
        subst hbase
        obtain ⟨caps', hs, hcaps⟩ := viewsD_ok (s := s) (s0 := s.only b) (fun v c k => viewD_ok hok ho rfl (by rw [hσ]; rfl) 6 v c k) _ _ _ hys hk2
        obtain ⟨Q, cf, hQ, hc, hirr, htr, hnt, hkk⟩ := hs
        have hblt : b < s.w.heap.size := own_lt hok ⟨id, _, ho, rfl, by rw [hσ]; rfl⟩
        obtain ⟨x0, hx0⟩ : ∃ x, x ∈ l := by
          cases l with
          | nil => exact absurd rfl hl
          | cons x l => exact ⟨x, by simp⟩
        haveI : Inhabited {x // Q x} := ⟨⟨x0, hQ x0 hx0⟩⟩
        obtain ⟨qs, hown, hone, hrow, _⟩ := hok.obj id _ ho
        have hown' := hown
        rw [hσ] at hown'
        have hqs := rowsV_of (s := s) hft hp0 hown.1 hrow
        have hen : Enters P c := (hcall _ _ _ _ (hc x0 x0 (hQ _ hx0) (hQ _ hx0))).1
        have hsize : (att l hQ).toArray.size = l.length := by simp [att_len]
        have hown2 := hok.obj id _ ho
        have hcell : ∀ j u, (rowsV _ l)[j]? = some u → s.w.cell? ⟨b, 0 + j, none⟩ = some u := by
          intro j u hu
          have hq : qs[j]? = some u := by rw [hqs]; exact hu
          have := hown'.cells (g := b) rfl j _ hq
          rw [Addr.add_mid, Nat.zero_add] at this
          rw [Nat.zero_add]
          exact this
        have hfroz : ∀ j, s.w.frozen? ⟨b, 0 + j, none⟩ = false := by
          intro j
          rcases hown'.2 with ⟨he, _⟩ | ⟨b', cap', cur, he, hb0, hg, hnc, hcm, hcs, htake⟩
          · cases he
          · cases he
            simp [World.frozen?, hg]
        have hfk := flatK_rows hft hp0 (fun x : {x // Q x} => x.1) (att l hQ).toArray
        have hal : ((att l hQ).toArray.toList.map fun x : {x // Q x} => x.1) = l := by
          show (att l hQ).map (·.1) = l
          exact att_map l hQ
        rw [hal] at hfk
        have key := AnyQ.slices_SortFunc L _ aE zE (fun x : {x // Q x} => valsT _ x.1) (fun x => valsT_len _ x.1 hft) (fun x => valsT_one _ x.1) (fun x y => cf x.1 y.1) (swo_of hirr htr hnt) c ys.toArray b 0 cap (att l hQ).toArray s.w
          (fun args w => enter_run hen args w) (fun m os dk hdk x y => by
            unfold sortWorldK putRowK
            rw [← hel, ← hel]
            exact cmp_calls hcall hft hblt hcaps (hc x.1 y.1 x.2 y.2) m _ os)
          (by
            unfold HoldsK
            intro j hj
            rw [hfk] at hj ⊢
            refine ⟨?_, hfroz j⟩
            have hjl : j < (rowsV _ l).length := by simpa using hj
            rw [get_bang (List.getElem?_eq_getElem hjl)]
            exact hcell j _ (List.getElem?_eq_getElem hjl))
          hblt (by rw [hsize]; exact hsz)
        rw [hsize] at key
        refine Calls.mono key ?_
        rintro e w' ⟨rfl, d', n, os, hp, hso, hw⟩
        rw [← hsize] at hp hso
        obtain ⟨hperm, hpair, hdl⟩ := sorted_list hp hso
        have hkk := hkk _ hperm hpair
        rw [putK_eq, put_set hlt] at hkk
        unfold sortWorldK putRowK at hw
        have hF : (flatK (fun x : {x // Q x} => valsT t x.1) t.size d').toList = rowsV _ (d'.toList.map (·.1)) := by
          rw [flatK_rows hft hp0 (fun x : {x // Q x} => x.1) d']
        generalize flatK (fun x : {x // Q x} => valsT t x.1) t.size d' = F at hF hw
        generalize (d'.toList.map (·.1)) = l2 at hF hperm hkk
        obtain ⟨hst, hok'⟩ := sort_turn hok ho hft hσ hperm.length_eq hF n os hw
        exact ⟨_, .tup [], .tuple #[], rfl, rfl, hst, hok', htup _, hkk⟩
    · exact hk.elim
  · rename_i g caps
    simp only [RL] at hr
    obtain ⟨v, _, rfl, hv, vf, _, rfl, hvf, rfl⟩ := hr
    simp only [R] at hv hvf
    obtain ⟨xs, ys, rfl, hxs, hys⟩ := hvf
    simp only [RL] at hxs
    subst hxs
    subst hv
    refine Calls.mono (AnyF.slices_SortFunc_none { L with } none 0 (.func (.func g) #[] ys.toArray) s.w) ?_
    rintro e w' ⟨rfl, rfl⟩
    exact ⟨s, .tup [], .tuple #[], rfl, rfl, Step.refl s, hok, htup s, hk⟩
  · rename_i g caps
    simp only [RL] at hr
    obtain ⟨v, _, rfl, hv, vf, _, rfl, hvf, rfl⟩ := hr
    simp only [R] at hv hvf
    obtain ⟨xs, ys, rfl, hxs, hys⟩ := hvf
    simp only [RL] at hxs
    subst hxs
    subst hv
    refine Calls.mono (AnyF.slices_SortFunc_none { L with } none 0 (.func (.func g) #[] ys.toArray) s.w) ?_
    rintro e w' ⟨rfl, rfl⟩
    exact ⟨s, .tup [], .tuple #[], rfl, rfl, Step.refl s, hok, htup s, hk⟩
  · exact hk.elim
theorem SortOk.str {ρ : Ren} (L : SlLaysF0.n6 P ρ) {fs : List Ty} (hft : flatT (.st fs) = true) (hp : 0 < (Ty.st fs).size) (aE : ∀ w, (isAgg (ρ.t 24)).run P w = .ok true w) (zE : ∀ w, (Go.sizeOf (ρ.t 24)).run P w = .ok (Ty.st fs).size w) : SortOk P (ρ.f 6) (.st fs) :=
  fun _ hc _ _ _ hk => sortK_ok L hft hp (fun _ => by simp only [elV, valsT]) aE zE hc hk
end
end Av
namespace Av
open Go Go.Sort Go.Proofs Go.Shelf

def sortedI (l : List Int) : List Int := l.mergeSort fun x y => decide (x ≤ y)
def sortIA (xs : List AV) (h : Hp) (K : AV → Hp → Prop) : Prop := match xs with
  | [.own id g n] => match h[id]? with
    | some (.arr T (.int .i64) l f g') => need (g' = g ∧ n = l.length ∧ l.length < 4611686018427387904) (putK h id (.arr T (.int .i64) (sortedI l) f g') fun h => K (.tup []) h)
    | _ => False
  | [.nsl] => K (.tup []) h
  | [.zsl _] => K (.tup []) h
  | _ => False
theorem sortedI_len (l : List Int) : (sortedI l).length = l.length := by unfold sortedI; rw [List.length_mergeSort]
section
variable {P : Program} {ρ : Ren}
theorem sortI_ok (L : SlLaysN.n53 P ρ) {xs : List AV} {h : Hp} {K : AV → Hp → Prop} (hen : Enters P (ρ.f 53)) (hk : sortIA xs h K) : Enters P (ρ.f 53) ∧ ∀ s, s.h = h → Ok s → ∀ cs, RL s xs cs →
    Calls P (ρ.f 53) cs.toArray s.w fun e w' => ∃ s' v cr, e = .returned cr ∧ s'.w = w' ∧ Step s s' ∧ Ok s' ∧ R s' v cr ∧ K v s'.h := by
  refine ⟨hen, fun s hs hok cs hr => ?_⟩
  subst hs
  have htup : ∀ s2 : St, R s2 (.tup []) (.tuple #[]) := fun s2 => by simp only [R]; exact ⟨[], rfl, by simp only [RL]⟩
  unfold sortIA at hk
  split at hk
  · rename_i id g n
    split at hk
    · rename_i T l f g' ho
      obtain ⟨⟨rfl, rfl, hsz⟩, hk2⟩ := need_elim hk
      clear hk
      simp only [RL] at hr
      obtain ⟨v, _, rfl, hv, rfl⟩ := hr
      simp only [R] at hv
      obtain ⟨_, base, cap, rfl, hσ⟩ := hv
      obtain ⟨_, len, hσ⟩ := (hσ _ _ _ _ _ ho).2 rfl
      have hlt := (List.getElem?_eq_some_iff.1 ho).1
      rw [putK_eq, put_set hlt] at hk2
      by_cases hl : l = []
      · subst hl
        have hset : s.h.set id (.arr T (.int .i64) (sortedI []) f g') = s.h := by
          apply List.ext_getElem?
          intro j
          by_cases hj : id = j
          · subst hj
            rw [List.getElem?_set_self hlt, ho, show sortedI [] = [] by simp [sortedI]]
          · rw [List.getElem?_set_ne hj]
        rw [hset] at hk2
        refine Calls.mono (AnyG.slices_Sort_int_none L base cap s.w) ?_
        rintro e w' ⟨rfl, rfl⟩
        exact ⟨s, .tup [], .tuple #[], rfl, rfl, Step.refl s, hok, htup s, hk2⟩
      · obtain ⟨hlen, hcap, hb⟩ := own_RC hok ho hσ
        obtain ⟨b, hbase, _⟩ := hb hl
        subst hlen
        subst hbase
        have hblt : b < s.w.heap.size := own_lt hok ⟨id, _, ho, rfl, by rw [hσ]; rfl⟩
        obtain ⟨qs, hown, hone, hrow, _⟩ := hok.obj id _ ho
        have hown' := hown
        rw [hσ] at hown'
        have hcell : ∀ j (hj : j < l.length), s.w.cell? ⟨b, 0 + j, none⟩ = some (.int .i64 l[j]) := by
          intro j hj
          have hq : qs[j]? = some (.int .i64 l[j]) := by
            have h1 := hrow j l[j] (List.getElem?_eq_getElem hj)
            have h2 : qs[j * 1 + 0]? = some (.int .i64 l[j]) := h1
            rwa [Nat.mul_one, Nat.add_zero] at h2
          have := hown'.cells (g := b) rfl j _ hq
          rw [Addr.add_mid, Nat.zero_add] at this
          rw [Nat.zero_add]
          exact this
        have hfroz : ∀ j, s.w.frozen? ⟨b, 0 + j, none⟩ = false := by
          intro j
          rcases hown'.2 with ⟨he, _⟩ | ⟨b', cap', cur, he, hb0, hg, hnc, hcm, hcs, htake⟩
          · cases he
          · cases he
            simp [World.frozen?, hg]
        refine Calls.mono (AnyG.slices_Sort_int L b 0 cap l s.w (fun j hj => ?_) hblt hsz) ?_
        · have hj : j < l.length := by simpa using hj
          refine ⟨?_, hfroz j⟩
          rw [hcell j hj]
          simp [hj]
        · rintro e w' ⟨rfl, n, os, hw⟩
          rw [putRow_enc] at hw
          have hF : (((l.mergeSort fun x y => decide (x ≤ y)).toArray).map (Value.int .i64)).toList = rowsV (.int .i64) (sortedI l) := by
            rw [rowsV_one rfl, Array.toList_map]
            rfl
          obtain ⟨hst, hok'⟩ := sort_turn hok ho rfl hσ (sortedI_len l) hF n os hw
          exact ⟨_, .tup [], .tuple #[], rfl, rfl, hst, hok', htup _, hk2⟩
    · exact hk.elim
  · simp only [RL] at hr
    obtain ⟨v, _, rfl, hv, rfl⟩ := hr
    simp only [R] at hv
    subst hv
    refine Calls.mono (AnyG.slices_Sort_int_none L none 0 s.w) ?_
    rintro e w' ⟨rfl, rfl⟩
    exact ⟨s, .tup [], .tuple #[], rfl, rfl, Step.refl s, hok, htup s, hk⟩
  · simp only [RL] at hr
    obtain ⟨v, _, rfl, hv, rfl⟩ := hr
    simp only [R] at hv
    subst hv
    refine Calls.mono (AnyG.slices_Sort_int_none L none 0 s.w) ?_
    rintro e w' ⟨rfl, rfl⟩
    exact ⟨s, .tup [], .tuple #[], rfl, rfl, Step.refl s, hok, htup s, hk⟩
  · exact hk.elim
/-- Functions that are walked through, to a depth; sorts of numbers, and other sorts. -/
noncomputable def callY (I : List FuncId) (Z : List (FuncId × Ty)) (C : Cx) : Nat → CallA
  | 0, _, _, _, _ => False
  | n + 1, g, xs, h, K => match I.any (fun f => Nat.beq f g) with
    | true => sortIA xs h K
    | false => match lkz Z g with
      | some t => sortA t (fun g xs h K => callY I Z C n g xs h K) xs h K
      | none => match lkf C.fns g with
        | some fn => bodyA C (fun g xs h K => callY I Z C n g xs h K) fn xs h K
        | none => False
def SortIOk (P : Program) (f : FuncId) : Prop :=
  ∀ (xs : List AV) (h : Hp) (K : AV → Hp → Prop), sortIA xs h K →
    Enters P f ∧ ∀ s, s.h = h → Ok s → ∀ cs, RL s xs cs →
      Calls P f cs.toArray s.w fun e w' => ∃ s' v cr, e = .returned cr ∧ s'.w = w' ∧ Step s s' ∧ Ok s' ∧ R s' v cr ∧ K v s'.h
theorem SortIOk.of (L : SlLaysN.n53 P ρ) (hen : Enters P (ρ.f 53)) : SortIOk P (ρ.f 53) := fun _ _ _ hk => sortI_ok L hen hk
theorem callY_ok {I : List FuncId} {Z : List (FuncId × Ty)} {C : Cx} (hm : P.follows .mixedOrders = true) (hT : TbOk P C.tb) (hD : SpecsOk P C.specs) (hF : FnsOk P C.fns) (hI : ∀ f ∈ I, SortIOk P f) (hZ : SortsOk P Z) : ∀ n, CallOk P (callY I Z C n)
  | 0 => fun g xs h K hk => hk.elim
  | n + 1 => fun g xs h K hk => by
    simp only [callY] at hk
    split at hk
    · rename_i hb
      obtain ⟨f, hf, he⟩ := List.any_eq_true.1 hb
      have := Nat.eq_of_beq_eq_true he
      subst this
      exact hI f hf _ _ _ hk
    · split at hk
      · rename_i t hl
        exact hZ g t hl _ (callY_ok hm hT hD hF hI hZ n) _ _ _ hk
      · split at hk
        · rename_i fn hl
          have hfn := hF g fn hl
          refine ⟨hfn.enters, fun s hs hok cs hr => ?_⟩
          subst hs
          exact bodyA_ok hm hT hD (callY_ok hm hT hD hF hI hZ n) hfn hk hok hr
        · exact hk.elim
end
end Av
