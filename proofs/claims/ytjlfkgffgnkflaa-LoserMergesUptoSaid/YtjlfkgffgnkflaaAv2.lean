/-
  An abstract reading of values and memory: new blocks, the table of types, the words of the conditions.
-/
import Derived.Test.YtjlfkgffgnkflaaAv1
import Derived.Deep.MidRow
namespace Av
open Go

/-! ### Conditions, which the reckoning leaves to the proof -/
/- Inductive, not definitions: nothing that checks a proof may look behind them. -/
inductive br (b : Bool) (x y : Prop) : Prop where
  | t (hb : b = true) (h : x) : br b x y
  | f (hb : b = false) (h : y) : br b x y
inductive need (p : Prop) [Decidable p] (x : Prop) : Prop where
  | mk (hp : p) (h : x) : need p x
inductive fact (p : Prop) [Decidable p] (x : Prop) : Prop where
  | mk (h : p → x) : fact p x
inductive idx {α : Type} (l : List α) (i : Int) (k : α → Prop) : Prop where
  | mk (x : α) (h0 : 0 ≤ i) (hx : l[i.toNat]? = some x) (h : k x) : idx l i k
theorem br_intro {b : Bool} {x y : Prop} (h1 : b = true → x) (h2 : b = false → y) : br b x y := by
  cases b
  · exact .f rfl (h2 rfl)
  · exact .t rfl (h1 rfl)
theorem br_true {b : Bool} {x y : Prop} (hb : b = true) (h : x) : br b x y := .t hb h
theorem br_false {b : Bool} {x y : Prop} (hb : b = false) (h : y) : br b x y := .f hb h
theorem br_elim {b : Bool} {x y : Prop} (h : br b x y) : (b = true ∧ x) ∨ (b = false ∧ y) := by
  cases h with
  | t hb h => exact .inl ⟨hb, h⟩
  | f hb h => exact .inr ⟨hb, h⟩
theorem need_intro {p : Prop} [Decidable p] {x : Prop} (hp : p) (h : x) : need p x := .mk hp h
theorem need_elim {p : Prop} [Decidable p] {x : Prop} (h : need p x) : p ∧ x := by cases h with | mk hp h => exact ⟨hp, h⟩
theorem fact_intro {p : Prop} [Decidable p] {x : Prop} (h : p → x) : fact p x := .mk h
theorem fact_elim {p : Prop} [Decidable p] {x : Prop} (h : fact p x) (hp : p) : x := by cases h with | mk h => exact h hp
theorem idx_intro {α : Type} {l : List α} {i : Int} {k : α → Prop} (h0 : 0 ≤ i) (h1 : i < l.length) (h : ∀ x, l[i.toNat]? = some x → k x) : idx l i k := by
  have : i.toNat < l.length := by omega
  exact .mk _ h0 (List.getElem?_eq_getElem this) (h _ (List.getElem?_eq_getElem this))
theorem idx_elim {α : Type} {l : List α} {i : Int} {k : α → Prop} (h : idx l i k) : ∃ x, 0 ≤ i ∧ l[i.toNat]? = some x ∧ k x := by
  cases h with
  | mk x h0 hx h => exact ⟨x, h0, hx, h⟩

/-! ### A new block -/
def put (h : List AObj) (nid : Nat) (ob : AObj) : List AObj := if nid < h.length then h.set nid ob else h ++ [ob]
def upd {α : Type} (σ : Nat → α) (i : Nat) (v : α) : Nat → α := fun j => if j = i then v else σ j
theorem upd_same {α : Type} (σ : Nat → α) (i : Nat) (v : α) : upd σ i v i = v := by simp [upd]
theorem upd_other {α : Type} (σ : Nat → α) {i j : Nat} (v : α) (h : j ≠ i) : upd σ i v j = σ j := by
  simp [upd, h]
/-- A number that may be given to a new block. -/
def Free (h : List AObj) (nid : Nat) : Prop := nid = h.length ∨ h[nid]? = some .resv
theorem Free.kn {h : List AObj} {nid : Nat} (hf : Free h nid) : kn h nid = false := by
  rcases hf with rfl | hf
  · simp [Av.kn]
  · simp [Av.kn, hf]
theorem put_same {h : List AObj} {nid : Nat} (hf : Free h nid) (ob : AObj) : (put h nid ob)[nid]? = some ob := by
  unfold put
  rcases hf with rfl | hf
  · simp
  · have hlt : nid < h.length := (List.getElem?_eq_some_iff.1 hf).1
    simp [hlt]
theorem put_other {h : List AObj} {nid : Nat} (hf : Free h nid) (ob : AObj) {id : Nat} (hid : id ≠ nid) : (put h nid ob)[id]? = h[id]? := by
  unfold put
  rcases hf with rfl | hf
  · rw [if_neg (Nat.lt_irrefl _)]
    rcases Nat.lt_or_gt_of_ne hid with h1 | h1
    · rw [List.getElem?_append_left h1]
    · rw [List.getElem?_eq_none (by simp; omega), List.getElem?_eq_none (by omega)]
  · have hlt : nid < h.length := (List.getElem?_eq_some_iff.1 hf).1
    simp [hlt, Ne.symm hid]
theorem put_kn {h : List AObj} {nid : Nat} (hf : Free h nid) (ob : AObj) {id : Nat} (hid : kn h id = true) : kn (put h nid ob) id = true := by
  have hne : id ≠ nid := by rintro rfl; rw [hf.kn] at hid; cases hid
  unfold kn at hid ⊢
  rw [put_other hf ob hne]
  exact hid

/-- A run never takes back what has been drawn. -/
theorem ask_drawn {α : Type} : ∀ (k : Ask α) (w : World), w.drawn ≤ (w.ask k).2.drawn
  | .done a, w => Nat.le_refl _
  | .ask what range k, w => by
    simp only [World.ask]
    split
    · exact ask_drawn _ w
    · exact Nat.le_trans (Nat.le_succ _) (ask_drawn _ { w with drawn := w.drawn + 1 })
theorem sys_drawn (w : World) (c : Sys) : w.drawn ≤ (w.sys c).2.drawn := by
  unfold World.sys
  split
  · exact Nat.le_refl _
  · rename_i r os w' _ h
    have := ask_drawn (Kernel.perform c w.os) w
    rw [h] at this
    exact this
theorem except_bind {ε α β : Type} {x : Except ε α} {f : α → Except ε β} {r : β} (h : (x >>= f) = .ok r) : ∃ a, x = .ok a ∧ f a = .ok r := by
  cases x with
  | error e => cases h
  | ok a => exact ⟨a, rfl, h⟩
theorem viewStore_drawn {P : Program} {w : World} {b : Addr} {u : TypeId} {k : Addr} {v : Value} {m : Bool} {r : World × List Addr} (h : w.viewStore P b u k v m = .ok r) : r.1.drawn = w.drawn := by
  unfold World.viewStore at h
  dsimp only at h
  split at h
  · obtain ⟨_, h1, _⟩ := except_bind h
    cases h1
  · obtain ⟨⟨c, e, fz, first, like, cells⟩, _, h⟩ := except_bind h
    dsimp only at h
    split at h
    · split at h
      · obtain ⟨_, h1, _⟩ := except_bind h
        cases h1
      · obtain ⟨c, _, h⟩ := except_bind h
        cases h
        rfl
    · cases h
theorem farStore_drawn {P : Program} {w : World} {a : Addr} {v : Value} {m : Bool} {w1 : World} {t : List Addr} (h : w.farStore P a v m = .ok (w1, t)) : w1.drawn = w.drawn := by
  unfold World.farStore at h
  split at h
  · split at h
    · rename_i r hr
      cases h
      exact viewStore_drawn hr
    · cases h
  · cases h
theorem setCell_drawn (w : World) (a : Addr) (v : Value) : (w.setCell a v).drawn = w.drawn := rfl
theorem run_drawn {P : Program} {α : Type} : ∀ (m : Sem α) (w : World) (v : α) (w' : World), m.run P w = .ok v w' → w.drawn ≤ w'.drawn := by
  intro m
  induction m with
  | pure a => intro w v w' h; cases h; exact Nat.le_refl _
  | load m a k ih =>
    intro w v w' h
    unfold Sem.run at h
    split at h
    · exact ih _ _ _ _ h
    · split at h
      · exact ih _ _ _ _ h
      · cases h
  | store m a x k ih =>
    intro w v w' h
    cases x <;> simp only [Sem.run] at h <;> first
      | (cases h; done)
      | (split at h
         · split at h
           · cases h
           · exact ih (w.setCell a _) _ _ h
         · split at h
           · rename_i w1 t hf
             rw [← farStore_drawn hf]
             exact ih _ _ _ h
           · cases h)
  | new o k ih => intro w v w' h; exact ih _ { w with heap := w.heap.push o } _ _ h
  | shape r k ih => intro w v w' h; exact ih _ _ _ _ h
  | freeze a n k ih => 
    intro w v w' h
    have := ih _ _ _ h
    unfold World.freeze at this
    split at this <;> exact this
  | frozen a k ih => intro w v w' h; exact ih _ _ _ _ h
  | getObj r k ih =>
    intro w v w' h
    unfold Sem.run at h
    split at h
    · cases h
    · exact ih _ _ _ _ h
    · cases h
  | setObj r o k ih =>
    intro w v w' h
    unfold Sem.run at h
    split at h
    · cases h
    · exact ih { w with heap := w.heap.setIfInBounds r o } _ _ h
    · cases h
  | choose q k ih =>
    intro w v w' h
    unfold Sem.run at h
    split at h
    · exact ih _ _ _ _ h
    · exact Nat.le_trans (Nat.le_succ _) (ih _ _ _ _ h)
  | sys c k ih => intro w v w' h; exact Nat.le_trans (sys_drawn w c) (ih _ _ _ _ h)
  | program k ih => intro w v w' h; exact ih _ _ _ _ h
  | mark m k ih => intro w v w' h; exact ih _ _ _ h
  | halt h => intro w v w' h; cases h
/-- The memory has grown, or stayed, but for one block. -/
structure Gb (w w' : World) (row : Option Nat) : Prop where
  os : w'.os = w.os
  tape : w'.tape = w.tape
  output : w'.output = w.output
  drawn : w.drawn ≤ w'.drawn
  size : w.heap.size ≤ w'.heap.size
  block : ∀ k, k < w.heap.size → some k ≠ row → w'.heap[k]? = w.heap[k]?
theorem Gb.of {w w' : World} {row : Option Nat} (h : w.grownBy w' row) (hd : w.drawn ≤ w'.drawn) : Gb w w' row := ⟨h.os, h.tape, h.output, hd, h.size, h.block⟩

/-- The memory has grown, or stayed. -/
structure Grew (w w' : World) : Prop where
  os : w'.os = w.os
  tape : w'.tape = w.tape
  output : w'.output = w.output
  drawn : w.drawn ≤ w'.drawn
  size : w.heap.size ≤ w'.heap.size
  block : ∀ b, b < w.heap.size → w'.heap[b]? = w.heap[b]?
theorem Grew.refl (w : World) : Grew w w := ⟨rfl, rfl, rfl, Nat.le_refl _, Nat.le_refl _, fun _ _ => rfl⟩
theorem Grew.alloc (w : World) (o : Obj) : Grew w (w.alloc o) := ⟨rfl, rfl, rfl, Nat.le_refl _, by simp, fun b hb => heap_alloc_old w o b hb⟩

def St.new (s : St) (nid : Nat) (ob : AObj) (v : Value) (w' : World) : St := ⟨upd s.σ nid v, put s.h nid ob, w', s.F⟩
theorem St.new_own {s : St} {nid : Nat} (hf : Free s.h nid) {ob : AObj} {v : Value} {w' : World} (hb : ∀ b, blkOf v = some b → s.w.heap.size ≤ b) {b : Nat} (hlt : b < s.w.heap.size) (h : OwnI (s.new nid ob v w') b) : OwnI s b := by
  obtain ⟨id, o, h1, h2, h3⟩ := h
  by_cases he : id = nid
  · subst he
    simp only [St.new, upd_same] at h3
    exact absurd (hb b h3) (by omega)
  · simp only [St.new] at h1 h3
    rw [put_other hf ob he] at h1
    rw [upd_other _ _ he] at h3
    exact ⟨id, o, h1, h2, h3⟩
theorem St.new_step {s : St} {nid : Nat} (hf : Free s.h nid) {ob : AObj} {v : Value} {w' : World} (hw : Grew s.w w') (hb : ∀ b, blkOf v = some b → s.w.heap.size ≤ b) : Step s (s.new nid ob v w') where
  os := hw.os
  tape := hw.tape
  output := hw.output
  drawn := hw.drawn
  size := hw.size
  keep := fun b hlt hn => ⟨fun h => hn (St.new_own hf hb hlt h), hw.block b hlt⟩
  frn := rfl
  kn := fun id hid => put_kn hf ob hid
  cells := fun id T cs' hid hc => by
    have hne : id ≠ nid := by rintro rfl; rw [hf.kn] at hid; cases hid
    have hc : (put s.h nid ob)[id]? = _ := hc
    rw [put_other hf ob hne] at hc
    exact ⟨upd_other _ _ hne, cs', hc⟩
  arr := fun id T t l' f' g hid hc => by
    have hne : id ≠ nid := by rintro rfl; rw [hf.kn] at hid; cases hid
    have hc : (put s.h nid ob)[id]? = _ := hc
    rw [put_other hf ob hne] at hc
    exact ⟨l', f', g, hc, Nat.le_refl _, fun _ => ⟨upd_other _ _ hne, rfl⟩⟩

theorem own_lt {s : St} (hok : Ok s) {b : Nat} (h : OwnI s b) : b < s.w.heap.size := by
  obtain ⟨id, o, h1, h2, h3⟩ := h
  have ho := hok.obj id o h1
  cases o with
  | resv => cases h2
  | dead => cases h2
  | cells T cs =>
    obtain ⟨b', vs, e, hh, _⟩ := ho
    rw [e] at h3
    cases h3
    exact (Array.getElem?_eq_some_iff.1 hh).1
  | arr T t l f g =>
    obtain ⟨xs, hown, _⟩ := ho
    rcases hown.2 with ⟨e, _⟩ | ⟨g', cap, cur, e, _, hh, _⟩
    · rw [e] at h3; cases h3
    · rw [e] at h3; cases h3
      exact (Array.getElem?_eq_some_iff.1 hh).1

/-- What is known of an old block is known behind a step that leaves its memory alone. -/
theorem ObjR_mono {s s' : St} (h : Step s s') {id : Nat} {o : AObj} (hσ : s'.σ id = s.σ id) (hb : ∀ b, blkOf (s.σ id) = some b → s'.w.heap[b]? = s.w.heap[b]?) (ho : ObjR s id o) : ObjR s' id o := by
  cases o with
  | resv => trivial
  | dead => trivial
  | cells T cs =>
    obtain ⟨b, vs, e, hh, hl, h1⟩ := ho
    exact ⟨b, vs, hσ.trans e, (hb b (by rw [e]; rfl)).trans hh, RL_mono h cs vs hl, h1⟩
  | arr T t l f g =>
    obtain ⟨xs, hown, h1, hx, hf⟩ := ho
    refine ⟨xs, ?_, h1, fun i x hi => RT_mono h t x _ _ (fun _ _ hv => hv) (hx i x hi), fun hf' => by rw [hσ]; exact hf hf'⟩
    rw [hσ]
    refine ⟨hown.1, ?_⟩
    rcases hown.2 with h2 | ⟨g', cap, cur, e, hg, hh, r⟩
    · exact .inl h2
    · exact .inr ⟨g', cap, cur, e, hg, (hb g' (by rw [e]; rfl)).trans hh, r⟩

theorem St.new_ok {s : St} {nid : Nat} (hok : Ok s) (hf : Free s.h nid) {ob : AObj} {v : Value} {w' : World} (hw : Grew s.w w') (hb : ∀ b, blkOf v = some b → s.w.heap.size ≤ b) (ho : ObjR (s.new nid ob v w') nid ob) : Ok (s.new nid ob v w') where
  obj := fun id o hid => by
    by_cases he : id = nid
    · subst he
      simp only [St.new] at hid
      rw [put_same hf] at hid
      cases hid
      exact ho
    · have hid' : s.h[id]? = some o := by
        simp only [St.new] at hid
        rw [put_other hf ob he] at hid
        exact hid
      cases ha : o.alive with
      | false => cases o <;> first | trivial | cases ha
      | true =>
        exact ObjR_mono (St.new_step hf hw hb) (by simp only [St.new]; exact upd_other _ _ he) (fun b hbb => hw.block b (own_lt hok ⟨id, o, hid', ha, hbb⟩)) (hok.obj id o hid')
  inj := fun i j o p b hi hj hao hap hbi hbj => by
    simp only [St.new] at hi hj hbi hbj
    by_cases hei : i = nid
    · by_cases hej : j = nid
      · rw [hei, hej]
      · exfalso
        subst hei
        rw [upd_same] at hbi
        rw [put_other hf ob hej] at hj
        rw [upd_other _ _ hej] at hbj
        have := own_lt hok ⟨j, p, hj, hap, hbj⟩
        have := hb b hbi
        omega
    · by_cases hej : j = nid
      · exfalso
        subst hej
        rw [upd_same] at hbj
        rw [put_other hf ob hei] at hi
        rw [upd_other _ _ hei] at hbi
        have := own_lt hok ⟨i, o, hi, hao, hbi⟩
        have := hb b hbj
        omega
      · rw [put_other hf ob hei] at hi
        rw [put_other hf ob hej] at hj
        rw [upd_other _ _ hei] at hbi
        rw [upd_other _ _ hej] at hbj
        exact hok.inj i j o p b hi hj hao hap hbi hbj
  fb := fun b hb => Nat.lt_of_lt_of_le (hok.fb b hb) hw.size
  dis := fun b ho hF => by
    have := hok.fb b hF
    exact hok.dis b (St.new_own hf hb this ho) hF

/-- A draw turns nothing. -/
def St.world (s : St) (w' : World) : St := ⟨s.σ, s.h, w', s.F⟩
theorem St.world_step {s : St} {w' : World} (hw : Grew s.w w') : Step s (s.world w') :=
  ⟨hw.os, hw.tape, hw.output, hw.drawn, hw.size, fun _ h => h, fun b hb hn => ⟨fun h => hn h, hw.block b hb⟩, rfl, fun _ _ cs _ h => ⟨rfl, cs, h⟩, fun _ _ _ l f g _ h => ⟨l, f, g, h, Nat.le_refl _, fun _ => ⟨rfl, rfl⟩⟩⟩
theorem St.world_ok {s : St} (hok : Ok s) {w' : World} (hw : Grew s.w w') : Ok (s.world w') where
  obj := fun id o hid => by
    cases ha : o.alive with
    | false => cases o <;> first | trivial | cases ha
    | true => exact ObjR_mono (St.world_step hw) rfl (fun b hbb => hw.block b (own_lt hok ⟨id, o, hid, ha, hbb⟩)) (hok.obj id o hid)
  inj := hok.inj
  fb := fun b hb => Nat.lt_of_lt_of_le (hok.fb b hb) hw.size
  dis := hok.dis
end Av
