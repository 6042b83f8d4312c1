/-
  An abstract reading of values and memory: new blocks, the table of types, the words of the conditions.
  An abstract reading of values and memory: the table of types, and what an operation that only reads or makes memory gives.
  An abstract reading of values and memory: the operations that only read, or make memory.
  An abstract reading of values and memory: what each operation is reckoned to give.
-/
import Derived.Test.YtkjoofinfhdcaaaAv1
import Derived.Deep.MidRow
import Derived.Laws.Entries
namespace Av
open Go

/-! ### Conditions, which the reckoning leaves to the proof -/
/- Inductive, not definitions: nothing that checks a proof may look behind them. -/
inductive br (b : Bool) (x y : Prop) : Prop where
 | t (hb : b = true) (h : x) : br b x y
 | f (hb : b = false) (h : y) : br b x y
inductive need (p : Prop) [Decidable p] (x : Prop) : Prop where
 | mk (hp : p) (h : x) : need p x
inductive idx {α : Type} (l : List α) (i : Int) (k : α → Prop) : Prop where
 | mk (x : α) (h0 : 0 ≤ i) (hx : l[i.toNat]? = some x) (h : k x) : idx l i k
theorem br_intro {b : Bool} {x y : Prop} (h1 : b = true → x) (h2 : b = false → y) : br b x y := by
 cases b
 ·exact .f rfl (h2 rfl)
 ·exact .t rfl (h1 rfl)
theorem br_true {b : Bool} {x y : Prop} (hb : b = true) (h : x) : br b x y := .t hb h
theorem br_false {b : Bool} {x y : Prop} (hb : b = false) (h : y) : br b x y := .f hb h
theorem br_elim {b : Bool} {x y : Prop} (h : br b x y) : (b = true ∧ x) ∨ (b = false ∧ y) := by
 cases h with
 | t hb h => exact .inl ⟨hb, h⟩
 | f hb h => exact .inr ⟨hb, h⟩
theorem need_intro {p : Prop} [Decidable p] {x : Prop} (hp : p) (h : x) : need p x := .mk hp h
theorem need_elim {p : Prop} [Decidable p] {x : Prop} (h : need p x) : p ∧ x := by cases h with | mk hp h => exact ⟨hp, h⟩
theorem idx_intro {α : Type} {l : List α} {i : Int} {k : α → Prop} (h0 : 0 ≤ i) (h1 : i < l.length) (h : ∀ x, l[i.toNat]? = some x → k x) : idx l i k := by
 have : i.toNat < l.length := by omega
 exact .mk _ h0 (List.getElem?_eq_getElem this) (h _ (List.getElem?_eq_getElem this))
theorem idx_elim {α : Type} {l : List α} {i : Int} {k : α → Prop} (h : idx l i k) : ∃ x, 0 ≤ i ∧ l[i.toNat]? = some x ∧ k x := by
 cases h with
 | mk x h0 hx h => exact ⟨x, h0, hx, h⟩

/-! ### A new block -/
def put (h : List AObj) (nid : Nat) (ob : AObj) : List AObj := if nid < h.length then h.set nid ob else h ++ [ob]
def upd {α : Type} (σ : Nat → α) (i : Nat) (v : α) : Nat → α := fun j => if j = i then v else σ j
theorem upd_same {α : Type} (σ : Nat → α) (i : Nat) (v : α) : upd σ i v i = v := by simp [upd]
theorem upd_other {α : Type} (σ : Nat → α) {i j : Nat} (v : α) (h : j ≠ i) : upd σ i v j = σ j := by
 simp [upd, h]
def Free (h : List AObj) (nid : Nat) : Prop := nid = h.length ∨ h[nid]? = some .resv
theorem Free.kn {h : List AObj} {nid : Nat} (hf : Free h nid) : kn h nid = false := by
 rcases hf with rfl | hf
 ·simp [Av.kn]
 ·simp [Av.kn, hf]
theorem put_same {h : List AObj} {nid : Nat} (hf : Free h nid) (ob : AObj) : (put h nid ob)[nid]? = some ob := by
 unfold put
 rcases hf with rfl | hf
 ·simp
 ·have hlt : nid < h.length := (List.getElem?_eq_some_iff.1 hf).1
  simp [hlt]
theorem put_other {h : List AObj} {nid : Nat} (hf : Free h nid) (ob : AObj) {id : Nat} (hid : id ≠ nid) : (put h nid ob)[id]? = h[id]? := by
 unfold put
 rcases hf with rfl | hf
 ·rw [if_neg (Nat.lt_irrefl _)]
  rcases Nat.lt_or_gt_of_ne hid with h1 | h1
  ·rw [List.getElem?_append_left h1]
  ·rw [List.getElem?_eq_none (by simp; omega), List.getElem?_eq_none (by omega)]
 ·have hlt : nid < h.length := (List.getElem?_eq_some_iff.1 hf).1
  simp [hlt, Ne.symm hid]
theorem put_kn {h : List AObj} {nid : Nat} (hf : Free h nid) (ob : AObj) {id : Nat} (hid : kn h id = true) : kn (put h nid ob) id = true := by
 have hne : id ≠ nid := by rintro rfl; rw [hf.kn] at hid; cases hid
 unfold kn at hid ⊢
 rw [put_other hf ob hne]
 exact hid

theorem ask_drawn {α : Type} : ∀ (k : Ask α) (w : World), w.drawn ≤ (w.ask k).2.drawn
 | .done a, w => Nat.le_refl _
 | .ask what range k, w => by
  simp only [World.ask]
  split
  ·exact ask_drawn _ w
  ·exact Nat.le_trans (Nat.le_succ _) (ask_drawn _ { w with drawn := w.drawn + 1 })
theorem sys_drawn (w : World) (c : Sys) : w.drawn ≤ (w.sys c).2.drawn := by
 unfold World.sys
 split
 ·exact Nat.le_refl _
 ·rename_i r os w' _ h
  have := ask_drawn (Kernel.perform c w.os) w
  rw [h] at this
  exact this
theorem except_bind {ε α β : Type} {x : Except ε α} {f : α → Except ε β} {r : β} (h : (x >>= f) = .ok r) : ∃ a, x = .ok a ∧ f a = .ok r := by
 cases x with
 | error e => cases h
 | ok a => exact ⟨a, rfl, h⟩
theorem viewStore_drawn {P : Program} {w : World} {b : Addr} {u : TypeId} {k : Addr} {v : Value} {m : Bool} {r : World × List Addr} (h : w.viewStore P b u k v m = .ok r) : r.1.drawn = w.drawn := by
 unfold World.viewStore at h
 dsimp only at h
 split at h
 ·obtain ⟨_, h1, _⟩ := except_bind h
  cases h1
 ·obtain ⟨⟨c, e, fz, first, like, cells⟩, _, h⟩ := except_bind h
  dsimp only at h
  split at h
  ·split at h
   ·obtain ⟨_, h1, _⟩ := except_bind h
    cases h1
   ·obtain ⟨c, _, h⟩ := except_bind h
    cases h
    rfl
  ·cases h
theorem farStore_drawn {P : Program} {w : World} {a : Addr} {v : Value} {m : Bool} {w1 : World} {t : List Addr} (h : w.farStore P a v m = .ok (w1, t)) : w1.drawn = w.drawn := by
 unfold World.farStore at h
 split at h
 ·split at h
  ·rename_i r hr
   cases h
   exact viewStore_drawn hr
  ·cases h
 ·cases h
theorem run_drawn {P : Program} {α : Type} : ∀ (m : Sem α) (w : World) (v : α) (w' : World), m.run P w = .ok v w' → w.drawn ≤ w'.drawn := by
  intro m
  induction m with
  | pure a => intro w v w' h; cases h; exact Nat.le_refl _
  | load m a k ih =>
    intro w v w' h
    unfold Sem.run at h
    split at h
    · exact ih _ _ _ _ h
    · split at h
      · exact ih _ _ _ _ h
      · cases h
  | store m a x k ih =>
    intro w v w' h
    cases x <;> simp only [Sem.run] at h <;> first
      | (cases h; done)
      | (split at h
         · split at h
           · cases h
           · exact ih (w.setCell a _) _ _ h
         · split at h
           · rename_i w1 t hf
             rw [← farStore_drawn hf]
             exact ih _ _ _ h
           · cases h)
  | new o k ih => intro w v w' h; exact ih _ { w with heap := w.heap.push o } _ _ h
  | shape r k ih => intro w v w' h; exact ih _ _ _ _ h
  | freeze a n k ih => 
    intro w v w' h
    have := ih _ _ _ h
    unfold World.freeze at this
    split at this <;> exact this
  | frozen a k ih => intro w v w' h; exact ih _ _ _ _ h
  | getObj r k ih =>
    intro w v w' h
    unfold Sem.run at h
    split at h
    · cases h
    · exact ih _ _ _ _ h
    · cases h
  | setObj r o k ih =>
    intro w v w' h
    unfold Sem.run at h
    split at h
    · cases h
    · exact ih { w with heap := w.heap.setIfInBounds r o } _ _ h
    · cases h
  | choose q k ih =>
    intro w v w' h
    unfold Sem.run at h
    split at h
    · exact ih _ _ _ _ h
    · exact Nat.le_trans (Nat.le_succ _) (ih _ _ _ _ h)
  | sys c k ih => intro w v w' h; exact Nat.le_trans (sys_drawn w c) (ih _ _ _ _ h)
  | program k ih => intro w v w' h; exact ih _ _ _ _ h
  | mark m k ih => intro w v w' h; exact ih _ _ _ h
  | halt h => intro w v w' h; cases h
structure Gb (w w' : World) (row : Option Nat) : Prop where
 os : w'.os = w.os
 tape : w'.tape = w.tape
 output : w'.output = w.output
 drawn : w.drawn ≤ w'.drawn
 size : w.heap.size ≤ w'.heap.size
 block : ∀ k, k < w.heap.size → some k ≠ row → w'.heap[k]? = w.heap[k]?
theorem Gb.of {w w' : World} {row : Option Nat} (h : w.grownBy w' row) (hd : w.drawn ≤ w'.drawn) : Gb w w' row := ⟨h.os, h.tape, h.output, hd, h.size, h.block⟩

structure Grew (w w' : World) : Prop where
 os : w'.os = w.os
 tape : w'.tape = w.tape
 output : w'.output = w.output
 drawn : w.drawn ≤ w'.drawn
 size : w.heap.size ≤ w'.heap.size
 block : ∀ b, b < w.heap.size → w'.heap[b]? = w.heap[b]?
theorem Grew.refl (w : World) : Grew w w := ⟨rfl, rfl, rfl, Nat.le_refl _, Nat.le_refl _, fun _ _ => rfl⟩
theorem Grew.alloc (w : World) (o : Obj) : Grew w (w.alloc o) := ⟨rfl, rfl, rfl, Nat.le_refl _, by simp, fun b hb => heap_alloc_old w o b hb⟩

def St.new (s : St) (nid : Nat) (ob : AObj) (v : Value) (w' : World) : St := ⟨upd s.σ nid v, put s.h nid ob, w', s.F⟩
theorem Has.own {s : St} {id : Nat} {o : AObj} {b : Nat} (h : blkOf (s.σ id) = some b) : Has s id o b := .inl h
theorem Has.one {s : St} {id : Nat} {o : AObj} {b : Nat} (h : Has s id o b) (hm : o.more = []) : blkOf (s.σ id) = some b := h.resolve_right (by rw [hm]; simp)
theorem Has.of {s s' : St} {id : Nat} {o : AObj} {b : Nat} (hσ : s'.σ id = s.σ id) (h : Has s' id o b) : Has s id o b := by
 unfold Has at h ⊢
 rw [hσ] at h
 exact h
theorem St.new_own {s : St} {nid : Nat} (hf : Free s.h nid) {ob : AObj} {v : Value} {w' : World} (hb : ∀ b, blkOf v = some b → s.w.heap.size ≤ b) {b : Nat} (hlt : b < s.w.heap.size) (h : OwnI (s.new nid ob v w') b) (hmo : ob.more = [] := by rfl) : OwnI s b := by
 obtain ⟨id, o, h1, h2, h3⟩ := h
 by_cases he : id = nid
 ·subst he
  have h1 : (put s.h id ob)[id]? = some o := h1
  rw [put_same hf] at h1
  cases h1
  have h3 := h3.one hmo
  simp only [St.new, upd_same] at h3
  exact absurd (hb b h3) (by omega)
 ·have h3 := Has.of (s := s) (by simp only [St.new]; exact upd_other _ _ he) h3
  simp only [St.new] at h1
  rw [put_other hf ob he] at h1
  exact ⟨id, o, h1, h2, h3⟩
theorem St.new_step {s : St} {nid : Nat} (hf : Free s.h nid) {ob : AObj} {v : Value} {w' : World} (hw : Grew s.w w') (hb : ∀ b, blkOf v = some b → s.w.heap.size ≤ b) (hmo : ob.more = [] := by rfl) : Step s (s.new nid ob v w') where
 os := hw.os
 tape := hw.tape
 output := hw.output
 drawn := hw.drawn
 size := hw.size
 keep := fun b hlt hn => ⟨fun h => hn (St.new_own hf hb hlt h hmo), hw.block b hlt⟩
 frn := rfl
 kn := fun id hid => put_kn hf ob hid
 cells := fun id T cs' hid hc => by
  have hne : id ≠ nid := by rintro rfl; rw [hf.kn] at hid; cases hid
  have hc : (put s.h nid ob)[id]? = _ := hc
  rw [put_other hf ob hne] at hc
  exact ⟨upd_other _ _ hne, cs', hc⟩
 oth := fun id o' hid hc => by
  have hne : id ≠ nid := by rintro rfl; rw [hf.kn] at hid; cases hid
  have hc : (put s.h nid ob)[id]? = _ := hc
  rw [put_other hf ob hne] at hc
  exact ⟨upd_other _ _ hne, o', hc⟩
 arr := fun id T t l' f' g hid hc => by
  have hne : id ≠ nid := by rintro rfl; rw [hf.kn] at hid; cases hid
  have hc : (put s.h nid ob)[id]? = _ := hc
  rw [put_other hf ob hne] at hc
  exact ⟨l', f', g, hc, Nat.le_refl _, fun _ => ⟨upd_other _ _ hne, rfl⟩⟩

theorem own_lt {s : St} (hok : Ok s) {b : Nat} (h : OwnI s b) : b < s.w.heap.size := by
 obtain ⟨id, o, h1, h2, h3⟩ := h
 have ho := hok.obj id o h1
 have hmore : o.more = [] → blkOf (s.σ id) = some b := h3.one
 cases o with
 | resv => cases h2
 | dead => cases h2
 | oth o =>
  cases o with
  | map bm kt vt l =>
   obtain ⟨e, _, es, hh, _⟩ := ho
   have h3 := hmore rfl
   rw [e] at h3
   cases h3
   exact (Array.getElem?_eq_some_iff.1 hh).1
  | mapD bm kt vt l bs ck =>
   obtain ⟨e, _, es, hh, _⟩ := ho
   have h3 := hmore rfl
   rw [e] at h3
   cases h3
   exact (Array.getElem?_eq_some_iff.1 hh).1
  | iter mid bm n seen =>
   obtain ⟨r, e, hh⟩ := ho
   have h3 := hmore rfl
   rw [e] at h3
   cases h3
   exact (Array.getElem?_eq_some_iff.1 hh).1
  | bxs T t m =>
   obtain ⟨e, _, hm⟩ := ho
   rcases h3 with h3 | h3
   ·rw [e] at h3; cases h3
   ·have h3 : b ∈ m.map Prod.fst := h3
    obtain ⟨⟨b', x⟩, hx, rfl⟩ := List.mem_map.1 h3
    obtain ⟨vs, rest, hh, _⟩ := hm b' x hx
    exact (Array.getElem?_eq_some_iff.1 hh).1
 | cells T cs =>
  obtain ⟨b', vs, rest, e, hh, _⟩ := ho
  have h3 := hmore rfl
  rw [e] at h3
  cases h3
  exact (Array.getElem?_eq_some_iff.1 hh).1
 | arr T t l f g =>
  obtain ⟨xs, hown, _⟩ := ho
  have h3 := hmore rfl
  rcases hown.2 with ⟨e, _⟩ | ⟨g', cap, cur, e, _, hh, _⟩
  ·rw [e] at h3; cases h3
  ·rw [e] at h3; cases h3
   exact (Array.getElem?_eq_some_iff.1 hh).1

theorem ObjR_sim {s s' : St} (h : Sim s s') {id : Nat} {o : AObj} (hσ : s'.σ id = s.σ id) (hb : ∀ b, Has s id o b → s'.w.heap[b]? = s.w.heap[b]?) (ho : ObjR s id o) : ObjR s' id o := by
 cases o with
 | resv => trivial
 | dead => trivial
 | oth o =>
  cases o with
  | map bm kt vt l =>
   obtain ⟨e, h1, es, hh, h2, h3, h4⟩ := ho
   exact ⟨hσ.trans e, h1, es, (hb bm (.inl (by rw [e]; rfl))).trans hh, h2, fun i en x hi hx => by obtain ⟨k1, k2, k3⟩ := h3 i en x hi hx; exact ⟨k1, RV_sim h vt x.2 _ k2, k3⟩, h4⟩
  | mapD bm kt vt l bs ck =>
   obtain ⟨e, h1, es, hh, h2, h3, h4⟩ := ho
   exact ⟨hσ.trans e, h1, es, (hb bm (.inl (by rw [e]; rfl))).trans hh, h2, fun i en x hi hx => by obtain ⟨k1, k2, k3⟩ := h3 i en x hi hx; exact ⟨k1, RV_sim h vt x.2 _ k2, k3⟩, h4⟩
  | iter mid bm n seen =>
   obtain ⟨r, e, hh⟩ := ho
   exact ⟨r, hσ.trans e, (hb r (.inl (by rw [e]; rfl))).trans hh⟩
  | bxs T t m =>
   obtain ⟨e, h1, h2⟩ := ho
   exact ⟨by rw [hσ]; exact e, h1, fun b x hx => by
    obtain ⟨vs, rest, hh, h3, h4, h5⟩ := h2 b x hx
    exact ⟨vs, rest, (hb b (.inr (List.mem_map.2 ⟨_, hx, rfl⟩))).trans hh, h3, RT_sim h t x _ _ (fun _ _ hv => hv) h4, h5⟩⟩
 | cells T cs =>
  obtain ⟨b, vs, rest, e, hh, hl, h1⟩ := ho
  exact ⟨b, vs, rest, hσ.trans e, (hb b (.inl (by rw [e]; rfl))).trans hh, RL_sim h cs vs hl, h1⟩
 | arr T t l f g =>
  obtain ⟨xs, hown, h1, hx, hf⟩ := ho
  refine ⟨xs, ?_, h1, fun i x hi => RT_sim h t x _ _ (fun _ _ hv => hv) (hx i x hi), fun hf' => by rw [hσ]; exact hf hf'⟩
  rw [hσ]
  refine ⟨hown.1, ?_⟩
  rcases hown.2 with h2 | ⟨g', cap, cur, e, hg, hh, r⟩
  ·exact .inl h2
  ·exact .inr ⟨g', cap, cur, e, hg, (hb g' (.inl (by rw [e]; rfl))).trans hh, r⟩
theorem ObjR_mono {s s' : St} (h : Step s s') {id : Nat} {o : AObj} (hσ : s'.σ id = s.σ id) (hb : ∀ b, Has s id o b → s'.w.heap[b]? = s.w.heap[b]?) (ho : ObjR s id o) : ObjR s' id o := ObjR_sim h.sim hσ hb ho

theorem St.new_ok {s : St} {nid : Nat} (hok : Ok s) (hf : Free s.h nid) {ob : AObj} {v : Value} {w' : World} (hw : Grew s.w w') (hb : ∀ b, blkOf v = some b → s.w.heap.size ≤ b) (ho : ObjR (s.new nid ob v w') nid ob) (hmo : ob.more = [] := by rfl) : Ok (s.new nid ob v w') where
 obj := fun id o hid => by
  by_cases he : id = nid
  ·subst he
   simp only [St.new] at hid
   rw [put_same hf] at hid
   cases hid
   exact ho
  ·have hid' : s.h[id]? = some o := by
    simp only [St.new] at hid
    rw [put_other hf ob he] at hid
    exact hid
   cases ha : o.alive with
   | false => cases o <;> first | trivial | cases ha
   | true =>
    exact ObjR_mono (St.new_step hf hw hb hmo) (by simp only [St.new]; exact upd_other _ _ he) (fun b hbb => hw.block b (own_lt hok ⟨id, o, hid', ha, hbb⟩)) (hok.obj id o hid')
 inj := fun i j o p b hi hj hao hap hbi hbj => by
  have get : ∀ (k : Nat) (q : AObj), (s.new nid ob v w').h[k]? = some q → (k = nid → q = ob) ∧ (k ≠ nid → s.h[k]? = some q) := fun k q hk => by
   have hk : (put s.h nid ob)[k]? = some q := hk
   refine ⟨fun e => ?_, fun e => ?_⟩
   ·subst e; rw [put_same hf] at hk; cases hk; rfl
   ·rw [put_other hf ob e] at hk; exact hk
  have new : ∀ q, q = ob → Has (s.new nid ob v w') nid q b → s.w.heap.size ≤ b := fun q hq h => by
   subst hq
   have h := h.one hmo
   simp only [St.new, upd_same] at h
   exact hb b h
  have old : ∀ (k : Nat) (q : AObj), k ≠ nid → (s.new nid ob v w').h[k]? = some q → q.alive = true → Has (s.new nid ob v w') k q b → Has s k q b ∧ b < s.w.heap.size := fun k q hk h1 h2 h3 => by
   have h4 := Has.of (s := s) (by simp only [St.new]; exact upd_other _ _ hk) h3
   exact ⟨h4, own_lt hok ⟨k, q, (get k q h1).2 hk, h2, h4⟩⟩
  by_cases hei : i = nid
  ·by_cases hej : j = nid
   ·rw [hei, hej]
   ·exfalso
    subst hei
    have h1 := new o ((get i o hi).1 rfl) hbi
    have h2 := (old j p hej hj hap hbj).2
    omega
  ·by_cases hej : j = nid
   ·exfalso
    subst hej
    have h1 := new p ((get j p hj).1 rfl) hbj
    have h2 := (old i o hei hi hao hbi).2
    omega
   ·exact hok.inj i j o p b ((get i o hi).2 hei) ((get j p hj).2 hej) hao hap (old i o hei hi hao hbi).1 (old j p hej hj hap hbj).1
 fb := fun b hb => Nat.lt_of_lt_of_le (hok.fb b hb) hw.size
 dis := fun b ho hF => by
  have := hok.fb b hF
  exact hok.dis b (St.new_own hf hb this ho hmo) hF

def St.world (s : St) (w' : World) : St := ⟨s.σ, s.h, w', s.F⟩
theorem St.world_step {s : St} {w' : World} (hw : Grew s.w w') : Step s (s.world w') :=
 ⟨hw.os, hw.tape, hw.output, hw.drawn, hw.size, fun _ h => h, fun b hb hn => ⟨fun h => hn h, hw.block b hb⟩, rfl, fun _ _ cs _ h => ⟨rfl, cs, h⟩, fun _ o _ h => ⟨rfl, o, h⟩, fun _ _ _ l f g _ h => ⟨l, f, g, h, Nat.le_refl _, fun _ => ⟨rfl, rfl⟩⟩⟩
theorem St.world_ok {s : St} (hok : Ok s) {w' : World} (hw : Grew s.w w') : Ok (s.world w') where
 obj := fun id o hid => by
  cases ha : o.alive with
  | false => cases o <;> first | trivial | cases ha
  | true => exact ObjR_mono (St.world_step hw) rfl (fun b hbb => hw.block b (own_lt hok ⟨id, o, hid, ha, hbb⟩)) (hok.obj id o hid)
 inj := hok.inj
 fb := fun b hb => Nat.lt_of_lt_of_le (hok.fb b hb) hw.size
 dis := hok.dis
end Av
namespace Av
open Go

/-! ### The table of types -/
inductive TK where
 | bool | int (k : IntKind) | str | ptr (e : TypeId) | sl (e : TypeId) | st (fs : List (TypeId × Nat)) | fn | ifc | map (k v : TypeId) | ar (n : Nat) (e : TypeId)
def isRowK : TK → Bool
 | .st _ => true
 | .ar _ _ => true
 | _ => false
structure TI where
 kind : TK
 size : Nat
 bytes : Nat
 zero : List AV
 code : Option Ty
 meths : List (String × FuncId)
def pairsEq : List (TypeId × Nat) → List (TypeId × Nat) → Bool
 | [], [] => true
 | a :: as, b :: bs => Nat.beq a.1 b.1 && Nat.beq a.2 b.2 && pairsEq as bs
 | _, _ => false
theorem pairsEq_eq : ∀ {a b : List (TypeId × Nat)}, pairsEq a b = true → a = b
 | [], [], _ => rfl
 | [], _ :: _, h => by simp [pairsEq] at h
 | _ :: _, [], h => by simp [pairsEq] at h
 | (x, y) :: as, (x', y') :: bs, h => by
  simp only [pairsEq, Bool.and_eq_true] at h
  have h1 := Nat.eq_of_beq_eq_true h.1.1
  have h2 := Nat.eq_of_beq_eq_true h.1.2
  rw [pairsEq_eq h.2]
  simp_all
def TK.fits : TK → TypeDesc → Bool
 | .bool, .bool => true
 | .int k, .int k' => decide (k = k')
 | .str, .string => true
 | .ptr e, .pointer e' => Nat.beq e e'
 | .sl e, .slice e' => Nat.beq e e'
 | .st fs, .struct gs => pairsEq fs (gs.toList.map fun f => (f.type, f.offset))
 | .fn, .func _ _ _ => true
 | .ifc, .interface _ => true
 | .map k v, .map k' v' => Nat.beq k k' && Nat.beq v v'
 | .ar n e, .array n' e' => Nat.beq n n' && Nat.beq e e'
 | _, _ => false
def zv : AV → Value → Bool
 | .bool b, .bool b' => b == b'
 | .int k n, .int k' n' => decide (k = k') && n == n'
 | .str s, .string s' => Nat.beq s.size 0 && Nat.beq s'.size 0
 | .zsl _, .slice none 0 0 => true
 | .nsl, .slice none 0 0 => true
 | .nilp, .pointer none => true
 | .nilfn, .nilFunc => true
 | .nili, .nilIface => true
 | .nilm, .map none => true
 | _, _ => false
def zf : List AV → List Value → Bool
 | [], [] => true
 | a :: as, v :: vs => zv a v && zf as vs
 | _, _ => false
def rowZ (k : TK) (n : Nat) : Value → Bool
 | .agg a => isRowK k && Nat.beq a.size n
 | .tuple _ => false
 | _ => !isRowK k
def chkFs (P : Program) (chk : TypeId → Ty → Bool) : List Field → List Ty → Nat → Bool
 | [], [], _ => true
 | f :: fs, t :: ts, off => (f.name != "_") && Nat.beq f.offset off && chk f.type t && Nat.beq (P.cellsOf f.type) t.size && chkFs P chk fs ts (off + t.size)
 | _, _, _ => false
def chkC (P : Program) : Nat → TypeId → Ty → Bool
 | 0, _, _ => false
 | d + 1, T, t =>
  match t, P.underlying T with
  | .bool, some .bool => true
  | .int k, some (.int k') => decide (k = k')
  | .str, some .string => true
  | .sl e, some (.slice E) => chkC P d E e
  | .ifc _ _, some (.interface _) => true
  | .raw _, some (.pointer _) => true
  | .st ts, some (.struct gs) => !P.stoodInHeld T && !P.eqGuardType P.depth T && chkFs P (chkC P d) gs.toList ts 0
  | _, _ => false
def isPtrK : TK → Bool
 | .ptr _ => true
 | _ => false
def chkM (i : TypeInfo) (k : TK) (p : String × FuncId) : Bool :=
 match i.methods.find? (·.name == p.1) with
 | some m => m.path.isEmpty && (match m.func with | some (f, b) => Nat.beq f p.2 && (b == isPtrK k) | none => false)
 | none => false
def TI.chk (P : Program) (T : TypeId) (ti : TI) : Bool :=
 match P.underlying T, P.info? T with
 | some d, some i => ti.kind.fits d && Nat.beq i.size ti.size && Nat.beq i.bytes ti.bytes && (match i.zero with | some z => zf ti.zero z.cells.toList | none => false) &&
   (match ti.code with | some t => Nat.beq t.size ti.size && chkC P 50 T t | none => true) && (match ti.kind with | .st fs => fs.all (fun p => (P.info? p.1).isSome) | _ => true) && (match i.zero with | some z => rowZ ti.kind ti.size z | none => false) && Nat.ble 1 ti.size && ti.meths.all (chkM i ti.kind)
 | _, _ => false
abbrev Tb := List (TypeId × TI)
def lk : Tb → TypeId → Option TI
 | [], _ => none
 | p :: tb, T => bif Nat.beq p.1 T then some p.2 else lk tb T
def TbOk (P : Program) (tb : Tb) : Prop := ∀ T ti, lk tb T = some ti → ti.chk P T = true
theorem TbOk.of_all {P : Program} : ∀ {tb : Tb}, (tb.all fun p => p.2.chk P p.1) = true → TbOk P tb
 | [], _ => fun T ti h => by simp [lk] at h
 | p :: tb, h => fun T ti hl => by
  simp only [List.all_cons, Bool.and_eq_true] at h
  simp only [lk] at hl
  cases hb : Nat.beq p.1 T with
  | true =>
   rw [hb] at hl
   cases hl
   have := Nat.eq_of_beq_eq_true hb
   subst this
   exact h.1
  | false =>
   rw [hb] at hl
   exact TbOk.of_all h.2 T ti hl

structure TI.Good (P : Program) (T : TypeId) (ti : TI) : Prop where
 und : ∃ d, P.underlying T = some d ∧ ti.kind.fits d = true
 info : ∃ i z, P.info? T = some i ∧ i.size = ti.size ∧ i.bytes = ti.bytes ∧ i.zero = some z ∧ zf ti.zero z.cells.toList = true
 code : ∀ t, ti.code = some t → t.size = ti.size ∧ chkC P 50 T t = true
 pos : 0 < ti.size
 row : ∀ i z, P.info? T = some i → i.zero = some z → rowZ ti.kind ti.size z = true
 flds : ∀ fs, ti.kind = .st fs → ∀ p ∈ fs, ∃ i, P.info? p.1 = some i
 meth : ∀ i, P.info? T = some i → ∀ p ∈ ti.meths, chkM i ti.kind p = true
theorem TI.good {P : Program} {T : TypeId} {ti : TI} (h : ti.chk P T = true) : ti.Good P T := by
 unfold TI.chk at h
 split at h
 ·rename_i d i hd hi
  simp only [Bool.and_eq_true] at h
  obtain ⟨⟨⟨⟨⟨⟨⟨⟨h1, h2⟩, h3⟩, h4⟩, h5⟩, h7⟩, h8⟩, h6⟩, h9⟩ := h
  refine ⟨⟨d, hd, h1⟩, ?_, ?_, Nat.le_of_ble_eq_true h6, ?_, ?_, ?_⟩
  ·split at h4
   ·rename_i z hz
    exact ⟨i, z, hi, Nat.eq_of_beq_eq_true h2, Nat.eq_of_beq_eq_true h3, hz, h4⟩
   ·cases h4
  ·intro t ht
   rw [ht] at h5
   simp only [Bool.and_eq_true] at h5
   exact ⟨Nat.eq_of_beq_eq_true h5.1, h5.2⟩
  ·intro i' z hi' hz
   rw [hi] at hi'
   cases hi'
   rw [hz] at h8
   exact h8
  ·intro fs hfs p hp
   rw [hfs] at h7
   exact Option.isSome_iff_exists.1 (List.all_eq_true.1 h7 p hp)
  ·intro i' hi' p hp
   rw [hi] at hi'
   cases hi'
   exact List.all_eq_true.1 h9 p hp
 ·cases h

theorem ba_empty {s t : ByteArray} (h : s.size = 0) (h' : t.size = 0) : s = t := by
 rw [ByteArray.size_eq_zero_iff] at h h'
 rw [h, h']
theorem zv_R {s : St} {a : AV} {v : Value} (h : zv a v = true) : R s a v ∧ v.oneCell' = true := by
 unfold zv at h
 split at h
 ·simp only [beq_iff_eq] at h; subst h; exact ⟨by simp only [R], rfl⟩
 ·simp only [Bool.and_eq_true, decide_eq_true_eq, beq_iff_eq] at h; obtain ⟨rfl, rfl⟩ := h; exact ⟨by simp only [R], rfl⟩
 ·simp only [Bool.and_eq_true] at h
  refine ⟨?_, rfl⟩
  rw [ba_empty (Nat.eq_of_beq_eq_true h.1) (Nat.eq_of_beq_eq_true h.2)]
  simp only [R]
 ·exact ⟨by simp only [R], rfl⟩
 ·exact ⟨by simp only [R], rfl⟩
 ·exact ⟨by simp only [R], rfl⟩
 ·exact ⟨by simp only [R], rfl⟩
 ·exact ⟨by simp only [R], rfl⟩
 ·exact ⟨by simp only [R], rfl⟩
 ·cases h
theorem zf_RL {s : St} : ∀ {as : List AV} {vs : List Value}, zf as vs = true → RL s as vs ∧ ∀ u ∈ vs, u.oneCell' = true
 | [], [], _ => ⟨by simp only [RL], by simp⟩
 | [], _ :: _, h => by simp [zf] at h
 | _ :: _, [], h => by simp [zf] at h
 | a :: as, v :: vs, h => by
  simp only [zf, Bool.and_eq_true] at h
  obtain ⟨h1, h2⟩ := zv_R (s := s) h.1
  obtain ⟨h3, h4⟩ := zf_RL (s := s) h.2
  refine ⟨by simp only [RL]; exact ⟨v, vs, rfl, h1, h3⟩, ?_⟩
  intro u hu
  rcases List.mem_cons.1 hu with rfl | hu
  ·exact h2
  ·exact h4 u hu

/-! ### What an operation gives -/
inductive Res : Type 1 where
 | ok (v : AV) (ob : Option AObj)
 | need (p : Prop) [hp : Decidable p] (r : Res)
 | br (b : Bool) (x y : Res)
 | idx {α : Type} (l : List α) (i : Int) (k : α → Res)
 | bad
noncomputable def Res.sat (K : AV → Option AObj → Prop) (r : Res) : Prop :=
 @Res.rec (fun _ => Prop) (fun v ob => K v ob) (fun p hp _ ih => @Av.need p hp ih) (fun b _ _ ihx ihy => Av.br b ihx ihy) (fun l i _ ih => Av.idx l i fun x => ih x) False r
def Res.Is (v : AV) (ob : Option AObj) : Res → Prop
 | .ok v' ob' => v' = v ∧ ob' = ob
 | @Res.need p _ r => p ∧ r.Is v ob
 | .br b x y => (b = true ∧ x.Is v ob) ∨ (b = false ∧ y.Is v ob)
 | .idx l i k => ∃ x, 0 ≤ i ∧ l[i.toNat]? = some x ∧ (k x).Is v ob
 | .bad => False
theorem Res.sat_is {K : AV → Option AObj → Prop} : ∀ {r : Res}, r.sat K → ∃ v ob, r.Is v ob ∧ K v ob
 | .ok v ob, h => ⟨v, ob, ⟨rfl, rfl⟩, h⟩
 | @Res.need p _ r, h => by
  obtain ⟨h1, h2⟩ := need_elim h
  obtain ⟨v, ob, h3, h4⟩ := Res.sat_is h2
  exact ⟨v, ob, ⟨h1, h3⟩, h4⟩
 | .br b x y, h => by
  rcases br_elim h with ⟨h1, h2⟩ | ⟨h1, h2⟩
  ·obtain ⟨v, ob, h3, h4⟩ := Res.sat_is h2
   exact ⟨v, ob, .inl ⟨h1, h3⟩, h4⟩
  ·obtain ⟨v, ob, h3, h4⟩ := Res.sat_is h2
   exact ⟨v, ob, .inr ⟨h1, h3⟩, h4⟩
 | .idx l i k, h => by
  obtain ⟨x, h0, h1, h2⟩ := idx_elim h
  obtain ⟨v, ob, h3, h4⟩ := Res.sat_is h2
  exact ⟨v, ob, ⟨x, h0, h1, h3⟩, h4⟩
def putO (h : List AObj) (nid : Nat) : Option AObj → List AObj
 | none => h
 | some ob => put h nid ob
def Gives (P : Program) (o : Oper) (a : Act) (s : St) (nid : Nat) (v : AV) (ob : Option AObj) : Prop :=
 ∃ cv s', (execOp a.eval o).run P s.w = .ok (.value cv) s'.w ∧ Step s s' ∧ Ok s' ∧ R s' v cv ∧ s'.h = putO s.h nid ob
theorem Gives.same {P : Program} {o : Oper} {a : Act} {s : St} {nid : Nat} {v : AV} {cv : Value} (hok : Ok s) (hr : (execOp a.eval o).run P s.w = .ok (.value cv) s.w) (hv : R s v cv) : Gives P o a s nid v none :=
 ⟨cv, s, hr, Step.refl s, hok, hv, rfl⟩
end Av
namespace Av
open Go

/-! ### Small lemmas -/
theorem exec_value {P : Program} {w w' : World} {e : Sem Value} {v : Value} (h : e.run P w = .ok v w') : ((do pure (.value (← e))) : Sem Next).run P w = .ok (.value v) w' := by
 rw [Sem.run_bind, h]; rfl
theorem RL_get {s : St} : ∀ {cs : List AV} {vs : List Value}, RL s cs vs → ∀ (i : Nat) (c : AV), cs[i]? = some c → ∃ v, vs[i]? = some v ∧ R s c v
 | [], vs, h, i, c, hi => by simp at hi
 | x :: cs, vs, h, i, c, hi => by
  simp only [RL] at h
  obtain ⟨v, vs', rfl, h1, h2⟩ := h
  cases i with
  | zero => simp at hi; subst hi; exact ⟨v, by simp, h1⟩
  | succ i => simpa using RL_get h2 i c (by simpa using hi)
theorem RL_append {s : St} : ∀ {cs ds : List AV} {vs us : List Value}, RL s cs vs → RL s ds us → RL s (cs ++ ds) (vs ++ us)
 | [], ds, vs, us, h, k => by simp only [RL] at h; subst h; simpa using k
 | x :: cs, ds, vs, us, h, k => by
  simp only [RL] at h
  obtain ⟨v, vs', rfl, h1, h2⟩ := h
  simp only [List.cons_append, RL]
  exact ⟨v, vs' ++ us, rfl, h1, RL_append h2 k⟩
theorem RL_take {s : St} : ∀ {cs : List AV} {vs : List Value} (n : Nat), RL s cs vs → RL s (cs.take n) (vs.take n)
 | [], vs, n, h => by simp only [RL] at h; subst h; simp [RL]
 | x :: cs, vs, n, h => by
  simp only [RL] at h
  obtain ⟨v, vs', rfl, h1, h2⟩ := h
  cases n with
  | zero => simp [RL]
  | succ n => simp only [List.take_succ_cons, RL]; exact ⟨v, _, rfl, h1, RL_take n h2⟩
theorem RL_drop {s : St} : ∀ {cs : List AV} {vs : List Value} (n : Nat), RL s cs vs → RL s (cs.drop n) (vs.drop n)
 | [], vs, n, h => by simp only [RL] at h; subst h; simp [RL]
 | x :: cs, vs, n, h => by
  cases n with
  | zero => simpa using h
  | succ n =>
   simp only [RL] at h
   obtain ⟨v, vs', rfl, h1, h2⟩ := h
   simpa using RL_drop n h2
def cellsOf : AV → Option (List AV)
 | .agg cs => some cs
 | .any => none
 | .und => none
 | .tup _ => none
 | v => some [v]
theorem cellsOf_R {s : St} {a : AV} {v : Value} {cs : List AV} (h : cellsOf a = some cs) (hr : R s a v) : ∃ vs : List Value, v.cells = vs.toArray ∧ RL s cs vs ∧ ∀ u ∈ vs, u.oneCell' = true := by
 have leaf : ∀ x : AV, R s x v → v.oneCell' = true → cs = [x] → ∃ vs : List Value, v.cells = vs.toArray ∧ RL s cs vs ∧ ∀ u ∈ vs, u.oneCell' = true := by
  intro x hx h1 hc
  subst hc
  refine ⟨[v], ?_, by simp only [RL]; exact ⟨v, [], rfl, hx, rfl⟩, by simpa using h1⟩
  cases v <;> first | rfl | (simp [Value.oneCell'] at h1)
 cases a <;> simp only [cellsOf] at h <;> first
  | (cases h; done)
  | skip
 case agg cs' =>
  cases h
  simp only [R] at hr
  obtain ⟨vs, rfl, h1, h2⟩ := hr
  exact ⟨vs, rfl, h1, h2⟩
 all_goals
  refine leaf _ hr ?_ (Option.some.inj h).symm
  simp only [R] at hr
 case bool => rw [hr]; rfl
 case int => rw [hr]; rfl
 case str => rw [hr]; rfl
 case nilp => rw [hr]; rfl
 case raw => rw [hr]; rfl
 case nsl => rw [hr]; rfl
 case zsl => rw [hr]; rfl
 case nilfn => rw [hr]; rfl
 case nili => rw [hr]; rfl
 case nilm => rw [hr]; rfl
 case ptr => obtain ⟨_, b, rfl, _⟩ := hr; rfl
 case optr => obtain ⟨_, b, rfl, _⟩ := hr; rfl
 case own => obtain ⟨_, b, c, rfl, _⟩ := hr; rfl
 case osl => obtain ⟨_, b, c, rfl, _⟩ := hr; rfl
 case tosl => obtain ⟨⟨_, b, c, rfl, _⟩, _⟩ := hr; rfl
 case pv => obtain ⟨b, o, rfl, _⟩ := hr; rfl
 case lst => obtain ⟨b, o, rfl, _⟩ := hr; rfl
 case tlst => obtain ⟨⟨b, o, rfl, _⟩, _⟩ := hr; rfl
 case fn => obtain ⟨xs, ys, rfl, _⟩ := hr; rfl
 case iface => obtain ⟨y, rfl, _⟩ := hr; rfl
 case oth => exact hr.2.1
 case csl => obtain ⟨_, b, rfl, _⟩ := hr; rfl
end Av
namespace Av
open Go

/-! ### Numbers and strings -/
def inR : IntKind → Int → Prop
 | .i8, n => -128 ≤ n ∧ n ≤ 127
 | .i16, n => -32768 ≤ n ∧ n ≤ 32767
 | .i32, n => -2147483648 ≤ n ∧ n ≤ 2147483647
 | .i64, n => -9223372036854775808 ≤ n ∧ n ≤ 9223372036854775807
 | .u8, n => 0 ≤ n ∧ n ≤ 255
 | .u16, n => 0 ≤ n ∧ n ≤ 65535
 | .u32, n => 0 ≤ n ∧ n ≤ 4294967295
 | .u64, n => 0 ≤ n ∧ n ≤ 18446744073709551615
instance (k : IntKind) (n : Int) : Decidable (inR k n) := by cases k <;> exact instDecidableAnd
def sEq (a b : ByteArray) : Bool := a.data.toList == b.data.toList
def sLt (a b : ByteArray) : Bool := Op.bytesLess a.data.toList b.data.toList

mutual
def eqT : (t : Ty) → t.El → t.El → Bool
 | .bool, (a : Bool), b => a == b
 | .int _, (a : Int), b => a == b
 | .str, a, b => sEq a b
 | .sl _, _, _ => false
 | .ifc _ _, _, _ => false
 | .raw _, _, _ => false
 | .st fs, a, b => eqTs fs a b
def eqTs : (ts : List Ty) → Ty.Els ts → Ty.Els ts → Bool
 | [], _, _ => true
 | [t], a, b => eqT t a.1 b.1
 | t :: ts, a, b => eqT t a.1 b.1 && eqTs ts a.2 b.2
end
mutual
def Ty.flatEq : Ty → Bool
 | .sl _ => false
 | .ifc _ _ => false
 | .raw _ => false
 | .st fs => Ty.flatEqs fs
 | _ => true
def Ty.flatEqs : List Ty → Bool
 | [] => true
 | t :: ts => Ty.flatEq t && Ty.flatEqs ts
end

/-! ### Operations -/
def avOf : Value → AV
 | .bool b => .bool b
 | .int k n => .int k n
 | .string s => .str s
 | .pointer none => .nilp
 | .slice none 0 0 => .nsl
 | .nilFunc => .nilfn
 | .nilIface => .nili
 | .map none => .nilm
 | _ => .any
def ev (get : Nat → AV) : Operand → AV
 | .tmp t => get t
 | .const v => avOf v
 | .func f => .fn (.func f) [] []
 | .global _ => .any

def okO (x : Option AV) : Res := match x with | some v => .ok v none | none => .bad
def ldA (ti : TI) (cs : List AV) : Option AV :=
 match isRowK ti.kind with
 | true => bif Nat.ble ti.size cs.length then some (.agg (cs.take ti.size)) else none
 | false => match cs with | c :: _ => some c | [] => none

def pNil (tb : Tb) (nid : Nat) (T : TypeId) : Res :=
 match lk tb T with
 | some ti => match ti.kind with
  | .sl e => match lk tb e with
   | some te => match te.code with
    | some t => .ok (.own nid 0 0) (some (.arr e t [] false 0))
    | none => .ok .nsl none
   | none => .ok .nsl none
  | _ => .bad
 | none => .bad
def pMove (tb : Tb) (nid : Nat) (T : TypeId) (v : AV) : Res := match v with
 | .nsl => pNil tb nid T
 | .any => .bad
 | v => .ok v none
def pPick (c a b : AV) : Res := match c with | .bool t => .br t (.ok a none) (.ok b none) | _ => .bad
def pAlloc (tb : Tb) (nid : Nat) (T : TypeId) : Res := match lk tb T with | some ti => .ok (.ptr nid 0) (some (.cells T ti.zero)) | none => .bad
def pBox (nid : Nat) (T : TypeId) (v : AV) : Res := match cellsOf v with | some cs => .ok (.ptr nid 0) (some (.cells T cs)) | none => .bad

def splice (zero : List AV) (off : Nat) (cs : List AV) : List AV := zero.take off ++ (cs ++ zero.drop (off + cs.length))
def tyNil (tb : Tb) (T : TypeId) (v : AV) : AV := match v with
 | .nsl => match lk tb T with
  | some ti => match ti.code with
   | some (.sl e) => .zsl e
   | _ => .nsl
  | none => .nsl
 | v => v
def fillA (tb : Tb) (fs : List (TypeId × Nat)) : List AV → List (Nat × AV) → Option (List AV)
 | z, [] => some z
 | z, (i, v) :: rest =>
  match fs[i]? with
  | none => none
  | some (ft, off) => match lk tb ft, cellsOf (tyNil tb ft v) with
   | some ti, some cs => bif Nat.beq cs.length ti.size && Nat.ble (off + cs.length) z.length then fillA tb fs (splice z off cs) rest else none
   | _, _ => none
def arFs (e : TypeId) (sz : Nat) : Nat → Nat → List (TypeId × Nat)
 | 0, _ => []
 | n + 1, off => (e, off) :: arFs e sz n (off + sz)
theorem arFs_at {e : TypeId} {sz : Nat} : ∀ {n off i : Nat} {ft : TypeId} {o : Nat}, (arFs e sz n off)[i]? = some (ft, o) → ft = e ∧ o = off + i * sz
 | 0, _, _, _, _, h => by simp [arFs] at h
 | n + 1, off, 0, ft, o, h => by
  simp [arFs] at h
  exact ⟨h.1.symm, by rw [← h.2]; omega⟩
 | n + 1, off, i + 1, ft, o, h => by
  obtain ⟨h1, h2⟩ := arFs_at (n := n) (off := off + sz) (i := i) (by simpa [arFs] using h)
  refine ⟨h1, ?_⟩
  rw [h2, Nat.add_mul]
  omega
def pBuild (tb : Tb) (T : TypeId) (ps : List (Nat × AV)) : Res :=
 match lk tb T with
 | some ti => match ti.kind with
  | .st fs => match fillA tb fs ti.zero ps with | some cs => .ok (.agg cs) none | none => .bad
  | .ar n e => match lk tb e with
   | some te => match fillA tb (arFs e te.size n 0) ti.zero ps with | some cs => .ok (.agg cs) none | none => .bad
   | none => .bad
  | _ => .bad
 | none => .bad
def decList (t : Ty) : Nat → List (Nat × AV) → Option (List t.El)
 | _, [] => some []
 | k, (i, v) :: rest =>
  bif Nat.beq i k then
   match cellsOf v with
   | some cs => match dec t cs, decList t (k + 1) rest with
    | some x, some xs => some (x :: xs)
    | _, _ => none
   | none => none
  else none
def zrow {α : Type} (z : List α) : Nat → List α
 | 0 => []
 | n + 1 => z ++ zrow z n
def pBuildSlice (tb : Tb) (nid : Nat) (T : TypeId) (n : Nat) (ps : List (Nat × AV)) : Res :=
 match lk tb T with
 | some ti => match ti.kind with
  | .sl e => match lk tb e with
   | some te => match te.code with
    | some t => match decList t 0 ps with
     | some l => bif Nat.beq n ps.length && Nat.ble (n * te.size) 16777216 then .ok (.own nid 0 n) (some (.arr e t l false 0)) else .bad
     | none => .bad
    | none => match fillA tb (arFs e te.size n 0) (zrow te.zero n) ps with
     | some cs => bif (Nat.beq te.zero.length te.size && Nat.ble 1 n) && Nat.ble (n * te.size) 16777216 then .ok (.csl nid n n) (some (.cells e cs)) else .bad
     | none => .bad
   | none => .bad
  | _ => .bad
 | none => .bad

def lkB {α : Type} : List (Nat × α) → Nat → Option α
 | [], _ => none
 | (k, x) :: m, b => if k = b then some x else lkB m b
def bxL {α : Type} (m : List (Nat × α)) (b : Nat) : List α := (lkB m b).toList
def upB {α : Type} (m : List (Nat × α)) (b : Nat) (y : α) : List (Nat × α) := m.map fun p => if p.1 = b then (p.1, y) else p
def pLoad (tb : Tb) (h : List AObj) (T : TypeId) (v : AV) : Res :=
 match lk tb T with
 | none => .bad
 | some ti => match v with
  | .ptr id off => match h[id]? with
   | some (.cells _ cs) => okO (ldA ti (cs.drop off))
   | _ => .bad
  | .pv cs => okO (ldA ti cs)
  | .optr id g t i off => match h[id]? with
   | some (.arr _ t' l _ g') => .need (g' = g ∧ Ty.beq t' t = true) (.idx l (i : Int) fun x => okO (ldA ti ((flat t' x).drop off)))
   | _ => .bad
  | .raw K b off => match h[K]? with
   | some (.oth (.bxs _ t m)) => .idx (bxL m b) 0 fun x => okO (ldA ti ((flat t x).drop off))
   | _ => .bad
  | _ => .bad
def pFieldAddr (tb : Tb) (T : TypeId) (v : AV) (f : Nat) : Res :=
 match lk tb T with
 | none => .bad
 | some ti => match ti.kind with
  | .st fs => match fs[f]? with
   | none => .bad
   | some (ft, off) => match lk tb ft with
    | none => .bad
    | some _ => match v with
     | .ptr id o => .ok (.ptr id (o + off)) none
     | .pv cs => bif Nat.ble off cs.length then .ok (.pv (cs.drop off)) none else .bad
     | .optr id g t i o => .ok (.optr id g t i (o + off)) none
     | .raw K b o => .ok (.raw K b (o + off)) none
     | _ => .bad
  | _ => .bad
def pField (tb : Tb) (T : TypeId) (v : AV) (f : Nat) : Res :=
 match lk tb T with
 | none => .bad
 | some ti => match ti.kind with
  | .st fs => match fs[f]? with
   | none => .bad
   | some (ft, off) => match lk tb ft with
    | none => .bad
    | some tf => match v with
     | .agg cs => okO (ldA tf (cs.drop off))
     | _ => .bad
  | _ => .bad
def pIndexAddr (tb : Tb) (h : List AObj) (T : TypeId) (v i : AV) : Res :=
 match lk tb T with
 | none => .bad
 | some ti => match ti.kind with
  | .sl e => match lk tb e with
   | none => .bad
   | some te => match i with
    | .int _ n => match v with
     | .lst t l => bif Nat.beq t.size te.size then .idx l n fun x => .ok (.pv (flat t x)) none else .bad
     | .tlst t l => bif Nat.beq t.size te.size then .idx l n fun x => .ok (.pv (flat t x)) none else .bad
     | .own id g m => match h[id]? with
      | some (.arr _ t _ _ g') => bif Nat.beq t.size te.size then .need (g' = g ∧ 0 ≤ n ∧ n < m) (.ok (.optr id g t n.toNat 0) none) else .bad
      | _ => .bad
     | .osl id g lo m => match h[id]? with
      | some (.arr _ t _ _ g') => bif Nat.beq t.size te.size then .need (g' = g ∧ 0 ≤ n ∧ n < m) (.ok (.optr id g t (lo + n.toNat) 0) none) else .bad
      | _ => .bad
     | .csl id m _ => .need (0 ≤ n ∧ n < m) (.ok (.ptr id (n.toNat * te.size)) none)
     | _ => .bad
    | _ => .bad
  | .ar len e => match lk tb e with
   | none => .bad
   | some te => match i, v with
    | .int _ n, .ptr id o => .need (0 ≤ n ∧ n < len) (.ok (.ptr id (o + n.toNat * te.size)) none)
    | _, _ => .bad
  | _ => .bad
def pIndex (tb : Tb) (T : TypeId) (v i : AV) : Res :=
 match lk tb T with
 | none => .bad
 | some ti => match ti.kind, v, i with
  | .str, .str s, .int _ n => .idx s.data.toList n fun b => .ok (.int .u8 b.toNat) none
  | _, _, _ => .bad

def kindOf (tb : Tb) (T : TypeId) : Option TK := (lk tb T).map (·.kind)
def intR (k : IntKind) (n : Int) : Res := .need (inR k n) (.ok (.int k n) none)
def detos : AV → AV
 | .tosl id g lo n => .osl id g lo n
 | .zsl _ => .nsl
 | v => v
def finEq (op : BinOp) (b : Bool) : Res := match op with
 | .eql => .ok (.bool b) none
 | .neq => .ok (.bool (!b)) none
 | _ => .bad
def pNilEq (tb : Tb) (op : BinOp) (T : TypeId) (x y : AV) : Res :=
 match kindOf tb T with
 | some (.sl _) => match y with
  | .nsl => match x with
   | .nsl => finEq op true
   | .lst _ l => .need (0 < l.length) (finEq op false)
   | .tlst _ l => .need (0 < l.length) (finEq op false)
   | _ => .bad
  | _ => .bad
 | some (.ptr _) => match y with
  | .nilp => match x with
   | .pv _ => finEq op false
   | .optr _ _ _ _ _ => finEq op false
   | .raw _ _ _ => finEq op false
   | _ => .bad
  | _ => .bad
 | some .fn => match y with
  | .nilfn => match x with
   | .nilfn => finEq op true
   | .fn _ _ _ => finEq op false
   | _ => .bad
  | _ => .bad
 | some .ifc => match y with
  | .nili => match x with
   | .iface _ _ => finEq op false
   | _ => .bad
  | _ => .bad
 | _ => .bad
def pBin (tb : Tb) (op : BinOp) (T : TypeId) (x y : AV) : Res :=
 match x, y with
 | .int k a, .int k' b =>
  match op with
  | .shl => .need (0 ≤ b ∧ b < k.bits ∧ inR k (a * 2 ^ b.toNat)) (.ok (.int k (a * 2 ^ b.toNat)) none)
  | .shr => .need (0 ≤ b ∧ b < k.bits) (.ok (.int k (a / 2 ^ b.toNat)) none)
  | _ =>
  match decide (k = k') with
  | false => .bad
  | true =>
   match op with
   | .add => intR k (a + b)
   | .sub => intR k (a - b)
   | .mul => intR k (a * b)
   | .quo => .need (0 ≤ a ∧ 0 < b ∧ inR k (a / b)) (.ok (.int k (a / b)) none)
   | .rem => .need (0 ≤ a ∧ 0 < b) (.ok (.int k (a % b)) none)
   | .eql => .ok (.bool (a == b)) none
   | .neq => .ok (.bool (a != b)) none
   | .lss => .ok (.bool (decide (a < b))) none
   | .leq => .ok (.bool (decide (a ≤ b))) none
   | .gtr => .ok (.bool (decide (b < a))) none
   | .geq => .ok (.bool (decide (b ≤ a))) none
   | _ => .bad
 | .str a, .str b =>
  match op with
  | .add => .need (a.size + b.size ≤ 9223372036854775807) (.ok (.str (a ++ b)) none)
  | .eql => .ok (.bool (sEq a b)) none
  | .neq => .ok (.bool (!sEq a b)) none
  | .lss => .ok (.bool (sLt a b)) none
  | .leq => .ok (.bool (!sLt b a)) none
  | .gtr => .ok (.bool (sLt b a)) none
  | .geq => .ok (.bool (!sLt a b)) none
  | _ => .bad
 | .bool a, .bool b => match kindOf tb T, op with
  | some .bool, .eql => .ok (.bool (a == b)) none
  | some .bool, .neq => .ok (.bool (!(a == b))) none
  | _, _ => .bad
 | .nilp, .nilp => match kindOf tb T, op with
  | some (.ptr _), .eql => .ok (.bool true) none
  | some (.ptr _), .neq => .ok (.bool false) none
  | _, _ => .bad
 | .ptr _ _, .nilp => match kindOf tb T, op with
  | some (.ptr _), .eql => .ok (.bool false) none
  | some (.ptr _), .neq => .ok (.bool true) none
  | _, _ => .bad
 | .agg xs, .agg ys =>
  match lk tb T with
  | none => .bad
  | some ti => match ti.code with
   | some (.st fs) => match (Ty.st fs).flatEq, dec (.st fs) xs, dec (.st fs) ys with
    | true, some a, some b => match op with
     | .eql => .ok (.bool (eqT (.st fs) a b)) none
     | .neq => .ok (.bool (!eqT (.st fs) a b)) none
     | _ => .bad
    | _, _, _ => .bad
   | _ => .bad
 | x, y => pNilEq tb op T x y
def pUn (op : UnOp) (x : AV) : Res := match op, x with
 | .not, .bool b => .ok (.bool !b) none
 | .neg, .int k n => intR k (0 - n)
 | _, _ => .bad
def bytesOf (l : List Int) : ByteArray := ⟨(l.map fun n => UInt8.ofNat n.toNat).toArray⟩
def pConv (tb : Tb) (h : List AObj) (S T : TypeId) (x : AV) : Res :=
 match lk tb S, lk tb T with
 | some si, some ti => match ti.kind, x with
  | .str, .own id g n => match si.kind with
   | .sl e => match kindOf tb e, h[id]? with
    | some (.int .u8), some (.arr _ _ l _ g') => match castL (b := .int .u8) l with
     | some l => .need (g' = g ∧ n ≤ l.length) (.ok (.str (bytesOf (l.take n))) none)
     | none => .bad
    | _, _ => .bad
   | _ => .bad
  | .int k, .int _ n => .need (inR k n) (.ok (.int k n) none)
  | .str, .str s => .ok (.str s) none
  | _, _ => .bad
 | _, _ => .bad
def pIface (tb : Tb) (T : TypeId) (x : AV) : Res :=
 match lk tb T with
 | none => .bad
 | some ti => match ti.kind, x with
  | .ifc, _ => .bad
  | _, .any => .bad
  | _, .nsl => .bad
  | _, _ => .ok (.iface T x) none
def zeroA (ti : TI) : Option AV := ldA ti ti.zero
def pAssert (tb : Tb) (x : AV) (T : TypeId) (ok : Bool) : Res :=
 match lk tb T with
 | none => .bad
 | some ti => match ti.kind with
  | .ifc => .bad
  | _ => match x with
   | .iface t v => match Nat.beq t T, ok with
    | true, true => .ok (.tup [v, .bool true]) none
    | true, false => .ok v none
    | false, true => match zeroA ti with | some z => .ok (.tup [z, .bool false]) none | none => .bad
    | false, false => .bad
   | .nili => match ok with
    | true => match zeroA ti with | some z => .ok (.tup [z, .bool false]) none | none => .bad
    | false => .bad
   | _ => .bad
def pExtract (x : AV) (i : Nat) : Res := match x with
 | .tup vs => okO vs[i]?
 | _ => .bad
def optI (d : Int) : Option AV → Option Int
 | none => some d
 | some (.int _ n) => some n
 | _ => none
def pSlice (tb : Tb) (h : List AObj) (T : TypeId) (x : AV) (lo hi mx : Option AV) : Res :=
 match mx with
 | some _ => .bad
 | none =>
 match lk tb T with
 | none => .bad
 | some ti => match ti.kind, x with
  | .str, .str s => match optI 0 lo, optI s.size hi with
   | some a, some b => .need (0 ≤ a ∧ a ≤ b ∧ b ≤ s.size) (.ok (.str (s.extract a.toNat b.toNat)) none)
   | _, _ => .bad
  | .sl e, .lst t l => match lk tb e with
   | some te => bif Nat.beq t.size te.size then
    match optI 0 lo, optI l.length hi with
    | some a, some b => .need (0 ≤ a ∧ a ≤ b ∧ b ≤ l.length) (.ok (.lst t ((l.drop a.toNat).take (b.toNat - a.toNat))) none)
    | _, _ => .bad
    else .bad
   | none => .bad
  | .sl e, .tlst t l => match lk tb e with
   | some te => bif Nat.beq t.size te.size then
    match optI 0 lo, optI l.length hi with
    | some a, some b => .need (0 ≤ a ∧ a ≤ b ∧ b ≤ l.length) (.ok (.lst t ((l.drop a.toNat).take (b.toNat - a.toNat))) none)
    | _, _ => .bad
    else .bad
   | none => .bad
  | .sl e, .own id g n => match lk tb e with
   | some te => match h[id]? with
    | some (.arr _ t l _ g') => bif Nat.beq t.size te.size then
     match lo, optI n hi with
     | none, some b => .need (g' = g ∧ 0 ≤ b ∧ b ≤ l.length ∧ n ≤ l.length) (.ok (.own id g b.toNat) none)
     | some (.int _ a), some b => .need (g' = g ∧ 0 ≤ a ∧ a ≤ b ∧ b ≤ l.length ∧ n ≤ l.length) (.ok (.osl id g a.toNat (b.toNat - a.toNat)) none)
     | _, _ => .bad
     else .bad
    | _ => .bad
   | none => .bad
  | .sl e, .osl id g l0 n => match lk tb e with
   | some te => match h[id]? with
    | some (.arr _ t _ _ g') => bif Nat.beq t.size te.size then
     match optI 0 lo, optI n hi with
     | some a, some b => .need (g' = g ∧ 0 ≤ a ∧ a ≤ b ∧ b ≤ n) (.ok (.osl id g (l0 + a.toNat) (b.toNat - a.toNat)) none)
     | _, _ => .bad
     else .bad
    | _ => .bad
   | none => .bad
  | _, _ => .bad
def pSlice3 (tb : Tb) (h : List AObj) (T : TypeId) (x : AV) (lo hi mx : Option AV) : Res :=
 match hi, mx with
 | some (.int _ b), some (.int _ c) =>
  match lk tb T with
  | none => .bad
  | some ti => match ti.kind with
   | .sl e => match lk tb e with
    | none => .bad
    | some te => match x with
     | .lst t l => bif Nat.beq t.size te.size then
      match optI 0 lo with
      | some a => .need (0 ≤ a ∧ a ≤ b ∧ b = c ∧ b ≤ l.length) (.ok (.tlst t ((l.drop a.toNat).take (b.toNat - a.toNat))) none)
      | none => .bad
      else .bad
     | .tlst t l => bif Nat.beq t.size te.size then
      match optI 0 lo with
      | some a => .need (0 ≤ a ∧ a ≤ b ∧ b = c ∧ b ≤ l.length) (.ok (.tlst t ((l.drop a.toNat).take (b.toNat - a.toNat))) none)
      | none => .bad
      else .bad
     | .own id g n => match h[id]? with
      | some (.arr _ t l f g') => bif Nat.beq t.size te.size then
       match optI 0 lo with
       | some a => match f with
        | true => .br (decide (a = 0 ∧ c = l.length)) (.need (g' = g ∧ 0 ≤ b ∧ b ≤ l.length) (.ok (.own id g b.toNat) none)) (.need (g' = g ∧ 0 ≤ a ∧ a ≤ b ∧ b = c ∧ b ≤ l.length ∧ n ≤ l.length) (.ok (.tosl id g a.toNat (b.toNat - a.toNat)) none))
        | false => .need (g' = g ∧ 0 ≤ a ∧ a ≤ b ∧ b = c ∧ b ≤ l.length ∧ n ≤ l.length) (.ok (.tosl id g a.toNat (b.toNat - a.toNat)) none)
       | none => .bad
       else .bad
      | _ => .bad
     | _ => .bad
   | _ => .bad
 | _, _ => .bad
def zeroEl (t : Ty) (ti : TI) : Option t.El := dec t ti.zero
def pMake (tb : Tb) (nid : Nat) (T : TypeId) (len cap : AV) : Res :=
 match lk tb T with
 | none => .bad
 | some ti => match ti.kind, len, cap with
  | .sl e, .int _ n, .int _ c => match lk tb e with
   | none => .bad
   | some te => match te.code with
    | none => .bad
    | some t => match zeroEl t te with
     | none => .bad
     | some z => .need (0 ≤ n ∧ n ≤ c ∧ c * te.bytes ≤ 140737488355328 ∧ c ≤ 9223372036854775807) (.ok (.own nid 0 n.toNat) (some (.arr e t (List.replicate c.toNat z) true 0)))
  | _, _, _ => .bad
def pNilCheck (x : AV) : Res := match x with
 | .ptr _ _ => .ok x none
 | .optr _ _ _ _ _ => .ok x none
 | .raw _ _ _ => .ok x none
 | .pv _ => .ok x none
 | .fn (.func _) _ _ => .ok x none
 | .iface _ _ => .ok x none
 | _ => .bad
def pLen (tb : Tb) (T : TypeId) (x : AV) : Res :=
 match lk tb T with
 | none => .bad
 | some ti => match ti.kind, x with
  | .str, .str s => .ok (.int .i64 s.size) none
  | .sl _, .lst _ l => .ok (.int .i64 l.length) none
  | .sl _, .tlst _ l => .ok (.int .i64 l.length) none
  | .sl _, .own _ _ n => .ok (.int .i64 n) none
  | .sl _, .osl _ _ _ n => .ok (.int .i64 n) none
  | .sl _, .csl _ n _ => .ok (.int .i64 n) none
  | .sl _, .nsl => .ok (.int .i64 0) none
  | _, _ => .bad
def pCap (tb : Tb) (h : List AObj) (T : TypeId) (x : AV) : Res :=
 match kindOf tb T with
 | some (.sl _) => match x with
  | .nsl => .ok (.int .i64 0) none
  | .zsl _ => .ok (.int .i64 0) none
  | .tlst _ l => .ok (.int .i64 l.length) none
  | .tosl _ _ _ n => .ok (.int .i64 n) none
  | .own id g _ => match h[id]? with
   | some (.arr _ _ l true g') => .need (g' = g) (.ok (.int .i64 l.length) none)
   | _ => .bad
  | _ => .bad
 | _ => .bad
def pMinMax (mx : Bool) : List AV → Res
 | [.int k a, .int _ b] => match mx with
  | true => .ok (.int k (if a < b then b else a)) none
  | false => .ok (.int k (if b < a then b else a)) none
 | [.str a, .str b] => match mx with
  | true => .bad
  | false => .ok (.str (if sLt b a then b else a)) none
 | _ => .bad

def pop (tb : Tb) (h : List AObj) (nid : Nat) (ρ : Operand → AV) (o : Oper) : Res :=
 match o.op with
 | .move x => pMove tb nid o.type (ρ x)
 | .assign x => pMove tb nid o.type (ρ x)
 | .pick c a b => pPick (ρ c) (ρ a) (ρ b)
 | .alloc e => pAlloc tb nid e
 | .box e x => pBox nid e (ρ x)
 | .build t ps => pBuild tb t (ps.toList.map fun p => (p.1, ρ p.2))
 | .buildSlice t n ps => pBuildSlice tb nid t n (ps.toList.map fun p => (p.1, ρ p.2))
 | .load t a => pLoad tb h t (ρ a)
 | .fieldAddr t x f => pFieldAddr tb t (ρ x) f
 | .field t x f => pField tb t (ρ x) f
 | .indexAddr t x i => pIndexAddr tb h t (detos (ρ x)) (ρ i)
 | .index t x i => pIndex tb t (ρ x) (ρ i)
 | .binOp op t x y _ => pBin tb op t (detos (ρ x)) (ρ y)
 | .unOp op _ x => pUn op (ρ x)
 | .convert s d x => pConv tb h s d (ρ x)
 | .makeInterface t x => pIface tb t (ρ x)
 | .typeAssert x _ t ok => pAssert tb (ρ x) t ok
 | .extract t i => pExtract (ρ t) i
 | .slice t x lo hi mx => match mx with
  | none => pSlice tb h t (detos (ρ x)) (lo.map ρ) (hi.map ρ) none
  | some m => pSlice3 tb h t (ρ x) (lo.map ρ) (hi.map ρ) (some (ρ m))
 | .makeSlice t n c => pMake tb nid t (ρ n) (ρ c)
 | .makeFunc f first caps => .ok (.fn f (first.toList.map ρ) (caps.toList.map ρ)) none
 | .nilCheck x => pNilCheck (ρ x)
 | .call c => match c.callee, c.args.toList, c.argTypes.toList with
  | .builtin .len, [x], [t] => pLen tb t (detos (ρ x))
  | .builtin .cap, [x], [t] => pCap tb h t (ρ x)
  | .builtin .min, xs, _ => pMinMax false (xs.map ρ)
  | .builtin .max, xs, _ => pMinMax true (xs.map ρ)
  | _, _, _ => .bad
 | _ => .bad
end Av
