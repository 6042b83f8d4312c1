/-
  An abstract reading of values and memory: stores, append, copy.
-/
import Derived.Test.YtkjoofinfhdcaaaAvd
import Derived.Maps.AppendAt
namespace Av
open Go

/-! ### Rows of data and their cells -/
theorem RC_RT1 {s : St} {x : AV} {t : Ty} {y : t.El} {c : Nat → Option Value} (h : RC s [x] c) (k : ∀ v, c 0 = some v → R s x v → RT s t y c) : RT s t y c := by
 simp only [RC] at h
 obtain ⟨⟨v, h0, h1, _⟩, _⟩ := h
 exact k v h0 h1
mutual
theorem RC_RT {s : St} : ∀ (t : Ty) (x : t.El) (c : Nat → Option Value), RC s (flat t x) c → RT s t x c
 | .bool, b, c, h => RC_RT1 h fun v h0 h1 => by simp only [R] at h1; simp only [RT]; rw [h0, h1]
 | .int _, b, c, h => RC_RT1 h fun v h0 h1 => by simp only [R] at h1; simp only [RT]; rw [h0, h1]
 | .raw K, x, c, h => RC_RT1 h fun v h0 h1 => by simp only [RT]; rw [h0]; cases x <;> (simp only [rawV, R] at h1; rw [h1]; rfl)
 | .str, b, c, h => RC_RT1 h fun v h0 h1 => by simp only [R] at h1; simp only [RT]; rw [h0, h1]
 | .sl e, l, c, h => RC_RT1 h fun v h0 h1 => by
  simp only [R] at h1
  obtain ⟨a, cap, he, h2, h3⟩ := h1
  simp only [RT]
  exact ⟨a, cap, by rw [h0, he], h2, h3⟩
 | .st fs, x, c, h => by simp only [RT]; exact RCs_RTs fs x c (by simpa only [flat] using h)
 | .ifc Ts ts, x, c, h => RC_RT1 h fun v h0 h1 => by
  simp only [RT]
  exact ⟨v, h0, R_RA ts Ts x v h1⟩
theorem RCs_RTs {s : St} : ∀ (ts : List Ty) (x : Ty.Els ts) (c : Nat → Option Value), RC s (flats ts x) c → RTs s ts x c
 | [], _, _, _ => by simp only [RTs]
 | t :: ts, x, c, h => by
  simp only [flats] at h
  rw [RC_append, flat_length] at h
  simp only [RTs]
  exact ⟨RC_RT t x.1 c h.1, RCs_RTs ts x.2 _ h.2⟩
theorem R_RA {s : St} : ∀ (ts : List Ty) (Ts : List TypeId) (x : Ty.Alts ts Ts) (v : Value), R s (altV ts Ts x) v → RA s ts Ts x v
 | [], _, x, _, _ => nomatch x
 | _ :: _, [], x, _, _ => nomatch x
 | t :: ts, T :: Ts, .inl y, v, h => by
  simp only [altV, R] at h
  obtain ⟨w, h0, h1⟩ := h
  simp only [RA]
  exact ⟨w, h0, R_RV t y w h1⟩
 | t :: ts, T :: Ts, .inr x, v, h => by
  simp only [altV] at h
  simp only [RA]
  exact R_RA ts Ts x v h
theorem R_RV {s : St} : ∀ (t : Ty) (x : t.El) (v : Value), R s (avV t x) v → RV s t x v
 | .bool, _, _, h => by simp only [avV, R] at h; simp only [RV]; exact h
 | .int _, _, _, h => by simp only [avV, R] at h; simp only [RV]; exact h
 | .str, _, _, h => by simp only [avV, R] at h; simp only [RV]; exact h
 | .raw K, x, v, h => by simp only [avV] at h; simp only [RV]; cases x <;> (simp only [rawV, R] at h; rw [h]; rfl)
 | .sl e, _, _, h => by simp only [avV, R] at h; simp only [RV]; exact h
 | .st fs, x, v, h => by
  simp only [avV, R] at h
  obtain ⟨vs, h0, h1, h2⟩ := h
  simp only [RV]
  exact ⟨vs, h0, by rw [RL_vals h1, flats_length], RCs_RTs fs x _ (RC_of_RL h1 h2 (fun _ _ hv => hv)), h2⟩
 | .ifc Ts ts, x, v, h => by
  simp only [avV] at h
  simp only [RV]
  exact R_RA ts Ts x v h
end
def rowsA (t : Ty) (l : List t.El) : List AV := l.flatMap (flat t)
theorem rowsA_length (t : Ty) (l : List t.El) : (rowsA t l).length = l.length * t.size := by
 induction l with
 | nil => simp [rowsA]
 | cons x l ih =>
  simp only [rowsA, List.flatMap_cons, List.length_append, flat_length] at ih ⊢
  rw [ih, List.length_cons, Nat.add_mul]
  omega
theorem rowsA_append (t : Ty) (l m : List t.El) : rowsA t (l ++ m) = rowsA t l ++ rowsA t m := by simp [rowsA]
theorem rowsA_drop (t : Ty) : ∀ (l : List t.El) (n : Nat), (rowsA t l).drop (n * t.size) = rowsA t (l.drop n)
 | [], n => by simp [rowsA]
 | x :: l, 0 => by simp
 | x :: l, n + 1 => by
  have ih := rowsA_drop t l n
  simp only [rowsA, List.flatMap_cons, List.drop_succ_cons] at ih ⊢
  rw [← ih, List.drop_append, flat_length]
  rw [List.drop_eq_nil_of_le (by rw [flat_length, Nat.add_mul]; omega)]
  simp only [List.nil_append]
  congr 1
  rw [Nat.add_mul]
  omega
theorem rowsA_take (t : Ty) : ∀ (l : List t.El) (n : Nat), (rowsA t l).take (n * t.size) = rowsA t (l.take n)
 | [], n => by simp [rowsA]
 | x :: l, 0 => by simp [rowsA]
 | x :: l, n + 1 => by
  have ih := rowsA_take t l n
  simp only [rowsA, List.flatMap_cons, List.take_succ_cons] at ih ⊢
  rw [← ih, List.take_append, flat_length, List.take_of_length_le (by rw [flat_length, Nat.add_mul]; omega)]
  congr 2
  rw [Nat.add_mul]
  omega
theorem RL_rows {s : St} {t : Ty} {l : List t.El} {xs : List Value} (h : RL s (rowsA t l) xs) (h1 : ∀ u ∈ xs, u.oneCell' = true) : ∀ i x, l[i]? = some x → RT s t x (fun j => xs[i * t.size + j]?) := by
 intro i x hi
 have hd := RL_drop (i * t.size) h
 rw [rowsA_drop] at hd
 have hcons : l.drop i = x :: l.drop (i + 1) := by
  have hil := (List.getElem?_eq_some_iff.1 hi)
  rw [List.drop_eq_getElem_cons hil.1, hil.2]
 rw [hcons] at hd
 have hrc := RC_of_RL (c := fun j => (xs.drop (i * t.size))[j]?) hd (fun u hu => h1 u (List.mem_of_mem_drop hu)) (fun _ _ hv => hv)
 simp only [rowsA, List.flatMap_cons] at hrc
 rw [RC_append] at hrc
 have := RC_RT t x _ hrc.1
 simpa only [List.getElem?_drop] using this
theorem RC_list {s : St} : ∀ {cs : List AV} {xs : List Value}, RC s cs (fun j => xs[j]?) → RL s cs (xs.take cs.length)
 | [], xs, _ => by simp [RL]
 | c :: cs, [], h => by
  simp only [RC] at h
  obtain ⟨⟨v, h0, _⟩, _⟩ := h
  simp at h0
 | c :: cs, x :: xs, h => by
  simp only [RC] at h
  obtain ⟨⟨v, h0, h1, _⟩, h2⟩ := h
  simp only [List.getElem?_cons_zero, Option.some.injEq] at h0
  subst h0
  simp only [List.length_cons, List.take_succ_cons, RL]
  exact ⟨x, _, rfl, h1, RC_list (by simpa only [List.getElem?_cons_succ] using h2)⟩
theorem rows_RL {s : St} {t : Ty} : ∀ {l : List t.El} {xs : List Value}, xs.length = l.length * t.size → (∀ i x, l[i]? = some x → RT s t x (fun j => xs[i * t.size + j]?)) → RL s (rowsA t l) xs
 | [], xs, hl, _ => by
  simp only [List.length_nil, Nat.zero_mul] at hl
  rw [List.eq_nil_of_length_eq_zero hl]
  simp [rowsA, RL]
 | x :: l, xs, hl, h => by
  rw [List.length_cons, Nat.add_mul, Nat.one_mul] at hl
  have h0 := RT_RC t x _ (h 0 x rfl)
  simp only [Nat.zero_mul, Nat.zero_add] at h0
  have h1 := RC_list h0
  rw [flat_length] at h1
  have h2 := rows_RL (l := l) (xs := xs.drop t.size) (by rw [List.length_drop]; omega) (fun i y hi => by
   have := h (i + 1) y (by simpa using hi)
   have e : (fun j => xs[(i + 1) * t.size + j]?) = (fun j => (xs.drop t.size)[i * t.size + j]?) := by
    funext j
    rw [List.getElem?_drop]
    congr 1
    rw [Nat.add_mul]
    omega
   rw [e] at this
   exact this)
  have := RL_append h1 h2
  rw [List.take_append_drop] at this
  simpa only [rowsA, List.flatMap_cons] using this
theorem rows_RC {s : St} {t : Ty} : ∀ {l : List t.El} {c : Nat → Option Value}, (∀ i x, l[i]? = some x → RT s t x (fun j => c (i * t.size + j))) → RC s (rowsA t l) c
 | [], c, _ => by simp only [rowsA, List.flatMap_nil, RC]
 | x :: l, c, h => by
  simp only [rowsA, List.flatMap_cons]
  rw [RC_append, flat_length]
  refine ⟨?_, ?_⟩
  ·have := RT_RC t x _ (h 0 x rfl)
   simpa only [Nat.zero_mul, Nat.zero_add] using this
  ·refine rows_RC (fun i y hi => ?_)
   have := h (i + 1) y (by simpa using hi)
   have e : (fun j => c ((i + 1) * t.size + j)) = (fun j => c (t.size + (i * t.size + j))) := by
    funext j
    congr 1
    rw [Nat.add_mul]
    omega
   rw [e] at this
   exact this

/-! ### A block is turned -/
inductive Cmp : AObj → Value → AObj → Value → Prop where
 | cells (T : TypeId) (cs cs' : List AV) (v : Value) : Cmp (.cells T cs) v (.cells T cs') v
 | oth (o o' : OObj) (v : Value) : Cmp (.oth o) v (.oth o') v
 | arr (T : TypeId) (t : Ty) (l l' : List t.El) (f f' : Bool) (g g' : Nat) (v v' : Value) (hg : g ≤ g') (he : g = g' → v' = v ∧ l'.length = l.length) : Cmp (.arr T t l f g) v (.arr T t l' f' g') v'
def St.turn (s : St) (id : Nat) (o' : AObj) (v' : Value) (w' : World) : St := ⟨upd s.σ id v', s.h.set id o', w', s.F⟩
theorem Cmp.alive {o o' : AObj} {v v' : Value} (h : Cmp o v o' v') : o.alive = true ∧ o'.alive = true := by cases h <;> exact ⟨rfl, rfl⟩
theorem turn_get {s : St} {id : Nat} {o : AObj} (ho : s.h[id]? = some o) {o' : AObj} {v' : Value} {w' : World} : (s.turn id o' v' w').h[id]? = some o' := by
 have hlt : id < s.h.length := (List.getElem?_eq_some_iff.1 ho).1
 simp [St.turn, hlt]
theorem turn_other {s : St} {id j : Nat} {o' : AObj} {v' : Value} {w' : World} (hj : j ≠ id) : (s.turn id o' v' w').h[j]? = s.h[j]? := by
 simp [St.turn, Ne.symm hj]
theorem St.turnG_step {s : St} {id : Nat} {o o' : AObj} {v' : Value} {w' : World} {row : Option Nat} (ho : s.h[id]? = some o) (hc : Cmp o (s.σ id) o' v') (hw : Gb s.w w' row) (hrow : ∀ b, row = some b → Has s id o b) (hb : ∀ b, Has (s.turn id o' v' w') id o' b → Has s id o b ∨ s.w.heap.size ≤ b) :
  Step s (s.turn id o' v' w') where
 os := hw.os
 tape := hw.tape
 output := hw.output
 drawn := hw.drawn
 size := hw.size
 frn := rfl
 keep := fun b hlt hn => by
  refine ⟨?_, hw.block b hlt (fun e => hn ⟨id, o, ho, hc.alive.1, hrow b e.symm⟩)⟩
  rintro ⟨j, p, h1, h2, h3⟩
  by_cases hj : j = id
  ·subst hj
   rw [turn_get ho] at h1
   cases h1
   rcases hb b h3 with h4 | h4
   ·exact hn ⟨j, o, ho, hc.alive.1, h4⟩
   ·omega
  ·rw [turn_other hj] at h1
   exact hn ⟨j, p, h1, h2, Has.of (by simp only [St.turn, upd_other _ _ hj]) h3⟩
 kn := fun j hk => by
  by_cases hj : j = id
  ·subst hj
   unfold kn
   rw [turn_get ho]
   have := hc.alive.2
   cases o' <;> first | rfl | cases this
  ·unfold kn at hk ⊢
   rw [turn_other hj]
   exact hk
 cells := fun j T cs' hk hq => by
  by_cases hj : j = id
  ·subst hj
   rw [turn_get ho] at hq
   cases hq
   have ho' := ho
   generalize hσ : s.σ j = u at hc
   cases hc with
   | cells _ cs _ _ => exact ⟨by simp only [St.turn, upd_same], cs, ho'⟩
  ·rw [turn_other hj] at hq
   exact ⟨by simp only [St.turn, upd_other _ _ hj], cs', hq⟩
 oth := fun j o2 hk hq => by
  by_cases hj : j = id
  ·subst hj
   rw [turn_get ho] at hq
   cases hq
   have ho' := ho
   generalize hσ : s.σ j = u at hc
   cases hc with
   | oth o1 _ _ => exact ⟨by simp only [St.turn, upd_same], o1, ho'⟩
  ·rw [turn_other hj] at hq
   exact ⟨by simp only [St.turn, upd_other _ _ hj], o2, hq⟩
 arr := fun j T t l' f' g hk hq => by
  by_cases hj : j = id
  ·subst hj
   rw [turn_get ho] at hq
   cases hq
   have ho' := ho
   generalize hσ : s.σ j = u at hc
   cases hc with
   | arr _ _ l _ f _ g0 _ _ _ hg he => exact ⟨l, f, g0, ho', hg, fun e => ⟨by simp only [St.turn, upd_same]; exact (he e).1, (he e).2⟩⟩
  ·rw [turn_other hj] at hq
   exact ⟨l', f', g, hq, Nat.le_refl _, fun _ => ⟨by simp only [St.turn, upd_other _ _ hj], rfl⟩⟩
theorem St.turnG_ok {s : St} (hok : Ok s) {id : Nat} {o o' : AObj} {v' : Value} {w' : World} {row : Option Nat} (ho : s.h[id]? = some o) (hc : Cmp o (s.σ id) o' v') (hw : Gb s.w w' row) (hrow : ∀ b, row = some b → Has s id o b) (hb : ∀ b, Has (s.turn id o' v' w') id o' b → Has s id o b ∨ s.w.heap.size ≤ b)
  (hobj : ObjR (s.turn id o' v' w') id o') : Ok (s.turn id o' v' w') where
 obj := fun j p hp => by
  by_cases hj : j = id
  ·subst hj
   rw [turn_get ho] at hp
   cases hp
   exact hobj
  ·rw [turn_other hj] at hp
   cases ha : p.alive with
   | false => cases p <;> first | trivial | cases ha
   | true =>
    refine ObjR_mono (St.turnG_step ho hc hw hrow hb) (by simp only [St.turn, upd_other _ _ hj]) (fun b hbb => ?_) (hok.obj j p hp)
    refine hw.block b (own_lt hok ⟨j, p, hp, ha, hbb⟩) (fun e => hj ?_)
    exact hok.inj j id p o b hp ho ha hc.alive.1 hbb (hrow b e.symm)
 inj := fun i j p q b hi hj hp hq hbi hbj => by
  have old : ∀ (k : Nat) (r : AObj), k ≠ id → (s.turn id o' v' w').h[k]? = some r → Has (s.turn id o' v' w') k r b → s.h[k]? = some r ∧ Has s k r b := fun k r hk h1 h2 => by
   rw [turn_other hk] at h1
   exact ⟨h1, Has.of (by simp only [St.turn, upd_other _ _ hk]) h2⟩
  have new : ∀ (r : AObj), (s.turn id o' v' w').h[id]? = some r → Has (s.turn id o' v' w') id r b → Has s id o b ∨ s.w.heap.size ≤ b := fun r h1 h2 => by
   rw [turn_get ho] at h1
   cases h1
   exact hb b h2
  by_cases hei : i = id
  ·by_cases hej : j = id
   ·rw [hei, hej]
   ·exfalso
    subst hei
    obtain ⟨h1, h2⟩ := old j q hej hj hbj
    rcases new p hi hbi with h4 | h4
    ·exact hej (hok.inj j i q o b h1 ho hq hc.alive.1 h2 h4)
    ·have := own_lt hok ⟨j, q, h1, hq, h2⟩
     omega
  ·by_cases hej : j = id
   ·exfalso
    subst hej
    obtain ⟨h1, h2⟩ := old i p hei hi hbi
    rcases new q hj hbj with h4 | h4
    ·exact hei (hok.inj i j p o b h1 ho hp hc.alive.1 h2 h4)
    ·have := own_lt hok ⟨i, p, h1, hp, h2⟩
     omega
   ·obtain ⟨h1, h2⟩ := old i p hei hi hbi
    obtain ⟨h3, h4⟩ := old j q hej hj hbj
    exact hok.inj i j p q b h1 h3 hp hq h2 h4
 fb := fun b hb => Nat.lt_of_lt_of_le (hok.fb b hb) hw.size
 dis := fun b ho2 hF => by
  have hlt := hok.fb b hF
  by_cases h : OwnI s b
  ·exact hok.dis b h hF
  ·exact ((St.turnG_step ho hc hw hrow hb).keep b hlt h).1 ho2
theorem turn_has {s : St} {id : Nat} {o o' : AObj} {v' : Value} {w' : World} (hb : ∀ b, blkOf v' = some b → blkOf (s.σ id) = some b ∨ s.w.heap.size ≤ b) (hmo : o'.more = []) : ∀ b, Has (s.turn id o' v' w') id o' b → Has s id o b ∨ s.w.heap.size ≤ b := fun b h => by
 have h := h.one hmo
 simp only [St.turn, upd_same] at h
 exact (hb b h).imp .inl (fun h => h)
theorem St.turn_step {s : St} {id : Nat} {o o' : AObj} {v' : Value} {w' : World} (ho : s.h[id]? = some o) (hc : Cmp o (s.σ id) o' v') (hw : Gb s.w w' (blkOf (s.σ id))) (hb : ∀ b, blkOf v' = some b → blkOf (s.σ id) = some b ∨ s.w.heap.size ≤ b) (hmo : o'.more = [] := by rfl) :
  Step s (s.turn id o' v' w') := St.turnG_step ho hc hw (fun _ h => .inl h) (turn_has hb hmo)
theorem St.turn_ok {s : St} (hok : Ok s) {id : Nat} {o o' : AObj} {v' : Value} {w' : World} (ho : s.h[id]? = some o) (hc : Cmp o (s.σ id) o' v') (hw : Gb s.w w' (blkOf (s.σ id))) (hb : ∀ b, blkOf v' = some b → blkOf (s.σ id) = some b ∨ s.w.heap.size ≤ b)
  (hobj : ObjR (s.turn id o' v' w') id o') (hmo : o'.more = [] := by rfl) : Ok (s.turn id o' v' w') := St.turnG_ok hok ho hc hw (fun _ h => .inl h) (turn_has hb hmo) hobj

/-! ### Stores -/
section
variable {P : Program} {tb : Tb}
theorem spl_get {α : Type} (xs us : List α) (p m : Nat) (h : p + us.length ≤ xs.length) : (xs.take p ++ (us ++ xs.drop (p + us.length)))[m]? = if p ≤ m ∧ m < p + us.length then us[m - p]? else xs[m]? := by
 by_cases a : p ≤ m
 ·by_cases b : m < p + us.length
  ·rw [if_pos ⟨a, b⟩, List.getElem?_append_right (by simp; omega), List.getElem?_append_left (by simp; omega)]
   congr 1
   simp
   omega
  ·rw [if_neg (by omega), List.getElem?_append_right (by simp; omega), List.getElem?_append_right (by simp; omega), List.getElem?_drop]
   congr 1
   simp
   omega
 ·rw [if_neg (by omega), List.getElem?_append_left (by simp; omega), List.getElem?_take, if_pos (by omega)]
theorem spl_length {α : Type} (xs us : List α) (p : Nat) (h : p + us.length ≤ xs.length) : (xs.take p ++ (us ++ xs.drop (p + us.length))).length = xs.length := by
 simp
 omega
theorem RL_splice {s : St} {cs new : List AV} {vs us : List Value} (h : RL s cs vs) (k : RL s new us) (off : Nat) : RL s (splice cs off new) (vs.take off ++ (us ++ vs.drop (off + us.length))) := by
 unfold splice
 rw [RL_vals k]
 exact RL_append (RL_take _ h) (RL_append k (RL_drop _ h))
theorem one_splice {vs us : List Value} (h : ∀ u ∈ vs, u.oneCell' = true) (k : ∀ u ∈ us, u.oneCell' = true) (off : Nat) : ∀ u ∈ vs.take off ++ (us ++ vs.drop (off + us.length)), u.oneCell' = true := by
 intro u hu
 rcases List.mem_append.1 hu with hu | hu
 ·exact h u (List.mem_of_mem_take hu)
 ·rcases List.mem_append.1 hu with hu | hu
  ·exact k u hu
  ·exact h u (List.mem_of_mem_drop hu)
theorem storeVar_run (hT : TbOk P tb) {T : TypeId} {ti : TI} (hl : lk tb T = some ti) {w : World} {b off : Nat} {E : TypeId} {cur : Array Value} (hg : w.heap[b]? = some (.cells cur E (0, 0))) {v : Value} {us : List Value} (hv : v.cells = us.toArray) (hsz : us.length = ti.size)
  (hfit : off + us.length ≤ cur.size) (h1 : ∀ u ∈ us, u.oneCell' = true) :
  (Instr.storeAt T (.pointer (some ⟨b, off, none⟩)) v).run P w = .ok () (w.setRow b (cur.toList.take off ++ us ++ cur.toList.drop (off + us.length)).toArray) := by
 have hst := run_storeCells_at P b off E us 0 cur w hg (by simpa using hfit) h1
 simp only [Nat.add_zero] at hst
 have hne : ¬ us.toArray.size ≠ ti.size := by simpa using hsz
 simp only [Instr.storeAt, Instr.sureAddr, Sem.run_bind, Sem.run_pure, Result.andThen_ok, storeVar, sizeOf_run hT hl w, hv]
 rw [if_neg hne]
 exact hst
theorem setRow_grownBy (w : World) (b : Nat) (cs : Array Value) : Gb w (w.setRow b cs) (some b) :=
 ⟨rfl, rfl, rfl, Nat.le_refl _, by simp [World.setRow], fun k _ hk => setRow_other w b k cs (fun e => hk (by rw [e]))⟩

def Gp (P : Program) (e : Sem Value) (s : St) (pos : Nat) (v : AV) (ob : Option AObj) : Prop :=
 ∃ cv s', e.run P s.w = .ok cv s'.w ∧ Step s s' ∧ Ok s' ∧ R s' v cv ∧ s'.h = putO s.h pos ob
def Gu (P : Program) (e : Sem Unit) (s : St) (pos : Nat) (ob : Option AObj) : Prop := ∃ s', e.run P s.w = .ok () s'.w ∧ Step s s' ∧ Ok s' ∧ s'.h = putO s.h pos ob
theorem set_put {h : Hp} {id : Nat} (hlt : id < h.length) (ob : AObj) : put h id ob = h.set id ob := by unfold put; rw [if_pos hlt]
theorem store_Gu (hT : TbOk P tb) {s : St} (hok : Ok s) {h0 : Hp} (hs : SubH h0 s.h) {T : TypeId} {p x : AV} {cp cx : Value} (hp : R s p cp) (hx : R s x cx) {v : AV} {ob : Option AObj} (h : (pStore tb h0 T p x).Is v ob) : v = .any ∧ Gu P (Instr.storeAt T cp cx) s (pid p) ob := by
 unfold pStore at h
 split at h
 ·rename_i ti new hl hc
  obtain ⟨us, hv, hu, hu1⟩ := cellsOf_R hc (R_tyNil hx)
  have hul := RL_vals hu
  split at h
  ·rename_i id off
   split at h
   ·rename_i Tc cs ho0
    have ho := hs id _ ho0 rfl
    split at h
    ·rename_i hb
     obtain ⟨rfl, rfl⟩ := h
     have hlt : id < s.h.length := (List.getElem?_eq_some_iff.1 ho).1
     simp only [Bool.and_eq_true] at hb
     have h1 := Nat.eq_of_beq_eq_true hb.1
     have h2 := Nat.le_of_ble_eq_true hb.2
     obtain ⟨b, vs, rest, hσ, hg, hr, hv1⟩ := hok.obj id _ ho
     have hvl := RL_vals hr
     simp only [R] at hp
     obtain ⟨_, b', rfl, hσ'⟩ := hp
     have hσ' := hσ' Tc cs ho
     rw [hσ] at hσ'
     cases hσ'
     have hrun := storeVar_run (P := P) hT hl hg hv (by omega) (by simp; omega) hu1 (off := off)
     have hrow : (vs ++ rest).toArray.toList.take off ++ us ++ (vs ++ rest).toArray.toList.drop (off + us.length) = vs.take off ++ (us ++ vs.drop (off + us.length)) ++ rest := by
      rw [List.toList_toArray, List.take_append_of_le_length (by omega), List.drop_append_of_le_length (by omega)]
      simp only [List.append_assoc]
     rw [hrow] at hrun
     have hw : Gb s.w (s.w.setRow b (vs.take off ++ (us ++ vs.drop (off + us.length)) ++ rest).toArray) (blkOf (s.σ id)) := by
      rw [hσ]; exact setRow_grownBy _ _ _
     have hcmp : Cmp (.cells Tc cs) (s.σ id) (.cells Tc (splice cs off new)) (s.σ id) := .cells _ _ _ _
     have hst := St.turn_step ho hcmp hw (fun b hb => .inl hb)
     refine ⟨rfl, s.turn id (.cells Tc (splice cs off new)) (s.σ id) _, ?_, hst, St.turn_ok hok ho hcmp hw (fun b hb => .inl hb) ?_, (set_put hlt _).symm⟩
     ·simpa [St.turn] using hrun
     ·refine ⟨b, vs.take off ++ (us ++ vs.drop (off + us.length)), rest, by simp only [St.turn, upd_same]; exact hσ, ?_, RL_mono hst _ _ (RL_splice hr hu off), one_splice hv1 hu1 off⟩
      simp only [St.turn]
      rw [setRow_heap _ _ _ _ _ _ hg]
    ·exact h.elim
   ·exact h.elim
  ·rename_i id g t i off
   split at h
   ·rename_i Te t' l f g' ho0
    have ho := hs id _ ho0 rfl
    obtain ⟨⟨hgg, hb⟩, hk⟩ := h
    have hte := Ty.eq_of_beq _ _ hb
    subst hgg hte
    obtain ⟨y0, _, hy0, h⟩ := hk
    simp only [Int.toNat_natCast] at hy0
    simp only at h
    split at h
    ·rename_i y hb2 hd
     obtain ⟨rfl, rfl⟩ := h
     have hlt : id < s.h.length := (List.getElem?_eq_some_iff.1 ho).1
     simp only [Bool.and_eq_true] at hb2
     have h1 := Nat.eq_of_beq_eq_true hb2.1
     have h2 := Nat.le_of_ble_eq_true hb2.2
     rw [flat_length] at h2
     simp only [R] at hp
     obtain ⟨_, b, rfl, hp⟩ := hp
     obtain ⟨_, hp2⟩ := hp Te t' l f g' ho
     obtain ⟨_, hil, len, cap, hσ⟩ := hp2 rfl
     obtain ⟨xs, hown, hone, hrow, hfull⟩ := hok.obj id _ ho
     have hxs := hown.1
     rw [hσ] at hown
     rcases hown.2 with ⟨he, _⟩ | ⟨b', cap', cur, he, hb0, hg, hnc, hcm, hcs, htake⟩
     ·cases he
     ·cases he
      have hmul : (i + 1) * t'.size ≤ l.length * t'.size := Nat.mul_le_mul_right _ hil
      rw [Nat.add_mul, Nat.one_mul] at hmul
      have hcapm : l.length * t'.size ≤ cap * t'.size := Nat.mul_le_mul_right _ hnc
      have hrun := storeVar_run (P := P) hT hl hg hv (by omega) (by rw [hcs]; omega) hu1 (off := i * t'.size + off)
      have hw : Gb s.w (s.w.setRow b (cur.toList.take (i * t'.size + off) ++ us ++ cur.toList.drop (i * t'.size + off + us.length)).toArray) (blkOf (s.σ id)) := by
       rw [hσ]; exact setRow_grownBy _ _ _
      have hcmp : Cmp (.arr Te t' l f g') (s.σ id) (.arr Te t' (l.set i y) f g') (s.σ id) := .arr _ _ _ _ _ _ _ _ _ _ (Nat.le_refl _) (fun _ => ⟨rfl, by simp⟩)
      have hst := St.turn_step ho hcmp hw (fun b hb => .inl hb)
      have hxl : xs.length = l.length * t'.size := hxs
      have hone2 := one_splice hone hu1 (i * t'.size + off)
      refine ⟨rfl, s.turn id (.arr Te t' (l.set i y) f g') (s.σ id) _, hrun, hst, St.turn_ok hok ho hcmp hw (fun b hb => .inl hb) ?_, (set_put hlt _).symm⟩
      refine ⟨xs.take (i * t'.size + off) ++ (us ++ xs.drop (i * t'.size + off + us.length)), ?_, hone2, ?_, ?_⟩
      ·simp only [St.turn, upd_same]
       rw [hσ]
       refine ⟨?_, .inr ⟨b, cap, _, by rw [List.length_set], Nat.zero_le _, setRow_heap _ _ _ _ _ _ hg, by simpa using hnc, hcm, ?_, ?_⟩⟩
       ·rw [spl_length _ _ _ (by omega)]
        simpa using hxl
       ·simp only [List.size_toArray]
        rw [List.append_assoc, spl_length _ _ _ (by simp; omega)]
        simpa using hcs
       ·simp only [List.length_set]
        apply List.ext_getElem?
        intro m
        rw [List.getElem?_take]
        by_cases hm : m < l.length * t'.size
        ·rw [if_pos hm, List.append_assoc, spl_get _ _ _ _ (by simp; omega), spl_get _ _ _ _ (by omega)]
         rw [← htake, List.getElem?_take, if_pos hm]
        ·rw [if_neg hm, List.getElem?_eq_none]
         rw [spl_length _ _ _ (by omega)]
         omega
      ·intro j z hz
       rw [List.getElem?_set] at hz
       by_cases hj : i = j
       ·subst hj
        rw [if_pos rfl, if_pos hil] at hz
        cases hz
        have hRL := rows_RL hxs hrow
        have hseg : RL s (flat t' y0) ((xs.drop (i * t'.size)).take t'.size) := by
         have h5 := RT_RC t' y0 _ (hrow i y0 hy0)
         have h6 := RC_list (s := s) (xs := xs.drop (i * t'.size)) (by simpa only [List.getElem?_drop] using h5)
         rwa [flat_length] at h6
        have hspl := RL_splice hseg hu off
        have hsl : ((xs.drop (i * t'.size)).take t'.size).length = t'.size := by
         rw [List.length_take, List.length_drop]; omega
        have hso := one_splice (vs := (xs.drop (i * t'.size)).take t'.size) (fun u hu => hone u (List.mem_of_mem_drop (List.mem_of_mem_take hu))) hu1 off
        have hrc := RC_of_RL (c := fun k => (xs.take (i * t'.size + off) ++ (us ++ xs.drop (i * t'.size + off + us.length)))[i * t'.size + k]?) hspl hso (fun k v hv => by
         rw [spl_get _ _ _ _ (by omega)] at hv
         show (xs.take (i * t'.size + off) ++ (us ++ xs.drop (i * t'.size + off + us.length)))[i * t'.size + k]? = some v
         rw [spl_get _ _ _ _ (by omega)]
         by_cases hk : off ≤ k ∧ k < off + us.length
         ·rw [if_pos hk] at hv
          rw [if_pos (by omega), ← hv]
          congr 1
          omega
         ·rw [if_neg hk] at hv
          rw [if_neg (by omega)]
          rw [List.getElem?_take] at hv
          split at hv
          ·rwa [List.getElem?_drop] at hv
          ·cases hv)
        exact RT_mono hst _ _ _ _ (fun _ _ hv => hv) (dec_RT t' _ y _ hd hrc)
       ·rw [if_neg hj] at hz
        refine RT_mono hst _ _ _ _ (fun k v hv => ?_) (RT_cut t' z _ t'.size (Nat.le_refl _) (hrow j z hz))
        split at hv
        ·rename_i hk
         rw [spl_get _ _ _ _ (by omega), if_neg ?_]
         ·exact hv
         ·rcases Nat.lt_or_gt_of_ne hj with hlt2 | hgt
          ·have : (i + 1) * t'.size ≤ j * t'.size := Nat.mul_le_mul_right _ hlt2
           rw [Nat.add_mul, Nat.one_mul] at this
           omega
          ·have : (j + 1) * t'.size ≤ i * t'.size := Nat.mul_le_mul_right _ hgt
           rw [Nat.add_mul, Nat.one_mul] at this
           omega
        ·cases hv
      ·intro hf
       obtain ⟨base, hb⟩ := hfull hf
       exact ⟨base, by simp only [St.turn, upd_same, List.length_set]; exact hb⟩
    ·exact h.elim
   ·exact h.elim
  ·rename_i K b off
   split at h
   ·rename_i Te t' m ho0
    have ho := hs K _ ho0 rfl
    obtain ⟨x0, _, hx0, h⟩ := h
    have hx0 := bxL_get hx0
    simp only at h
    split at h
    ·rename_i y hb2 hd
     obtain ⟨rfl, rfl⟩ := h
     have hlt : K < s.h.length := (List.getElem?_eq_some_iff.1 ho).1
     simp only [Bool.and_eq_true] at hb2
     have h1 := Nat.eq_of_beq_eq_true hb2.1
     have h2 := Nat.le_of_ble_eq_true hb2.2
     rw [flat_length] at h2
     simp only [R] at hp
     subst hp
     obtain ⟨hσ, hnd, hm⟩ := hok.obj K _ ho
     obtain ⟨vs, rest, hg, hvl, hr, hv1⟩ := hm b x0 (lkB_mem hx0)
     have hrun := storeVar_run (P := P) hT hl hg hv (by omega) (by simp; omega) hu1 (off := off)
     have hrow : (vs ++ rest).toArray.toList.take off ++ us ++ (vs ++ rest).toArray.toList.drop (off + us.length) = vs.take off ++ (us ++ vs.drop (off + us.length)) ++ rest := by
      rw [List.toList_toArray, List.take_append_of_le_length (by omega), List.drop_append_of_le_length (by omega)]
      simp only [List.append_assoc]
     rw [hrow] at hrun
     have hw : Gb s.w (s.w.setRow b (vs.take off ++ (us ++ vs.drop (off + us.length)) ++ rest).toArray) (some b) := setRow_grownBy _ _ _
     have hcmp : Cmp (.oth (.bxs Te t' m)) (s.σ K) (.oth (.bxs Te t' (upB m b y))) (s.σ K) := .oth _ _ _
     have hkeys : (upB m b y).map Prod.fst = m.map Prod.fst := by
      unfold upB
      rw [List.map_map]
      refine List.map_congr_left fun p _ => ?_
      simp only [Function.comp]
      split <;> rfl
     have hmem : ∀ b', some b = some b' → Has s K (.oth (.bxs Te t' m)) b' := fun b' e => by
      cases e
      exact .inr (List.mem_map.2 ⟨_, lkB_mem hx0, rfl⟩)
     have hhas : ∀ w' b', Has (s.turn K (.oth (.bxs Te t' (upB m b y))) (s.σ K) w') K (.oth (.bxs Te t' (upB m b y))) b' → Has s K (.oth (.bxs Te t' m)) b' ∨ s.w.heap.size ≤ b' := fun w' b' h => by
      rcases h with h | h
      ·simp only [St.turn, upd_same] at h
       exact .inl (.inl h)
      ·have h : b' ∈ (upB m b y).map Prod.fst := h
       rw [hkeys] at h
       exact .inl (.inr h)
     have hst := St.turnG_step ho hcmp hw hmem (hhas _)
     refine ⟨rfl, s.turn K (.oth (.bxs Te t' (upB m b y))) (s.σ K) _, ?_, hst, St.turnG_ok hok ho hcmp hw hmem (hhas _) ?_, (set_put hlt _).symm⟩
     ·simpa [St.turn] using hrun
     ·refine ⟨by simp only [St.turn, upd_same]; exact hσ, by rw [hkeys]; exact hnd, fun b' x' hx' => ?_⟩
      obtain ⟨⟨k, z⟩, hkz, e⟩ := List.mem_map.1 hx'
      by_cases hk : k = b
      ·simp only [hk, if_pos] at e
       cases e
       refine ⟨vs.take off ++ (us ++ vs.drop (off + us.length)), rest, ?_, by rw [spl_length _ _ _ (by omega)]; exact hvl, ?_, one_splice hv1 hu1 off⟩
       ·simp only [St.turn]
        rw [setRow_heap _ _ _ _ _ _ hg]
       ·have hseg : RL s (flat t' x0) vs := by
         have h6 := RC_list (s := s) (xs := vs) (RT_RC t' x0 _ hr)
         rw [flat_length, List.take_of_length_le (by omega)] at h6
         exact h6
        have hspl := RL_splice hseg hu off
        exact RT_mono hst _ _ _ _ (fun _ _ hv => hv) (dec_RT t' _ _ _ hd (RC_of_RL hspl (one_splice hv1 hu1 off) (fun _ _ hv => hv)))
      ·simp only [if_neg hk] at e
       cases e
       obtain ⟨vs2, rest2, g1, g2, g3, g4⟩ := hm _ _ hkz
       refine ⟨vs2, rest2, ?_, g2, RT_mono hst _ _ _ _ (fun _ _ hv => hv) g3, g4⟩
       simp only [St.turn]
       rw [setRow_other _ _ _ _ (fun e => hk e)]
       exact g1
    ·exact h.elim
   ·exact h.elim
  ·exact h.elim
 ·exact h.elim
end
end Av
