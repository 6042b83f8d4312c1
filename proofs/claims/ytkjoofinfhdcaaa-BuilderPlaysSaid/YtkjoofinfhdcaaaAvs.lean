/-
  An abstract reading of values and memory: maps.
-/
import Derived.Test.YtkjoofinfhdcaaaAvr
import Derived.MapKept
import Derived.Maps.RangeRun
namespace Av
open Go Go.MapKept
open Go.ChangeMaps (setBlock)

/-! ### Data as single values -/
theorem valD_key {s : St} : ∀ (t : Ty) (v : AV) (x : t.El) (cv : Value), keyTy t = true → valD t v = some x → R s v cv → cv = keyV t x
 | .bool, _, _, _, hk, _, _ => by cases hk
 | .sl _, _, _, _, hk, _, _ => by cases hk
 | .st _, _, _, _, hk, _, _ => by cases hk
 | .int k, v, x, cv, _, h, hr => by
  have := dInt_RT (c := fun _ => some cv) h rfl hr
  simp only [RT] at this
  exact Option.some.inj this
 | .str, v, x, cv, _, h, hr => by
  have := dStr_RT (c := fun _ => some cv) h rfl hr
  simp only [RT] at this
  exact Option.some.inj this
theorem keyV_RV {s : St} : ∀ (t : Ty) (x : t.El), keyTy t = true → RV s t x (keyV t x)
 | .bool, _, hk => by cases hk
 | .sl _, _, hk => by cases hk
 | .st _, _, hk => by cases hk
 | .int k, n, _ => by simp only [keyV, RV]
 | .str, x, _ => by simp only [keyV, RV]
 | .ifc _ _, _, hk => by cases hk
theorem keyV_inj : ∀ {t : Ty} {x y : t.El}, keyTy t = true → keyV t x = keyV t y → x = y
 | .bool, _, _, hk, _ => by cases hk
 | .sl _, _, _, hk, _ => by cases hk
 | .st _, _, _, hk, _ => by cases hk
 | .int k, n, m, _, h => by
  have h : Value.int k n = Value.int k m := h
  cases h
  rfl
 | .str, x, y, _, h => by
  have h : Value.string x = Value.string y := h
  cases h
  rfl
theorem eqT_key : ∀ {t : Ty} {x y : t.El}, keyTy t = true → (eqT t x y = true ↔ x = y)
 | .bool, _, _, hk => by cases hk
 | .sl _, _, _, hk => by cases hk
 | .st _, _, _, hk => by cases hk
 | .int k, n, m, _ => by
  show ((n : Int) == (m : Int)) = true ↔ n = m
  exact beq_iff_eq
 | .str, x, y, _ => sEq_iff
/-! ### Entries -/
theorem find_at {α β : Type} (g : α → β) (p : α → Bool) : ∀ (l : List α) (j : Nat) (x : α), l[j]? = some x → (l.map g).Nodup → (∀ e, p e = true ↔ g e = g x) → l.find? p = some x
 | [], j, x, h, _, _ => by simp at h
 | y :: l, j, x, h, hn, hp => by
  rw [List.map_cons, List.nodup_cons] at hn
  by_cases hy : p y = true
  ·rw [List.find?_cons_of_pos hy]
   cases j with
   | zero => simpa using h
   | succ j =>
    exfalso
    have hx : x ∈ l := List.mem_of_getElem? (by simpa using h)
    exact hn.1 (List.mem_map.2 ⟨x, hx, ((hp y).1 hy).symm⟩)
  ·rw [List.find?_cons_of_neg hy]
   cases j with
   | zero =>
    exfalso
    have : y = x := by simpa using h
    exact hy ((hp y).2 (by rw [this]))
   | succ j => exact find_at g p l j x (by simpa using h) hn.2 hp
theorem find_no {kt vt : Ty} (hk : keyTy kt = true) {l : List (kt.El × vt.El)} {k : kt.El} (h : ∀ x ∈ l, keyV kt x.1 ≠ keyV kt k) : findK l k = none ∧ hasK l k = false := by
 have h2 : ∀ x ∈ l, ¬ eqT kt x.1 k = true := fun x hx e => h x hx (by rw [(eqT_key hk).1 e])
 constructor
 ·unfold findK
  rw [List.find?_eq_none.2 h2]
  rfl
 ·unfold hasK
  rw [Bool.eq_false_iff]
  intro hc
  obtain ⟨x, hx, he⟩ := List.any_eq_true.1 hc
  exact h2 x hx he
theorem find_yes {kt vt : Ty} (hk : keyTy kt = true) {l : List (kt.El × vt.El)} {k : kt.El} {j : Nat} {x : kt.El × vt.El} (hx : l[j]? = some x) (he : keyV kt x.1 = keyV kt k) (hn : (l.map fun x => keyV kt x.1).Nodup) : findK l k = some x.2 ∧ hasK l k = true := by
 have hp : ∀ e : kt.El × vt.El, eqT kt e.1 k = true ↔ keyV kt e.1 = keyV kt x.1 := fun e => by
  rw [eqT_key hk, he]
  exact ⟨fun h => by rw [h], fun h => keyV_inj hk h⟩
 constructor
 ·unfold findK
  rw [find_at (fun x : kt.El × vt.El => keyV kt x.1) _ l j x hx hn hp]
  rfl
 ·unfold hasK
  rw [List.any_eq_true]
  exact ⟨x, List.mem_of_getElem? hx, (hp x).2 rfl⟩
theorem isKey_of : ∀ {t : Ty} {P : Program} {T : TypeId} (_ : keyTy t = true) (_ : chkC P 50 T t = true), ∃ d, P.underlying T = some d ∧ ∀ x : t.El, IsKey d (keyV t x)
 | .bool, _, _, hk, _ => by cases hk
 | .sl _, _, _, hk, _ => by cases hk
 | .st _, _, _, hk, _ => by cases hk
 | .int k, P, T, _, hc => by
  unfold chkC at hc
  split at hc <;> first | (cases hc; done) | skip
  all_goals first
   | (rename_i h1 h2; cases h1; done)
   | skip
  ·rename_i k1 k2 h1 h2
   cases h1
   have := of_decide_eq_true hc
   subst this
   exact ⟨_, h2, fun x => rfl⟩
 | .str, P, T, _, hc => by
  unfold chkC at hc
  split at hc <;> first | (cases hc; done) | skip
  all_goals first
   | (rename_i h1 h2; cases h1; done)
   | skip
  ·rename_i h1 h2
   exact ⟨_, h2, fun x => trivial⟩
section
variable {P : Program} {tb : Tb}
def MG (P : Program) (o : Oper) (a : Act) (s : St) (fin : AV → Hp → Prop) : Prop :=
 ∃ v cv s', ((execOp a.eval o).run P s.w = .ok (.value cv) s'.w ∨ ((execOp a.eval o).run P s.w = .ok .skip s'.w ∧ cv = undef)) ∧ Step s s' ∧ Ok s' ∧ R s' v cv ∧ fin v s'.h
theorem zeroV_R (hT : TbOk P tb) {T : TypeId} {ti : TI} (h : lk tb T = some ti) {z : AV} (hz : zeroV ti = some z) (s : St) : ∃ cz, (zeroValue T).run P s.w = .ok cz s.w ∧ R s z cz := by
 obtain ⟨i, zc, hi, _, _, hzc, hf⟩ := (tb_und hT h).info
 have hrow := (tb_und hT h).row i zc hi hzc
 refine ⟨zc, by simp [zeroValue, typeInfo, hi, hzc], ?_⟩
 unfold zeroV at hz
 split at hz
 ·rename_i hk
  cases hz
  cases zc <;> simp only [rowZ, hk, Bool.not_true] at hrow <;> first | (cases hrow; done) | skip
  rename_i arr
  simp only [R]
  obtain ⟨h1, h2⟩ := zf_RL (s := s) hf
  exact ⟨_, by simp [Value.cells], h1, h2⟩
 ·rename_i hk
  split at hz
  ·rename_i z0 hz0
   cases hz
   rw [hz0] at hf
   have hc : zc.cells = #[zc] := by
    cases zc <;> first | rfl | (simp only [rowZ, hk, Bool.false_and] at hrow; cases hrow)
   rw [hc] at hf
   simp only [zf, Bool.and_eq_true] at hf
   exact (zv_R hf.1).1
  ·cases hz
theorem run_lookup {w : World} {T kT e : TypeId} {bm : Nat} {es : Array MapEntry} {c : Nat} {d : TypeDesc} {k : Value} (hm : P.underlying T = some (.map kT e)) (hd : P.underlying kT = some d) (hb : w.heap[bm]? = some (.map es c)) (hk : IsKey d k) (ok : Bool)
  {r : Option (Nat × Value)} (hf : Instr.findNow d k es.toList 0 = some r) {z : Value} (hz : (zeroValue e).run P w = .ok z w) :
  (Instr.lookup T (.map (some bm)) k ok).run P w = .ok (match r with | some (_, v) => (if ok then .tuple #[v, .bool true] else v) | none => (if ok then .tuple #[z, .bool false] else z)) w := by
 cases r with
 | none => simp [Instr.lookup, run_underlying hm, run_getObj_map hb, run_checkKey hd hk, run_findKey hd hf, hz, Result.andThen]
 | some r => simp [Instr.lookup, run_underlying hm, run_getObj_map hb, run_checkKey hd hk, run_findKey hd hf, Result.andThen]
theorem ansM_R {s : St} {ok : Bool} {v : AV} {cv : Value} (h : R s v cv) (b : Bool) : R s (ansM ok v b) (if ok then .tuple #[cv, .bool b] else cv) := by
 cases ok with
 | true =>
  simp only [ansM, if_true, R]
  refine ⟨[cv, .bool b], rfl, ?_⟩
  simp only [RL]
  exact ⟨cv, _, rfl, h, .bool b, [], rfl, by simp only [R], rfl⟩
 | false => exact h
theorem map_kind (hT : TbOk P tb) {T : TypeId} {ti : TI} (h : lk tb T = some ti) {k e : TypeId} (hk : ti.kind = .map k e) : P.underlying T = some (.map k e) := by
 obtain ⟨d, hd, hf⟩ := (tb_und hT h).und
 rw [hk] at hf
 cases d <;> simp only [TK.fits] at hf <;> first | (cases hf; done) | skip
 rw [Bool.and_eq_true] at hf
 rw [hd, Nat.eq_of_beq_eq_true hf.1, Nat.eq_of_beq_eq_true hf.2]
theorem lookup_MG (hT : TbOk P tb) {s : St} (hok : Ok s) {o : Oper} {a : Act} {T : TypeId} {m k : Operand} {okb : Bool} (ho : o.op = .lookup T m k okb) {fin : AV → Hp → Prop} {id bm : Nat} {kt vt : Ty} {l : List (kt.El × vt.El)} (hid : s.h[id]? = some (.oth (.map bm kt vt l)))
  (hm : R s (.oth id) (a.eval m)) {av : AV} (hk : R s av (a.eval k)) {ti tk te : TI} {kT e : TypeId} (h1 : lk tb T = some ti) (h2 : ti.kind = .map kT e) (h3 : lk tb kT = some tk) (h4 : lk tb e = some te) (h5 : tk.code = some kt) {key : kt.El} (h6 : valD kt av = some key) {z : AV} (h7 : zeroV te = some z)
  (h : lookP (findK l key) fun r => match r with | some x => fin (ansM okb (avV vt x) true) s.h | none => fin (ansM okb z false) s.h) : MG P o a s fin := by
 obtain ⟨hσ, hkt, es, hb, hsz, hes, hnd⟩ := hok.obj id _ hid
 simp only [R] at hm
 have hmv := hm.2.2 _ hid
 rw [hσ] at hmv
 have hkv := valD_key kt av key _ hkt h6 hk
 obtain ⟨d, hd, hisk⟩ := isKey_of (P := P) (T := kT) hkt ((tb_und hT h3).code kt h5).2
 obtain ⟨cz, hz, hzR⟩ := zeroV_R hT h4 h7 s
 have hu := map_kind hT h1 h2
 have hkeys : ∀ x ∈ es.toList, IsKey d x.key := by
  intro x hx
  obtain ⟨i, hi⟩ := List.mem_iff_getElem?.1 hx
  have hi' : es[i]? = some x := by simpa using hi
  have hil : i < l.length := by
   have := (Array.getElem?_eq_some_iff.1 hi').1
   omega
  obtain ⟨e1, _⟩ := hes i x _ hi' (List.getElem?_eq_getElem hil)
  rw [e1]
  exact hisk _
 have hke : execOp a.eval o = (do pure (.value (← Instr.lookup T (a.eval m) (a.eval k) okb))) := by unfold execOp; simp only [ho]
 have hkk : IsKey d (a.eval k) := by rw [hkv]; exact hisk key
 obtain ⟨p1, p2⟩ := h
 rcases findNow_spec hkk es.toList 0 hkeys with ⟨f1, f2⟩ | ⟨j, en, f1, f2, f3⟩
 ·have hno := find_no (vt := vt) hkt (l := l) (k := key) (by
   intro x hx
   obtain ⟨i, hi⟩ := List.mem_iff_getElem?.1 hx
   have hil : i < es.size := by
    have := (List.getElem?_eq_some_iff.1 hi).1
    omega
   obtain ⟨e1, _⟩ := hes i _ x (Array.getElem?_eq_getElem hil) hi
   rw [← e1, ← hkv]
   exact f2 _ (by simp))
  refine ⟨_, _, s, .inl ?_, Step.refl s, hok, ansM_R hzR false, p2 hno.1⟩
  rw [hke, Sem.run_bind, hmv, run_lookup hu hd hb hkk okb f1 hz]
  rfl
 ·have hj : es[j]? = some en := by simpa using f2
  have hjl : j < l.length := by
   have := (Array.getElem?_eq_some_iff.1 hj).1
   omega
  obtain ⟨e1, e2, _⟩ := hes j en _ hj (List.getElem?_eq_getElem hjl)
  have hyes := find_yes (vt := vt) hkt (k := key) (List.getElem?_eq_getElem hjl) (by rw [← e1, f3, hkv]) hnd
  refine ⟨_, _, s, .inl ?_, Step.refl s, hok, ansM_R (avV_R vt _ _ e2) true, p1 _ hyes.1⟩
  rw [hke, Sem.run_bind, hmv, run_lookup hu hd hb hkk okb f1 hz]
  rfl
theorem makeMap_MG {s : St} (hok : Ok s) {o : Oper} {a : Act} {T : TypeId} (ho : o.op = .makeMap T none) {fin : AV → Hp → Prop} {kt vt : Ty} (hk : keyTy kt = true)
  (h : allP fun bm => fin (.oth s.h.length) (put s.h s.h.length (.oth (.map bm kt vt [])))) : MG P o a s fin := by
 obtain ⟨h⟩ := h
 have hke : execOp a.eval o = (do pure (.value (← Instr.makeMap T none))) := by unfold execOp; simp only [ho]; rfl
 have hf : Free s.h s.h.length := .inl rfl
 have hw := Grew.alloc s.w (.map #[] 0)
 have hb : ∀ b, blkOf (.map (some s.w.heap.size)) = some b → s.w.heap.size ≤ b := by
  intro b hb
  cases hb
  exact Nat.le_refl _
 have hobj : ObjR (s.new s.h.length (.oth (.map s.w.heap.size kt vt [])) (.map (some s.w.heap.size)) (s.w.alloc (.map #[] 0))) s.h.length (.oth (.map s.w.heap.size kt vt [])) := by
  refine ⟨by simp only [St.new, upd_same], hk, #[], (heap_alloc s.w _).1, rfl, ?_, by simp⟩
  intro i e x hi
  simp at hi
 refine ⟨.oth s.h.length, .map (some s.w.heap.size), s.new s.h.length (.oth (.map s.w.heap.size kt vt [])) (.map (some s.w.heap.size)) (s.w.alloc (.map #[] 0)), .inl ?_, St.new_step hf hw hb, St.new_ok hok hf hw hb hobj, ?_, h s.w.heap.size⟩
 ·rw [hke, Sem.run_bind]
  simp [Instr.makeMap, Result.andThen, St.new]
 ·simp only [R]
  refine ⟨?_, rfl, fun o _ => by simp only [St.new, upd_same]⟩
  unfold kn
  simp only [St.new]
  rw [put_same hf]
theorem putL_get {kt vt : Ty} {l : List (kt.El × vt.El)} {k : kt.El} {y : vt.El} (h : hasK l k = true) (i : Nat) : (putL l k y)[i]? = (l[i]?).map fun e => if eqT kt e.1 k then (k, y) else e := by
 unfold putL
 rw [h]
 simp only [List.getElem?_map]
theorem update_MG (hT : TbOk P tb) {s : St} (hok : Ok s) {o : Oper} {a : Act} {T : TypeId} {m k v : Operand} (ho : o.op = .mapUpdate T m k v) {fin : AV → Hp → Prop} {id bm : Nat} {kt vt : Ty} {l : List (kt.El × vt.El)} (hid : s.h[id]? = some (.oth (.map bm kt vt l)))
  (hm : R s (.oth id) (a.eval m)) {av : AV} (hk : R s av (a.eval k)) {bv : AV} (hv : R s bv (a.eval v)) {ti tk : TI} {kT e : TypeId} (h1 : lk tb T = some ti) (h2 : ti.kind = .map kT e) (h3 : lk tb kT = some tk) (h5 : tk.code = some kt) {key : kt.El} (h6 : valD kt av = some key) {y : vt.El} (h7 : valD vt bv = some y)
  (h : fin .und (put s.h id (.oth (.map bm kt vt (putL l key y))))) : MG P o a s fin := by
 obtain ⟨hσ, hkt, es, hb, hsz, hes, hnd⟩ := hok.obj id _ hid
 simp only [R] at hm
 have hmv := hm.2.2 _ hid
 rw [hσ] at hmv
 have hkv := valD_key kt av key _ hkt h6 hk
 have hvv := valD_RV vt bv y _ h7 hv
 obtain ⟨d, hd, hisk⟩ := isKey_of (P := P) (T := kT) hkt ((tb_und hT h3).code kt h5).2
 have hu := map_kind hT h1 h2
 have hkeys : ∀ x ∈ es.toList, IsKey d x.key := by
  intro x hx
  obtain ⟨i, hi⟩ := List.mem_iff_getElem?.1 hx
  have hi' : es[i]? = some x := by simpa using hi
  have hil : i < l.length := by
   have := (Array.getElem?_eq_some_iff.1 hi').1
   omega
  obtain ⟨e1, _⟩ := hes i x _ hi' (List.getElem?_eq_getElem hil)
  rw [e1]
  exact hisk _
 have hke : execOp a.eval o = (do Instr.mapUpdate T (a.eval m) (a.eval k) (a.eval v); pure .skip) := by unfold execOp; simp only [ho]
 have hkk : IsKey d (a.eval k) := by rw [hkv]; exact hisk key
 have hlt : id < s.h.length := (List.getElem?_eq_some_iff.1 hid).1
 have hput : put s.h id (.oth (.map bm kt vt (putL l key y))) = s.h.set id (.oth (.map bm kt vt (putL l key y))) := if_pos hlt
 have hblt : bm < s.w.heap.size := (Array.getElem?_eq_some_iff.1 hb).1
 have fin2 : ∀ es' : Array MapEntry, (Instr.mapUpdate T (.map (some bm)) (a.eval k) (a.eval v)).run P s.w = .ok () { s.w with heap := s.w.heap.setIfInBounds bm (.map es' es'.size) } → es'.size = (putL l key y).length →
   (∀ (i : Nat) (en : MapEntry) (x : kt.El × vt.El), es'[i]? = some en → (putL l key y)[i]? = some x → en.key = keyV kt x.1 ∧ RV s vt x.2 en.val ∧ en.born = i) → ((putL l key y).map fun x => keyV kt x.1).Nodup → MG P o a s fin := by
  intro es' hrun q1 q2 q3
  have hgb : Gb s.w { s.w with heap := s.w.heap.setIfInBounds bm (.map es' es'.size) } (blkOf (s.σ id)) := by
   rw [hσ]
   refine ⟨rfl, rfl, rfl, Nat.le_refl _, by simp, fun j _ hj => ?_⟩
   exact (heap_set hb).2 j (fun e => hj (by rw [e]; rfl))
  have hbb : ∀ b, blkOf (s.σ id) = some b → blkOf (s.σ id) = some b ∨ s.w.heap.size ≤ b := fun b h => .inl h
  have hst := St.turn_step hid (.oth _ (.map bm kt vt (putL l key y)) _) hgb hbb
  have hobj : ObjR (s.turn id (.oth (.map bm kt vt (putL l key y))) (s.σ id) { s.w with heap := s.w.heap.setIfInBounds bm (.map es' es'.size) }) id (.oth (.map bm kt vt (putL l key y))) := by
   refine ⟨by simp only [St.turn, upd_same]; exact hσ, hkt, es', (heap_set hb).1, q1, fun i en x hi hx => ?_, q3⟩
   obtain ⟨r1, r2, r3⟩ := q2 i en x hi hx
   exact ⟨r1, RV_mono hst vt x.2 _ r2, r3⟩
  refine ⟨.und, undef, _, .inr ⟨?_, rfl⟩, hst, St.turn_ok hok hid (.oth _ _ _) hgb hbb hobj, by simp only [R], by rw [hput] at h; exact h⟩
  rw [hke, Sem.run_bind, hmv, hrun]
  rfl
 rcases findNow_spec hkk es.toList 0 hkeys with ⟨f1, f2⟩ | ⟨j, en, f1, f2, f3⟩
 ·have hno := find_no (vt := vt) hkt (l := l) (k := key) (by
   intro x hx
   obtain ⟨i, hi⟩ := List.mem_iff_getElem?.1 hx
   have hil : i < es.size := by
    have := (List.getElem?_eq_some_iff.1 hi).1
    omega
   obtain ⟨e1, _⟩ := hes i _ x (Array.getElem?_eq_getElem hil) hi
   rw [← e1, ← hkv]
   exact f2 _ (by simp))
  have hpl : putL l key y = l ++ [(key, y)] := by unfold putL; rw [hno.2]
  refine fin2 (es.push { key := a.eval k, val := a.eval v, born := es.size }) ?_ ?_ ?_ ?_
  ·simp [Instr.mapUpdate, run_underlying hu, run_getObj_map hb, run_checkKey hd hkk, run_findKey hd f1, run_setObj_map _ hb, Result.andThen]
  ·rw [hpl]; simp [hsz]
  ·intro i en x hi hx
   rw [hpl] at hx
   by_cases hil : i < es.size
   ·rw [Array.getElem?_push, if_neg (by omega)] at hi
    rw [List.getElem?_append_left (by omega)] at hx
    exact hes i en x hi hx
   ·have hie : i = es.size := by
     have := (Array.getElem?_eq_some_iff.1 hi).1
     simp at this
     omega
    subst hie
    rw [Array.getElem?_push, if_pos rfl] at hi
    rw [List.getElem?_append_right (by omega), hsz, Nat.sub_self] at hx
    cases hi
    cases hx
    exact ⟨hkv, hvv, rfl⟩
  ·rw [hpl, List.map_append, List.nodup_append]
   refine ⟨hnd, by simp, ?_⟩
   intro q hq r hr he
   obtain ⟨x, hx, rfl⟩ := List.mem_map.1 hq
   simp only [List.map_cons, List.map_nil, List.mem_singleton] at hr
   subst hr
   obtain ⟨i, hi⟩ := List.mem_iff_getElem?.1 hx
   have hil : i < es.size := by
    have := (List.getElem?_eq_some_iff.1 hi).1
    omega
   obtain ⟨e1, _⟩ := hes i _ x (Array.getElem?_eq_getElem hil) hi
   exact f2 es[i] (by simp) (by rw [e1, he, hkv])
 ·have hj : es[j]? = some en := by simpa using f2
  have hjl : j < l.length := by
   have := (Array.getElem?_eq_some_iff.1 hj).1
   omega
  obtain ⟨e1, e2, e3⟩ := hes j en _ hj (List.getElem?_eq_getElem hjl)
  have hjk : keyV kt (l[j]).1 = keyV kt key := by rw [← e1, f3, hkv]
  have hyes := find_yes (vt := vt) hkt (k := key) (List.getElem?_eq_getElem hjl) hjk hnd
  have hlk : (l[j]).1 = key := keyV_inj hkt hjk
  have hkeq : (putL l key y).map (fun x => keyV kt x.1) = l.map fun x => keyV kt x.1 := by
   apply List.ext_getElem?
   intro i
   rw [List.getElem?_map, List.getElem?_map, putL_get hyes.2]
   cases l[i]? with
   | none => rfl
   | some x =>
    simp only [Option.map_some]
    by_cases hx : eqT kt x.1 key = true
    ·rw [if_pos hx, (eqT_key hkt).1 hx]
    ·rw [if_neg hx]
  refine fin2 (es.modify j fun e => { e with key := a.eval k, val := a.eval v }) ?_ ?_ ?_ (by rw [hkeq]; exact hnd)
  ·have hj' : es[0 + j]? = some en := by rw [Nat.zero_add]; exact hj
   simp [Instr.mapUpdate, run_underlying hu, run_getObj_map hb, run_checkKey hd hkk, run_findKey hd f1, hj, f3, run_keyThatStays hkk, run_setObj_map _ hb, Result.andThen]
  ·have := congrArg List.length hkeq
   simp only [List.length_map] at this
   simp [hsz, this]
  ·intro i en' x hi hx
   rw [putL_get hyes.2] at hx
   rw [Array.getElem?_modify] at hi
   by_cases hij : j = i
   ·subst hij
    rw [if_pos rfl, hj] at hi
    cases hi
    rw [List.getElem?_eq_getElem hjl] at hx
    simp only [Option.map_some, Option.some.injEq] at hx
    rw [if_pos ((eqT_key hkt).2 hlk)] at hx
    subst hx
    exact ⟨hkv, hvv, e3⟩
   ·rw [if_neg hij] at hi
    have hil : i < l.length := by
     have := (Array.getElem?_eq_some_iff.1 hi).1
     omega
    rw [List.getElem?_eq_getElem hil] at hx
    simp only [Option.map_some, Option.some.injEq] at hx
    have hne : ¬ eqT kt (l[i]).1 key = true := by
     intro hc
     have hce := (eqT_key hkt).1 hc
     refine hij ((List.getElem?_inj (by simpa using hjl) hnd).1 ?_)
     rw [List.getElem?_map, List.getElem?_map, List.getElem?_eq_getElem hil, List.getElem?_eq_getElem hjl]
     simp only [Option.map_some, hce, hlk]
    rw [if_neg hne] at hx
    subst hx
    exact hes i en' _ hi (List.getElem?_eq_getElem hil)
theorem range_MG (hT : TbOk P tb) {s : St} (hok : Ok s) {o : Oper} {a : Act} {T : TypeId} {m : Operand} (ho : o.op = .range T m) {fin : AV → Hp → Prop} {id bm : Nat} {kt vt : Ty} {l : List (kt.El × vt.El)} (hid : s.h[id]? = some (.oth (.map bm kt vt l)))
  (hm : R s (.oth id) (a.eval m)) {ti : TI} {kT e : TypeId} (h1 : lk tb T = some ti) (h2 : ti.kind = .map kT e)
  (h : fin (.oth s.h.length) (put s.h s.h.length (.oth (.iter id bm l.length [])))) : MG P o a s fin := by
 obtain ⟨hσ, hkt, es, hb, hsz, hes, hnd⟩ := hok.obj id _ hid
 simp only [R] at hm
 have hmv := hm.2.2 _ hid
 rw [hσ] at hmv
 have hu := map_kind hT h1 h2
 have hke : execOp a.eval o = (do pure (.value (← Instr.range T (a.eval m)))) := by unfold execOp; simp only [ho]
 have hf : Free s.h s.h.length := .inl rfl
 have hw := Grew.alloc s.w (.mapIter (some bm) es.size #[] es.size)
 have hbb : ∀ b, blkOf (.pointer (some ⟨s.w.heap.size, 0, none⟩)) = some b → s.w.heap.size ≤ b := by
  intro b hb
  cases hb
  exact Nat.le_refl _
 have hobj : ObjR (s.new s.h.length (.oth (.iter id bm l.length [])) (.pointer (some ⟨s.w.heap.size, 0, none⟩)) (s.w.alloc (.mapIter (some bm) es.size #[] es.size))) s.h.length (.oth (.iter id bm l.length [])) :=
  ⟨s.w.heap.size, by simp only [St.new, upd_same], by rw [← hsz]; exact (heap_alloc s.w _).1⟩
 refine ⟨.oth s.h.length, .pointer (some ⟨s.w.heap.size, 0, none⟩), _, .inl ?_, St.new_step hf hw hbb, St.new_ok hok hf hw hbb hobj, ?_, h⟩
 ·rw [hke, Sem.run_bind, hmv]
  simp [Instr.range, run_underlying hu, run_getObj_map hb, Result.andThen, St.new]
 ·simp only [R]
  refine ⟨?_, rfl, fun o _ => by simp only [St.new, upd_same]⟩
  unfold kn
  simp only [St.new]
  rw [put_same hf]
theorem left_mem {es : Array MapEntry} {seen : List Nat} (hborn : ∀ (i : Nat) (e : MapEntry), es[i]? = some e → e.born = i) {e : MapEntry} : e ∈ (leftOf es seen.reverse.toArray).toList ↔ ∃ i, es[i]? = some e ∧ i ∉ seen := by
 unfold leftOf
 rw [Array.toList_filter, List.mem_filter]
 constructor
 ·rintro ⟨h1, h2⟩
  obtain ⟨i, hi⟩ := List.mem_iff_getElem?.1 h1
  have hi' : es[i]? = some e := by simpa using hi
  refine ⟨i, hi', fun hc => ?_⟩
  rw [hborn i e hi'] at h2
  simp [hc] at h2
 ·rintro ⟨i, h1, h2⟩
  refine ⟨List.mem_of_getElem? (i := i) (by simpa using h1), ?_⟩
  rw [hborn i e h1]
  simp [h2]
theorem next_MG {s : St} (hok : Ok s) {o : Oper} {a : Act} {it : Operand} (ho : o.op = .next it false) {fin : AV → Hp → Prop} {id mid bm n : Nat} {seen : List Nat} {kt vt : Ty} {l : List (kt.El × vt.El)} (hid : s.h[id]? = some (.oth (.iter mid bm n seen)))
  (hmid : s.h[mid]? = some (.oth (.map bm kt vt l))) (hn : n = l.length) (hi : R s (.oth id) (a.eval it))
  (h : nextP l seen (fun i x => fin (.tup [.bool true, avV kt x.1, avV vt x.2]) (put s.h id (.oth (.iter mid bm n (i :: seen))))) (fin (.tup [.bool false]) s.h)) : MG P o a s fin := by
 obtain ⟨hσ, hkt, es, hb, hsz, hes, hnd⟩ := hok.obj mid _ hmid
 obtain ⟨r, hσi, hr⟩ := hok.obj id _ hid
 simp only [R] at hi
 have hiv := hi.2.2 _ hid
 rw [hσi] at hiv
 have hke : execOp a.eval o = (do pure (.value (← Instr.next (a.eval it) false o.type))) := by unfold execOp; simp only [ho]
 have hborn : ∀ (i : Nat) (e : MapEntry), es[i]? = some e → e.born = i := fun i e hi => by
  have hil : i < l.length := by
   have := (Array.getElem?_eq_some_iff.1 hi).1
   omega
  exact (hes i e _ hi (List.getElem?_eq_getElem hil)).2.2
 have hold : ∀ x ∈ es.toList, x.born < n := by
  intro x hx
  obtain ⟨i, hi⟩ := List.mem_iff_getElem?.1 hx
  have hi' : es[i]? = some x := by simpa using hi
  rw [hborn i x hi']
  have := (Array.getElem?_eq_some_iff.1 hi').1
  omega
 obtain ⟨p1, p2⟩ := h
 have hlt : id < s.h.length := (List.getElem?_eq_some_iff.1 hid).1
 rcases run_next_at (P := P) s.w o.type r bm n n seen.reverse.toArray es es.size hr hb hold (Nat.le_refl _) with ⟨k1, k2⟩ | ⟨e, he, w1, hw1, k2⟩
 ·refine ⟨.tup [.bool false], .tuple #[.bool false], s, .inl ?_, Step.refl s, hok, ?_, p2 fun i hi => ?_⟩
  ·rw [hke, Sem.run_bind, hiv, k2]
   rfl
  ·simp only [R]
   refine ⟨[.bool false], rfl, ?_⟩
   simp only [RL]
   exact ⟨.bool false, [], rfl, by simp only [R], rfl⟩
  ·rcases Classical.em (i ∈ seen) with h9 | h9
   ·exact h9
   ·exfalso
    have hil : i < es.size := by omega
    have hm := (left_mem (seen := seen) hborn).2 ⟨i, Array.getElem?_eq_getElem hil, h9⟩
    rw [Array.eq_empty_of_size_eq_zero k1] at hm
    simp at hm
 ·obtain ⟨i, hi1, hi2⟩ := (left_mem hborn).1 he
  have hil : i < l.length := by
   have := (Array.getElem?_eq_some_iff.1 hi1).1
   omega
  obtain ⟨e1, e2, e3⟩ := hes i e _ hi1 (List.getElem?_eq_getElem hil)
  have hfin := p1 i _ (List.getElem?_eq_getElem hil) hi2
  have hput : put s.h id (.oth (.iter mid bm n (i :: seen))) = s.h.set id (.oth (.iter mid bm n (i :: seen))) := if_pos hlt
  rw [hput] at hfin
  have hsz1 : w1.heap = s.w.heap := by rcases hw1 with rfl | rfl <;> rfl
  have hr1 : w1.heap[r]? = some (.mapIter (some bm) n seen.reverse.toArray n) := by rw [hsz1]; exact hr
  have hgb : Gb s.w (setBlock w1 r (.mapIter (some bm) n (seen.reverse.toArray.push e.born) es.size)) (blkOf (s.σ id)) := by
   rw [hσi]
   have hd : s.w.drawn ≤ w1.drawn := by rcases hw1 with rfl | rfl <;> first | exact Nat.le_refl _ | exact Nat.le_succ _
   refine ⟨by rcases hw1 with rfl | rfl <;> rfl, by rcases hw1 with rfl | rfl <;> rfl, by rcases hw1 with rfl | rfl <;> rfl, hd, by simp [setBlock, hsz1], fun j _ hj => ?_⟩
   have := (heap_set (o' := Obj.mapIter (some bm) n (seen.reverse.toArray.push e.born) es.size) hr1).2 j (fun e => hj (by rw [e]; rfl))
   rw [hsz1] at this
   simpa [setBlock, hsz1] using this
  have hbb : ∀ b, blkOf (s.σ id) = some b → blkOf (s.σ id) = some b ∨ s.w.heap.size ≤ b := fun b h => .inl h
  have hst := St.turn_step hid (.oth _ (.iter mid bm n (i :: seen)) _) hgb hbb
  have hobj : ObjR (s.turn id (.oth (.iter mid bm n (i :: seen))) (s.σ id) (setBlock w1 r (.mapIter (some bm) n (seen.reverse.toArray.push e.born) es.size))) id (.oth (.iter mid bm n (i :: seen))) := by
   refine ⟨r, by simp only [St.turn, upd_same]; exact hσi, ?_⟩
   have h8 := (heap_set (o' := Obj.mapIter (some bm) n (seen.reverse.toArray.push e.born) es.size) hr1).1
   have h7 : (i :: seen).reverse.toArray = seen.reverse.toArray.push e.born := by rw [e3]; simp
   have h6 : es.size = n := by omega
   rw [h7]
   rw [h6] at h8
   simp only [St.turn, setBlock, h6]
   exact h8
  refine ⟨_, .tuple #[.bool true, e.key, e.val], _, .inl ?_, hst, St.turn_ok hok hid (.oth _ _ _) hgb hbb hobj, ?_, hfin⟩
  ·rw [hke, Sem.run_bind, hiv, k2]
   rfl
  ·simp only [R]
   refine ⟨[.bool true, e.key, e.val], rfl, ?_⟩
   simp only [RL]
   refine ⟨.bool true, _, rfl, by simp only [R], e.key, _, rfl, ?_, e.val, _, rfl, R_mono hst _ _ (avV_R vt _ _ e2), rfl⟩
   rw [e1]
   exact R_mono hst _ _ (avV_R kt _ _ (keyV_RV kt _ hkt))
theorem entry_MG {s : St} (hok : Ok s) {o : Oper} {a : Act} {it : Operand} (ho : o.op = .entry it) {fin : AV → Hp → Prop} {id mid bm n i : Nat} {seen : List Nat} {kt vt : Ty} {l : List (kt.El × vt.El)} (hid : s.h[id]? = some (.oth (.iter mid bm n (i :: seen))))
  (hmid : s.h[mid]? = some (.oth (.map bm kt vt l))) (hn : n = l.length) (hi : R s (.oth id) (a.eval it))
  (h : idx l (i : Int) fun x => fin (.tup [avV kt x.1, avV vt x.2]) s.h) : MG P o a s fin := by
 obtain ⟨hσ, hkt, es, hb, hsz, hes, hnd⟩ := hok.obj mid _ hmid
 obtain ⟨r, hσi, hr⟩ := hok.obj id _ hid
 simp only [R] at hi
 have hiv := hi.2.2 _ hid
 rw [hσi] at hiv
 have hke : execOp a.eval o = (do pure (.value (← Instr.entry (a.eval it)))) := by unfold execOp; simp only [ho]
 obtain ⟨x, _, hx, hfin⟩ := idx_elim h
 rw [Int.toNat_natCast] at hx
 have hil : i < es.size := by
  have := (List.getElem?_eq_some_iff.1 hx).1
  omega
 obtain ⟨e1, e2, e3⟩ := hes i _ x (Array.getElem?_eq_getElem hil) hx
 have hnodup : (es.toList.map (·.born)).Nodup := by
  have : es.toList.map (·.born) = List.range es.size := by
   apply List.ext_getElem?
   intro j
   by_cases hj : j < es.size
   ·have hjl : j < l.length := by omega
    have := (hes j _ _ (Array.getElem?_eq_getElem hj) (List.getElem?_eq_getElem hjl)).2.2
    simp [hj, this]
   ·simp [hj]
  rw [this]
  exact List.nodup_range
 have hr' : s.w.heap[r]? = some (.mapIter (some bm) n (seen.reverse.toArray.push (es[i]).born) es.size) := by
  have h7 : (i :: seen).reverse.toArray = seen.reverse.toArray.push (es[i]).born := by rw [e3]; simp
  have h6 : es.size = n := by omega
  rw [← h7, h6]
  exact hr
 refine ⟨_, .tuple #[(es[i]).key, (es[i]).val], s, .inl ?_, Step.refl s, hok, ?_, hfin⟩
 ·rw [hke, Sem.run_bind, hiv, run_entry_at (P := P) s.w r bm n seen.reverse.toArray es es.size (es[i]) hr' hb (by simp) hnodup]
  rfl
 ·simp only [R]
  refine ⟨[(es[i]).key, (es[i]).val], rfl, ?_⟩
  simp only [RL]
  refine ⟨(es[i]).key, _, rfl, ?_, (es[i]).val, _, rfl, avV_R vt _ _ e2, rfl⟩
  rw [e1]
  exact avV_R kt _ _ (keyV_RV kt _ hkt)
theorem rows_rep {s : St} {t : Ty} {z : t.El} {zs : List Value} (h : RL s (flat t z) zs) : ∀ n, RL s (rowsA t (List.replicate n z)) (List.replicate n zs).flatten
 | 0 => by simp [rowsA, RL]
 | n + 1 => by
  have ih := rows_rep h n
  simp only [rowsA, List.replicate_succ, List.flatMap_cons, List.flatten_cons] at ih ⊢
  exact RL_append h ih
theorem rep_get {zs : List Value} (hz : 0 < zs.length) : ∀ (n j : Nat), j < n * zs.length → (List.replicate n zs).flatten[j]? = zs[j % zs.length]?
 | 0, j, h => by omega
 | n + 1, j, h => by
  rw [List.replicate_succ, List.flatten_cons]
  by_cases hj : j < zs.length
  ·rw [List.getElem?_append_left hj, Nat.mod_eq_of_lt hj]
  ·have h2 : j < n * zs.length + zs.length := by rw [← Nat.succ_mul]; exact h
   have e := Nat.mod_eq_sub_mod (a := j) (b := zs.length) (by omega)
   rw [List.getElem?_append_right (by omega), rep_get hz n (j - zs.length) (by omega), ← e]
theorem zero_rep {z : Array Value} (hz : 0 < z.size) (n : Nat) : (Builtin.zeroCells z n).toList = (List.replicate n z.toList).flatten := by
 have hl : ((List.replicate n z.toList).flatten).length = n * z.size := by simp
 apply List.ext_getElem?
 intro j
 by_cases hj : j < n * z.size
 ·rw [rep_get (by simpa using hz) n j (by simpa using hj)]
  unfold Builtin.zeroCells
  have hm : j % z.size < z.size := Nat.mod_lt _ hz
  simp [hj, hm]
 ·rw [List.getElem?_eq_none (by simp [Builtin.zeroCells]; omega), List.getElem?_eq_none (by rw [hl]; omega)]
theorem clr_core (hT : TbOk P tb) {s : St} (hok : Ok s) {o : Oper} {a : Act} {c : Call} (ho : o.op = .call c) (hc : c.callee = .builtin .clear) {x : Operand} {T : TypeId} (hargs : c.args.toList = [x]) (htys : c.argTypes.toList = [T]) {fin : AV → Hp → Prop}
  {e : TypeId} {ti te : TI} (hl : lk tb T = some ti) (hk : ti.kind = .sl e) (he : lk tb e = some te) {t : Ty} (hcd : te.code = some t) {z : t.El} (hz0 : zeroEl t te = some z) {id : Nat} {l : List t.El} {f : Bool} {g : Nat} (hid : s.h[id]? = some (.arr e t l f g))
  {base : Option Addr} {cap' lo n : Nat} (hle : lo + n ≤ l.length) (hx : a.eval x = .slice base n cap') (hb : 0 < n → ∃ b len cap, s.σ id = .slice (some ⟨b, 0, none⟩) len cap ∧ base = some ⟨b, lo * t.size, none⟩)
  (h : fin (.tup []) (put s.h id (.arr e t (l.take lo ++ (List.replicate n z ++ l.drop (lo + n))) f g))) : MG P o a s fin := by
 have hu := slice_und hT hl hk
 obtain ⟨ie, zc, hie, hsz, hby, hz, hzf⟩ := (tb_und hT he).info
 have hcs := ((tb_und hT he).code t hcd).1
 have hpos := (tb_und hT he).pos
 have hlt : id < s.h.length := (List.getElem?_eq_some_iff.1 hid).1
 have ha : c.args = #[x] := by have := congrArg List.toArray hargs; simpa using this
 have ht : c.argTypes = #[T] := by have := congrArg List.toArray htys; simpa using this
 have hrun : (execOp a.eval o).run P s.w = ((do pure (.value (← Builtin.clear_ #[T] o.type #[a.eval x]))) : Sem Next).run P s.w := by
  unfold execOp
  simp only [ho, resolve, hc, ha, ht, Sem.run_bind, Sem.run_pure, Result.andThen_ok, invoke, builtin]
  simp
 have htup : ∀ s' : St, R s' (.tup []) (.tuple #[]) := fun s' => by simp only [R]; exact ⟨[], rfl, by simp only [RL]⟩
 have hrep : (List.replicate n z).length = n := List.length_replicate ..
 rcases Nat.eq_zero_or_pos n with hn | hn
 ·subst hn
  have hnil : l.take lo ++ (List.replicate 0 z ++ l.drop (lo + 0)) = l := by simp
  rw [hnil] at h
  have hself : put s.h id (.arr e t l f g) = s.h := by
   unfold put
   rw [if_pos hlt]
   obtain ⟨hlt2, he2⟩ := List.getElem?_eq_some_iff.1 hid
   rw [← he2]
   exact List.set_getElem_self hlt2
  rw [hself] at h
  refine ⟨_, .tuple #[], s, .inl ?_, Step.refl s, hok, htup s, h⟩
  rw [hrun, hx]
  cases base <;> simp [Builtin.clear_, run_underlying hu]
 ·obtain ⟨b, len, cap, hσ, rfl⟩ := hb hn
  obtain ⟨hrlz, honez⟩ := zf_RL (s := s) hzf
  have hzl : zc.cells.toList.length = t.size := by
   have := zero_size hT he hcd hie hz
   simpa using this
  have hflat : RL s (flat t z) zc.cells.toList := by
   have hrt := dec_RT t te.zero z (fun j => zc.cells.toList[j]?) hz0 (RC_of_RL hrlz honez (fun _ _ hv => hv))
   obtain ⟨us, k1, k2, k3⟩ := RC_vals (RT_RC t z _ hrt)
   have hus : us.length = zc.cells.toList.length := by rw [RL_vals k1, flat_length, hzl]
   have : us = zc.cells.toList := by
    apply List.ext_getElem?
    intro j
    by_cases hj : j < us.length
    ·rw [List.getElem?_eq_getElem hj]
     exact (k3 j _ (List.getElem?_eq_getElem hj)).symm
    ·rw [List.getElem?_eq_none (by omega), List.getElem?_eq_none (by omega)]
   rw [← this]
   exact k1
  have hnews := rows_rep hflat n
  have hone : ∀ u ∈ (List.replicate n zc.cells.toList).flatten, u.oneCell' = true := by
   intro u hu
   obtain ⟨w, hw, hu2⟩ := List.mem_flatten.1 hu
   rw [(List.mem_replicate.1 hw).2] at hu2
   exact honez u hu2
  obtain ⟨cur, hg1, hg2, hst, hok'⟩ := write_rows hok hid hσ hnews hone (p := lo) (by rw [hrep]; exact hle)
  have hstr := run_storeCells_at P b (lo * t.size) e (List.replicate n zc.cells.toList).flatten 0 cur s.w hg1 (by simpa using hg2) hone
  simp only [Nat.add_zero] at hstr
  have hzsz : 0 < zc.cells.size := by
   have : zc.cells.size = t.size := by simpa using hzl
   omega
  have hzr := zero_rep hzsz n
  rw [hrep] at hst hok'
  have hput : put s.h id (.arr e t (l.take lo ++ (List.replicate n z ++ l.drop (lo + n))) f g) = s.h.set id (.arr e t (l.take lo ++ (List.replicate n z ++ l.drop (lo + n))) f g) := if_pos hlt
  rw [hput] at h
  refine ⟨_, .tuple #[], _, .inl ?_, hst, hok', htup _, h⟩
  have hzv : (zeroValue e).run P s.w = .ok zc s.w := by simp [zeroValue, typeInfo, hie, hz]
  obtain ⟨n', rfl⟩ : ∃ n', n = n' + 1 := ⟨n - 1, by omega⟩
  rw [hrun, hx]
  simp [Builtin.clear_, run_underlying hu, hzv, hzr, hstr, St.turn]
  try rfl
theorem clr_MG (hT : TbOk P tb) {s : St} (hok : Ok s) {o : Oper} {a : Act} {c : Call} (ho : o.op = .call c) (hc : c.callee = .builtin .clear) {x : Operand} {T : TypeId} (hargs : c.args.toList = [x]) (htys : c.argTypes.toList = [T]) {fin : AV → Hp → Prop}
  {e : TypeId} {ti te : TI} (hl : lk tb T = some ti) (hk : ti.kind = .sl e) (he : lk tb e = some te) {t : Ty} (hcd : te.code = some t) {z : t.El} (hz0 : zeroEl t te = some z) {av : AV} (hx : R s av (a.eval x))
  (h : clrA s.h t e z av fun h => fin (.tup []) h) : MG P o a s fin := by
 have hu := slice_und hT hl hk
 have ha : c.args = #[x] := by have := congrArg List.toArray hargs; simpa using this
 have ht : c.argTypes = #[T] := by have := congrArg List.toArray htys; simpa using this
 have hrun : (execOp a.eval o).run P s.w = ((do pure (.value (← Builtin.clear_ #[T] o.type #[a.eval x]))) : Sem Next).run P s.w := by
  unfold execOp
  simp only [ho, resolve, hc, ha, ht, Sem.run_bind, Sem.run_pure, Result.andThen_ok, invoke, builtin]
  simp
 have htup : ∀ s' : St, R s' (.tup []) (.tuple #[]) := fun s' => by simp only [R]; exact ⟨[], rfl, by simp only [RL]⟩
 unfold clrA at h
 split at h
 ·rename_i id g n
  unfold clr1 at h
  split at h
  ·rename_i e' t' l0 f g' hid
   split at h
   ·rename_i l hcast hbeq
    obtain ⟨hte, hl0⟩ := castL_eq hcast
    subst hte
    have hl0' : l0 = l := hl0
    subst hl0'
    have := Nat.eq_of_beq_eq_true hbeq
    subst this
    obtain ⟨⟨rfl, hn⟩, h9⟩ := need_elim h
    rw [putK_eq] at h9
    simp only [R] at hx
    obtain ⟨_, base, cap, hx, hd3⟩ := hx
    obtain ⟨_, hd2⟩ := hd3 e' t' l0 f g' hid
    obtain ⟨_, len, hσ⟩ := hd2 rfl
    refine clr_core hT hok ho hc hargs htys hl hk he hcd hz0 hid hn hx (fun hpos => ?_) h9
    obtain ⟨_, _, hrc⟩ := own_RC hok hid hσ
    obtain ⟨b, rfl, _⟩ := hrc (by rintro rfl; simp at hn; omega)
    exact ⟨b, len, cap, hσ, by simp⟩
   ·exact h.elim
  ·exact h.elim
 ·rename_i id g lo n
  unfold clr1 at h
  split at h
  ·rename_i e' t' l0 f g' hid
   split at h
   ·rename_i l hcast hbeq
    obtain ⟨hte, hl0⟩ := castL_eq hcast
    subst hte
    have hl0' : l0 = l := hl0
    subst hl0'
    have := Nat.eq_of_beq_eq_true hbeq
    subst this
    obtain ⟨⟨rfl, hn⟩, h9⟩ := need_elim h
    rw [putK_eq] at h9
    simp only [R] at hx
    obtain ⟨_, ad, cap', hx, _, hd3⟩ := hx
    obtain ⟨_, hd2⟩ := hd3 e' t' l0 f g' hid
    obtain ⟨_, base, len, cap, hσ, hbb⟩ := hd2 rfl
    refine clr_core hT hok ho hc hargs htys hl hk he hcd hz0 hid hn hx (fun hpos => ?_) h9
    obtain ⟨b, rfl, rfl⟩ := hbb hpos
    exact ⟨b, len, cap, hσ, rfl⟩
   ·exact h.elim
  ·exact h.elim
 ·simp only [R] at hx
  refine ⟨_, .tuple #[], s, .inl ?_, Step.refl s, hok, htup s, h⟩
  rw [hrun, hx]
  simp [Builtin.clear_, run_underlying hu]
 ·simp only [R] at hx
  refine ⟨_, .tuple #[], s, .inl ?_, Step.refl s, hok, htup s, h⟩
  rw [hrun, hx]
  simp [Builtin.clear_, run_underlying hu]
 ·exact h.elim
theorem lookupD_MG (hT : TbOk P tb) {s : St} (hok : Ok s) {o : Oper} {a : Act} {T : TypeId} {m k : Operand} {okb : Bool} (ho : o.op = .lookup T m k okb) {fin : AV → Hp → Prop} {id bm : Nat} {kt vt : Ty} {l : List (kt.El × vt.El)} {bs : List Nat} {ck : Nat} (hid : s.h[id]? = some (.oth (.mapD bm kt vt l bs ck)))
  (hm : R s (.oth id) (a.eval m)) {av : AV} (hk : R s av (a.eval k)) {ti tk te : TI} {kT e : TypeId} (h1 : lk tb T = some ti) (h2 : ti.kind = .map kT e) (h3 : lk tb kT = some tk) (h4 : lk tb e = some te) (h5 : tk.code = some kt) {key : kt.El} (h6 : valD kt av = some key) {z : AV} (h7 : zeroV te = some z)
  (h : lookP (findK l key) fun r => match r with | some x => fin (ansM okb (avV vt x) true) s.h | none => fin (ansM okb z false) s.h) : MG P o a s fin := by
 obtain ⟨hσ, hkt, es, hb, hsz, hes, hnd, hbl, hbn, hbk⟩ := hok.obj id _ hid
 simp only [R] at hm
 have hmv := hm.2.2 _ hid
 rw [hσ] at hmv
 have hkv := valD_key kt av key _ hkt h6 hk
 obtain ⟨d, hd, hisk⟩ := isKey_of (P := P) (T := kT) hkt ((tb_und hT h3).code kt h5).2
 obtain ⟨cz, hz, hzR⟩ := zeroV_R hT h4 h7 s
 have hu := map_kind hT h1 h2
 have hkeys : ∀ x ∈ es.toList, IsKey d x.key := by
  intro x hx
  obtain ⟨i, hi⟩ := List.mem_iff_getElem?.1 hx
  have hi' : es[i]? = some x := by simpa using hi
  have hil : i < l.length := by
   have := (Array.getElem?_eq_some_iff.1 hi').1
   omega
  obtain ⟨e1, _⟩ := hes i x _ hi' (List.getElem?_eq_getElem hil)
  rw [e1]
  exact hisk _
 have hke : execOp a.eval o = (do pure (.value (← Instr.lookup T (a.eval m) (a.eval k) okb))) := by unfold execOp; simp only [ho]
 have hkk : IsKey d (a.eval k) := by rw [hkv]; exact hisk key
 obtain ⟨p1, p2⟩ := h
 rcases findNow_spec hkk es.toList 0 hkeys with ⟨f1, f2⟩ | ⟨j, en, f1, f2, f3⟩
 ·have hno := find_no (vt := vt) hkt (l := l) (k := key) (by
   intro x hx
   obtain ⟨i, hi⟩ := List.mem_iff_getElem?.1 hx
   have hil : i < es.size := by
    have := (List.getElem?_eq_some_iff.1 hi).1
    omega
   obtain ⟨e1, _⟩ := hes i _ x (Array.getElem?_eq_getElem hil) hi
   rw [← e1, ← hkv]
   exact f2 _ (by simp))
  refine ⟨_, _, s, .inl ?_, Step.refl s, hok, ansM_R hzR false, p2 hno.1⟩
  rw [hke, Sem.run_bind, hmv, run_lookup hu hd hb hkk okb f1 hz]
  rfl
 ·have hj : es[j]? = some en := by simpa using f2
  have hjl : j < l.length := by
   have := (Array.getElem?_eq_some_iff.1 hj).1
   omega
  obtain ⟨e1, e2, _⟩ := hes j en _ hj (List.getElem?_eq_getElem hjl)
  have hyes := find_yes (vt := vt) hkt (k := key) (List.getElem?_eq_getElem hjl) (by rw [← e1, f3, hkv]) hnd
  refine ⟨_, _, s, .inl ?_, Step.refl s, hok, ansM_R (avV_R vt _ _ e2) true, p1 _ hyes.1⟩
  rw [hke, Sem.run_bind, hmv, run_lookup hu hd hb hkk okb f1 hz]
  rfl
theorem updateD_MG (hT : TbOk P tb) {s : St} (hok : Ok s) {o : Oper} {a : Act} {T : TypeId} {m k v : Operand} (ho : o.op = .mapUpdate T m k v) {fin : AV → Hp → Prop} {id bm : Nat} {kt vt : Ty} {l : List (kt.El × vt.El)} {bs : List Nat} {ck : Nat} (hid : s.h[id]? = some (.oth (.mapD bm kt vt l bs ck)))
  (hm : R s (.oth id) (a.eval m)) {av : AV} (hk : R s av (a.eval k)) {bv : AV} (hv : R s bv (a.eval v)) {ti tk : TI} {kT e : TypeId} (h1 : lk tb T = some ti) (h2 : ti.kind = .map kT e) (h3 : lk tb kT = some tk) (h5 : tk.code = some kt) {key : kt.El} (h6 : valD kt av = some key) {y : vt.El} (h7 : valD vt bv = some y)
  (hhas : hasK l key = true) (h : fin .und (put s.h id (.oth (.mapD bm kt vt (putL l key y) bs ck)))) : MG P o a s fin := by
 obtain ⟨hσ, hkt, es, hb, hsz, hes, hnd, hbl, hbn, hbk⟩ := hok.obj id _ hid
 simp only [R] at hm
 have hmv := hm.2.2 _ hid
 rw [hσ] at hmv
 have hkv := valD_key kt av key _ hkt h6 hk
 have hvv := valD_RV vt bv y _ h7 hv
 obtain ⟨d, hd, hisk⟩ := isKey_of (P := P) (T := kT) hkt ((tb_und hT h3).code kt h5).2
 have hu := map_kind hT h1 h2
 have hkeys : ∀ x ∈ es.toList, IsKey d x.key := by
  intro x hx
  obtain ⟨i, hi⟩ := List.mem_iff_getElem?.1 hx
  have hi' : es[i]? = some x := by simpa using hi
  have hil : i < l.length := by
   have := (Array.getElem?_eq_some_iff.1 hi').1
   omega
  obtain ⟨e1, _⟩ := hes i x _ hi' (List.getElem?_eq_getElem hil)
  rw [e1]
  exact hisk _
 have hke : execOp a.eval o = (do Instr.mapUpdate T (a.eval m) (a.eval k) (a.eval v); pure .skip) := by unfold execOp; simp only [ho]
 have hkk : IsKey d (a.eval k) := by rw [hkv]; exact hisk key
 have hlt : id < s.h.length := (List.getElem?_eq_some_iff.1 hid).1
 have hput : put s.h id (.oth (.mapD bm kt vt (putL l key y) bs ck)) = s.h.set id (.oth (.mapD bm kt vt (putL l key y) bs ck)) := if_pos hlt
 have hblt : bm < s.w.heap.size := (Array.getElem?_eq_some_iff.1 hb).1
 have fin2 : ∀ es' : Array MapEntry, (Instr.mapUpdate T (.map (some bm)) (a.eval k) (a.eval v)).run P s.w = .ok () { s.w with heap := s.w.heap.setIfInBounds bm (.map es' ck) } → es'.size = (putL l key y).length → es.size = es'.size →
   (∀ (i : Nat) (en : MapEntry) (x : kt.El × vt.El), es'[i]? = some en → (putL l key y)[i]? = some x → en.key = keyV kt x.1 ∧ RV s vt x.2 en.val ∧ bs[i]? = some en.born) → ((putL l key y).map fun x => keyV kt x.1).Nodup → MG P o a s fin := by
  intro es' hrun q1 q1' q2 q3
  have hgb : Gb s.w { s.w with heap := s.w.heap.setIfInBounds bm (.map es' ck) } (blkOf (s.σ id)) := by
   rw [hσ]
   refine ⟨rfl, rfl, rfl, Nat.le_refl _, by simp, fun j _ hj => ?_⟩
   exact (heap_set hb).2 j (fun e => hj (by rw [e]; rfl))
  have hbb : ∀ b, blkOf (s.σ id) = some b → blkOf (s.σ id) = some b ∨ s.w.heap.size ≤ b := fun b h => .inl h
  have hst := St.turn_step hid (.oth _ (.mapD bm kt vt (putL l key y) bs ck) _) hgb hbb
  have hobj : ObjR (s.turn id (.oth (.mapD bm kt vt (putL l key y) bs ck)) (s.σ id) { s.w with heap := s.w.heap.setIfInBounds bm (.map es' ck) }) id (.oth (.mapD bm kt vt (putL l key y) bs ck)) := by
   refine ⟨by simp only [St.turn, upd_same]; exact hσ, hkt, es', (heap_set hb).1, q1, fun i en x hi hx => ?_, q3, by rw [hbl, ← hsz, q1']; exact q1, hbn, hbk⟩
   obtain ⟨r1, r2, r3⟩ := q2 i en x hi hx
   exact ⟨r1, RV_mono hst vt x.2 _ r2, r3⟩
  refine ⟨.und, undef, _, .inr ⟨?_, rfl⟩, hst, St.turn_ok hok hid (.oth _ _ _) hgb hbb hobj, by simp only [R], by rw [hput] at h; exact h⟩
  rw [hke, Sem.run_bind, hmv, hrun]
  rfl
 rcases findNow_spec hkk es.toList 0 hkeys with ⟨f1, f2⟩ | ⟨j, en, f1, f2, f3⟩
 ·have hno := find_no (vt := vt) hkt (l := l) (k := key) (by
   intro x hx
   obtain ⟨i, hi⟩ := List.mem_iff_getElem?.1 hx
   have hil : i < es.size := by
    have := (List.getElem?_eq_some_iff.1 hi).1
    omega
   obtain ⟨e1, _⟩ := hes i _ x (Array.getElem?_eq_getElem hil) hi
   rw [← e1, ← hkv]
   exact f2 _ (by simp))
  rw [hno.2] at hhas
  cases hhas
 ·have hj : es[j]? = some en := by simpa using f2
  have hjl : j < l.length := by
   have := (Array.getElem?_eq_some_iff.1 hj).1
   omega
  obtain ⟨e1, e2, e3⟩ := hes j en _ hj (List.getElem?_eq_getElem hjl)
  have hjk : keyV kt (l[j]).1 = keyV kt key := by rw [← e1, f3, hkv]
  have hyes := find_yes (vt := vt) hkt (k := key) (List.getElem?_eq_getElem hjl) hjk hnd
  have hlk : (l[j]).1 = key := keyV_inj hkt hjk
  have hkeq : (putL l key y).map (fun x => keyV kt x.1) = l.map fun x => keyV kt x.1 := by
   apply List.ext_getElem?
   intro i
   rw [List.getElem?_map, List.getElem?_map, putL_get hyes.2]
   cases l[i]? with
   | none => rfl
   | some x =>
    simp only [Option.map_some]
    by_cases hx : eqT kt x.1 key = true
    ·rw [if_pos hx, (eqT_key hkt).1 hx]
    ·rw [if_neg hx]
  refine fin2 (es.modify j fun e => { e with key := a.eval k, val := a.eval v }) ?_ ?_ (by simp) ?_ (by rw [hkeq]; exact hnd)
  ·have hj' : es[0 + j]? = some en := by rw [Nat.zero_add]; exact hj
   simp [Instr.mapUpdate, run_underlying hu, run_getObj_map hb, run_checkKey hd hkk, run_findKey hd f1, hj, f3, run_keyThatStays hkk, run_setObj_map _ hb, Result.andThen]
  ·have := congrArg List.length hkeq
   simp only [List.length_map] at this
   simp [hsz, this]
  ·intro i en' x hi hx
   rw [putL_get hyes.2] at hx
   rw [Array.getElem?_modify] at hi
   by_cases hij : j = i
   ·subst hij
    rw [if_pos rfl, hj] at hi
    cases hi
    rw [List.getElem?_eq_getElem hjl] at hx
    simp only [Option.map_some, Option.some.injEq] at hx
    rw [if_pos ((eqT_key hkt).2 hlk)] at hx
    subst hx
    exact ⟨hkv, hvv, e3⟩
   ·rw [if_neg hij] at hi
    have hil : i < l.length := by
     have := (Array.getElem?_eq_some_iff.1 hi).1
     omega
    rw [List.getElem?_eq_getElem hil] at hx
    simp only [Option.map_some, Option.some.injEq] at hx
    have hne : ¬ eqT kt (l[i]).1 key = true := by
     intro hc
     have hce := (eqT_key hkt).1 hc
     refine hij ((List.getElem?_inj (by simpa using hjl) hnd).1 ?_)
     rw [List.getElem?_map, List.getElem?_map, List.getElem?_eq_getElem hil, List.getElem?_eq_getElem hjl]
     simp only [Option.map_some, hce, hlk]
    rw [if_neg hne] at hx
    subst hx
    exact hes i en' _ hi (List.getElem?_eq_getElem hil)
theorem rangeD_MG (hT : TbOk P tb) {s : St} (hok : Ok s) {o : Oper} {a : Act} {T : TypeId} {m : Operand} (ho : o.op = .range T m) {fin : AV → Hp → Prop} {id bm : Nat} {kt vt : Ty} {l : List (kt.El × vt.El)} {bs : List Nat} {ck : Nat} (hid : s.h[id]? = some (.oth (.mapD bm kt vt l bs ck)))
  (hm : R s (.oth id) (a.eval m)) {ti : TI} {kT e : TypeId} (h1 : lk tb T = some ti) (h2 : ti.kind = .map kT e)
  (h : fin (.oth s.h.length) (put s.h s.h.length (.oth (.iter id bm ck [])))) : MG P o a s fin := by
 obtain ⟨hσ, hkt, es, hb, hsz, hes, hnd, hbl, hbn, hbk⟩ := hok.obj id _ hid
 simp only [R] at hm
 have hmv := hm.2.2 _ hid
 rw [hσ] at hmv
 have hu := map_kind hT h1 h2
 have hke : execOp a.eval o = (do pure (.value (← Instr.range T (a.eval m)))) := by unfold execOp; simp only [ho]
 have hf : Free s.h s.h.length := .inl rfl
 have hw := Grew.alloc s.w (.mapIter (some bm) ck #[] ck)
 have hbb : ∀ b, blkOf (.pointer (some ⟨s.w.heap.size, 0, none⟩)) = some b → s.w.heap.size ≤ b := by
  intro b hb
  cases hb
  exact Nat.le_refl _
 have hobj : ObjR (s.new s.h.length (.oth (.iter id bm ck [])) (.pointer (some ⟨s.w.heap.size, 0, none⟩)) (s.w.alloc (.mapIter (some bm) ck #[] ck))) s.h.length (.oth (.iter id bm ck [])) :=
  ⟨s.w.heap.size, by simp only [St.new, upd_same], (heap_alloc s.w _).1⟩
 refine ⟨.oth s.h.length, .pointer (some ⟨s.w.heap.size, 0, none⟩), _, .inl ?_, St.new_step hf hw hbb, St.new_ok hok hf hw hbb hobj, ?_, h⟩
 ·rw [hke, Sem.run_bind, hmv]
  simp [Instr.range, run_underlying hu, run_getObj_map hb, Result.andThen, St.new]
 ·simp only [R]
  refine ⟨?_, rfl, fun o _ => by simp only [St.new, upd_same]⟩
  unfold kn
  simp only [St.new]
  rw [put_same hf]
theorem leftD_mem {es : Array MapEntry} {seen bs : List Nat} (hborn : ∀ (i : Nat) (e : MapEntry), es[i]? = some e → bs[i]? = some e.born) {e : MapEntry} : e ∈ (leftOf es seen.reverse.toArray).toList ↔ ∃ i : Nat, es[i]? = some e ∧ e.born ∉ seen := by
 unfold leftOf
 rw [Array.toList_filter, List.mem_filter]
 constructor
 ·rintro ⟨h1, h2⟩
  obtain ⟨i, hi⟩ := List.mem_iff_getElem?.1 h1
  have hi' : es[i]? = some e := by simpa using hi
  refine ⟨i, hi', fun hc => ?_⟩
  simp [hc] at h2
 ·rintro ⟨i, h1, h2⟩
  refine ⟨List.mem_of_getElem? (i := i) (by simpa using h1), ?_⟩
  simp [h2]
theorem nextD_MG {s : St} (hok : Ok s) {o : Oper} {a : Act} {it : Operand} (ho : o.op = .next it false) {fin : AV → Hp → Prop} {id mid bm n : Nat} {seen : List Nat} {kt vt : Ty} {l : List (kt.El × vt.El)} (hid : s.h[id]? = some (.oth (.iter mid bm n seen)))
  {bs : List Nat} {ck : Nat} (hmid : s.h[mid]? = some (.oth (.mapD bm kt vt l bs ck))) (hn : n = ck) (hi : R s (.oth id) (a.eval it))
  (h : nextQ l bs seen (fun i x => fin (.tup [.bool true, avV kt x.1, avV vt x.2]) (put s.h id (.oth (.iter mid bm n (i :: seen))))) (fin (.tup [.bool false]) s.h)) : MG P o a s fin := by
 obtain ⟨hσ, hkt, es, hb, hsz, hes, hnd, hbl, hbn, hbk⟩ := hok.obj mid _ hmid
 obtain ⟨r, hσi, hr⟩ := hok.obj id _ hid
 simp only [R] at hi
 have hiv := hi.2.2 _ hid
 rw [hσi] at hiv
 have hke : execOp a.eval o = (do pure (.value (← Instr.next (a.eval it) false o.type))) := by unfold execOp; simp only [ho]
 have hborn : ∀ (i : Nat) (e : MapEntry), es[i]? = some e → bs[i]? = some e.born := fun i e hi => by
  have hil : i < l.length := by
   have := (Array.getElem?_eq_some_iff.1 hi).1
   omega
  exact (hes i e _ hi (List.getElem?_eq_getElem hil)).2.2
 have hold : ∀ x ∈ es.toList, x.born < n := by
  intro x hx
  obtain ⟨i, hi⟩ := List.mem_iff_getElem?.1 hx
  have hi' : es[i]? = some x := by simpa using hi
  have := hbk _ (List.mem_of_getElem? (hborn i x hi'))
  omega
 obtain ⟨p1, p2⟩ := h
 have hlt : id < s.h.length := (List.getElem?_eq_some_iff.1 hid).1
 rcases run_next_at (P := P) s.w o.type r bm n n seen.reverse.toArray es ck hr hb hold (Nat.le_refl _) with ⟨k1, k2⟩ | ⟨e, he, w1, hw1, k2⟩
 ·refine ⟨.tup [.bool false], .tuple #[.bool false], s, .inl ?_, Step.refl s, hok, ?_, p2 fun b hbm => ?_⟩
  ·rw [hke, Sem.run_bind, hiv, k2]
   rfl
  ·simp only [R]
   refine ⟨[.bool false], rfl, ?_⟩
   simp only [RL]
   exact ⟨.bool false, [], rfl, by simp only [R], rfl⟩
  ·rcases Classical.em (b ∈ seen) with h9 | h9
   ·exact h9
   ·exfalso
    obtain ⟨i, hi⟩ := List.mem_iff_getElem?.1 hbm
    have hil : i < es.size := by
     have := (List.getElem?_eq_some_iff.1 hi).1
     omega
    have hbo := hborn i _ (Array.getElem?_eq_getElem hil)
    rw [hi] at hbo
    have hm := (leftD_mem (seen := seen) hborn).2 ⟨i, Array.getElem?_eq_getElem hil, by rw [← Option.some.inj hbo]; exact h9⟩
    rw [Array.eq_empty_of_size_eq_zero k1] at hm
    simp at hm
 ·obtain ⟨i, hi1, hi2⟩ := (leftD_mem hborn).1 he
  have hil : i < l.length := by
   have := (Array.getElem?_eq_some_iff.1 hi1).1
   omega
  obtain ⟨e1, e2, e3⟩ := hes i e _ hi1 (List.getElem?_eq_getElem hil)
  have hfin := p1 i e.born _ (List.getElem?_eq_getElem hil) e3 hi2
  have hput : put s.h id (.oth (.iter mid bm n (e.born :: seen))) = s.h.set id (.oth (.iter mid bm n (e.born :: seen))) := if_pos hlt
  rw [hput] at hfin
  have hsz1 : w1.heap = s.w.heap := by rcases hw1 with rfl | rfl <;> rfl
  have hr1 : w1.heap[r]? = some (.mapIter (some bm) n seen.reverse.toArray n) := by rw [hsz1]; exact hr
  have hgb : Gb s.w (setBlock w1 r (.mapIter (some bm) n (seen.reverse.toArray.push e.born) ck)) (blkOf (s.σ id)) := by
   rw [hσi]
   have hd : s.w.drawn ≤ w1.drawn := by rcases hw1 with rfl | rfl <;> first | exact Nat.le_refl _ | exact Nat.le_succ _
   refine ⟨by rcases hw1 with rfl | rfl <;> rfl, by rcases hw1 with rfl | rfl <;> rfl, by rcases hw1 with rfl | rfl <;> rfl, hd, by simp [setBlock, hsz1], fun j _ hj => ?_⟩
   have := (heap_set (o' := Obj.mapIter (some bm) n (seen.reverse.toArray.push e.born) ck) hr1).2 j (fun e => hj (by rw [e]; rfl))
   rw [hsz1] at this
   simpa [setBlock, hsz1] using this
  have hbb : ∀ b, blkOf (s.σ id) = some b → blkOf (s.σ id) = some b ∨ s.w.heap.size ≤ b := fun b h => .inl h
  have hst := St.turn_step hid (.oth _ (.iter mid bm n (e.born :: seen)) _) hgb hbb
  have hobj : ObjR (s.turn id (.oth (.iter mid bm n (e.born :: seen))) (s.σ id) (setBlock w1 r (.mapIter (some bm) n (seen.reverse.toArray.push e.born) ck))) id (.oth (.iter mid bm n (e.born :: seen))) := by
   refine ⟨r, by simp only [St.turn, upd_same]; exact hσi, ?_⟩
   have h8 := (heap_set (o' := Obj.mapIter (some bm) n (seen.reverse.toArray.push e.born) ck) hr1).1
   have h7 : (e.born :: seen).reverse.toArray = seen.reverse.toArray.push e.born := by simp
   have h6 : ck = n := hn.symm
   rw [h7]
   rw [h6] at h8
   simp only [St.turn, setBlock, h6]
   exact h8
  refine ⟨_, .tuple #[.bool true, e.key, e.val], _, .inl ?_, hst, St.turn_ok hok hid (.oth _ _ _) hgb hbb hobj, ?_, hfin⟩
  ·rw [hke, Sem.run_bind, hiv, k2]
   rfl
  ·simp only [R]
   refine ⟨[.bool true, e.key, e.val], rfl, ?_⟩
   simp only [RL]
   refine ⟨.bool true, _, rfl, by simp only [R], e.key, _, rfl, ?_, e.val, _, rfl, R_mono hst _ _ (avV_R vt _ _ e2), rfl⟩
   rw [e1]
   exact R_mono hst _ _ (avV_R kt _ _ (keyV_RV kt _ hkt))
theorem entryD_MG {s : St} (hok : Ok s) {o : Oper} {a : Act} {it : Operand} (ho : o.op = .entry it) {fin : AV → Hp → Prop} {id mid bm n i : Nat} {seen : List Nat} {kt vt : Ty} {l : List (kt.El × vt.El)} (hid : s.h[id]? = some (.oth (.iter mid bm n (i :: seen))))
  {bs : List Nat} {ck : Nat} (hmid : s.h[mid]? = some (.oth (.mapD bm kt vt l bs ck))) (hn : n = ck) (hi : R s (.oth id) (a.eval it))
  (h : entQ l bs i fun x => fin (.tup [avV kt x.1, avV vt x.2]) s.h) : MG P o a s fin := by
 obtain ⟨hσ, hkt, es, hb, hsz, hes, hnd, hbl, hbn, hbk⟩ := hok.obj mid _ hmid
 obtain ⟨r, hσi, hr⟩ := hok.obj id _ hid
 simp only [R] at hi
 have hiv := hi.2.2 _ hid
 rw [hσi] at hiv
 have hke : execOp a.eval o = (do pure (.value (← Instr.entry (a.eval it)))) := by unfold execOp; simp only [ho]
 obtain ⟨j, x, hx, hbj, hfin⟩ := h
 have hil : j < es.size := by
  have := (List.getElem?_eq_some_iff.1 hx).1
  omega
 obtain ⟨e1, e2, e3⟩ := hes j _ x (Array.getElem?_eq_getElem hil) hx
 have hnodup : (es.toList.map (·.born)).Nodup := by
  have : es.toList.map (·.born) = bs := by
   apply List.ext_getElem?
   intro q
   by_cases hq : q < es.size
   ·have := (hes q _ _ (Array.getElem?_eq_getElem hq) (List.getElem?_eq_getElem (by omega))).2.2
    simp [hq, this]
   ·rw [List.getElem?_eq_none (by simp; omega), List.getElem?_eq_none (by omega)]
  rw [this]
  exact hbn
 have he4 : (es[j]).born = i := by
  rw [hbj] at e3
  exact (Option.some.inj e3).symm
 have hr' : s.w.heap[r]? = some (.mapIter (some bm) n (seen.reverse.toArray.push (es[j]).born) ck) := by
  have h7 : (i :: seen).reverse.toArray = seen.reverse.toArray.push (es[j]).born := by rw [he4]; simp
  have h6 : ck = n := hn.symm
  rw [← h7, h6]
  exact hr
 refine ⟨_, .tuple #[(es[j]).key, (es[j]).val], s, .inl ?_, Step.refl s, hok, ?_, hfin⟩
 ·rw [hke, Sem.run_bind, hiv, run_entry_at (P := P) s.w r bm n seen.reverse.toArray es ck (es[j]) hr' hb (by simp) hnodup]
  rfl
 ·simp only [R]
  refine ⟨[(es[j]).key, (es[j]).val], rfl, ?_⟩
  simp only [RL]
  refine ⟨(es[j]).key, _, rfl, ?_, (es[j]).val, _, rfl, avV_R vt _ _ e2, rfl⟩
  rw [e1]
  exact avV_R kt _ _ (keyV_RV kt _ hkt)
theorem del_MG (hT : TbOk P tb) {s : St} (hok : Ok s) {o : Oper} {a : Act} {c : Call} (ho : o.op = .call c) (hc : c.callee = .builtin .delete) {m k : Operand} {T T2 : TypeId} (hargs : c.args.toList = [m, k]) (htys : c.argTypes.toList = [T, T2]) {fin : AV → Hp → Prop} {id bm : Nat} {kt vt : Ty} {l : List (kt.El × vt.El)} {bs : List Nat} {ck : Nat} {ob : OObj} (hid : s.h[id]? = some (.oth ob))
  (hσ : s.σ id = .map (some bm)) (hkt : keyTy kt = true) {es : Array MapEntry} (hb : s.w.heap[bm]? = some (.map es ck)) (hsz : es.size = l.length) (hes : ∀ (i : Nat) (e : MapEntry) (x : kt.El × vt.El), es[i]? = some e → l[i]? = some x → e.key = keyV kt x.1 ∧ RV s vt x.2 e.val ∧ bs[i]? = some e.born) (hnd : (l.map fun x => keyV kt x.1).Nodup) (hbl : bs.length = l.length) (hbn : bs.Nodup) (hbk : ∀ b ∈ bs, b < ck)
  (hm : R s (.oth id) (a.eval m)) {av : AV} (hk : R s av (a.eval k)) {ti tk : TI} {kT e : TypeId} (h1 : lk tb T = some ti) (h2 : ti.kind = .map kT e) (h3 : lk tb kT = some tk) (h5 : tk.code = some kt) {key : kt.El} (h6 : valD kt av = some key)
  (h : delQ l key (fun i => fin (.tup []) (put s.h id (.oth (.mapD bm kt vt (l.eraseIdx i) (bs.eraseIdx i) ck)))) (fin (.tup []) s.h)) : MG P o a s fin := by
 simp only [R] at hm
 have hmv := hm.2.2 _ hid
 rw [hσ] at hmv
 have hkv := valD_key kt av key _ hkt h6 hk
 obtain ⟨d, hd, hisk⟩ := isKey_of (P := P) (T := kT) hkt ((tb_und hT h3).code kt h5).2
 have hu := map_kind hT h1 h2
 have hkeys : ∀ x ∈ es.toList, IsKey d x.key := by
  intro x hx
  obtain ⟨i, hi⟩ := List.mem_iff_getElem?.1 hx
  have hi' : es[i]? = some x := by simpa using hi
  have hil : i < l.length := by
   have := (Array.getElem?_eq_some_iff.1 hi').1
   omega
  obtain ⟨e1, _⟩ := hes i x _ hi' (List.getElem?_eq_getElem hil)
  rw [e1]
  exact hisk _
 have ha : c.args = #[m, k] := by have := congrArg List.toArray hargs; simpa using this
 have ht : c.argTypes = #[T, T2] := by have := congrArg List.toArray htys; simpa using this
 have hrun : (execOp a.eval o).run P s.w = ((do pure (.value (← Builtin.delete_ #[T, T2] o.type #[a.eval m, a.eval k]))) : Sem Next).run P s.w := by
  unfold execOp
  simp only [ho, resolve, hc, ha, ht, Sem.run_bind, Sem.run_pure, Result.andThen_ok, invoke, builtin]
  simp
 have htup : ∀ s' : St, R s' (.tup []) (.tuple #[]) := fun s' => by simp only [R]; exact ⟨[], rfl, by simp only [RL]⟩
 have hkk : IsKey d (a.eval k) := by rw [hkv]; exact hisk key
 have hlt : id < s.h.length := (List.getElem?_eq_some_iff.1 hid).1
 obtain ⟨p1, p2⟩ := h
 rcases findNow_spec hkk es.toList 0 hkeys with ⟨f1, f2⟩ | ⟨j, en, f1, f2, f3⟩
 ·have hno := find_no (vt := vt) hkt (l := l) (k := key) (by
   intro x hx
   obtain ⟨i, hi⟩ := List.mem_iff_getElem?.1 hx
   have hil : i < es.size := by
    have := (List.getElem?_eq_some_iff.1 hi).1
    omega
   obtain ⟨e1, _⟩ := hes i _ x (Array.getElem?_eq_getElem hil) hi
   rw [← e1, ← hkv]
   exact f2 _ (by simp))
  have hsame : s.w.heap.setIfInBounds bm (.map es ck) = s.w.heap := by
   apply Array.ext_getElem?
   intro q
   by_cases hq : bm = q
   ·subst hq
    rw [(heap_set hb).1, hb]
   ·exact (heap_set hb).2 q (fun e => hq e.symm)
  refine ⟨.tup [], .tuple #[], s, .inl ?_, Step.refl s, hok, htup s, p2 hno.2⟩
  rw [hrun, Sem.run_bind, hmv]
  simp [Builtin.delete_, run_underlying hu, run_getObj_map hb, run_checkKey hd hkk, run_findKey hd f1, run_setObj_map _ hb, Result.andThen, hsame]
 ·have hj : es[j]? = some en := by simpa using f2
  have hjl : j < l.length := by
   have := (Array.getElem?_eq_some_iff.1 hj).1
   omega
  obtain ⟨e1, e2, e3⟩ := hes j en _ hj (List.getElem?_eq_getElem hjl)
  have hjk : keyV kt (l[j]).1 = keyV kt key := by rw [← e1, f3, hkv]
  have hlk : (l[j]).1 = key := keyV_inj hkt hjk
  have hfin := p1 j _ (List.getElem?_eq_getElem hjl) hlk
  have hput : put s.h id (.oth (.mapD bm kt vt (l.eraseIdx j) (bs.eraseIdx j) ck)) = s.h.set id (.oth (.mapD bm kt vt (l.eraseIdx j) (bs.eraseIdx j) ck)) := if_pos hlt
  rw [hput] at hfin
  have hgb : Gb s.w { s.w with heap := s.w.heap.setIfInBounds bm (.map (es.eraseIdxIfInBounds j) ck) } (blkOf (s.σ id)) := by
   rw [hσ]
   refine ⟨rfl, rfl, rfl, Nat.le_refl _, by simp, fun q _ hq => ?_⟩
   exact (heap_set hb).2 q (fun e => hq (by rw [e]; rfl))
  have hbb : ∀ b, blkOf (s.σ id) = some b → blkOf (s.σ id) = some b ∨ s.w.heap.size ≤ b := fun b h => .inl h
  have hst := St.turn_step hid (.oth _ (.mapD bm kt vt (l.eraseIdx j) (bs.eraseIdx j) ck) _) hgb hbb
  have hget : ∀ i, (es.eraseIdxIfInBounds j)[i]? = if i < j then es[i]? else es[i + 1]? := by
   intro i
   rw [← Array.getElem?_toList, Array.toList_eraseIdxIfInBounds, List.getElem?_eraseIdx, Array.getElem?_toList, Array.getElem?_toList]
  have hobj : ObjR (s.turn id (.oth (.mapD bm kt vt (l.eraseIdx j) (bs.eraseIdx j) ck)) (s.σ id) { s.w with heap := s.w.heap.setIfInBounds bm (.map (es.eraseIdxIfInBounds j) ck) }) id (.oth (.mapD bm kt vt (l.eraseIdx j) (bs.eraseIdx j) ck)) := by
   refine ⟨by simp only [St.turn, upd_same]; exact hσ, hkt, es.eraseIdxIfInBounds j, (heap_set hb).1, ?_, fun i en x hi hx => ?_, ?_, ?_, hbn.sublist (List.eraseIdx_sublist ..), fun b hb => hbk b (List.mem_of_mem_eraseIdx hb)⟩
   ·rw [← Array.length_toList, Array.toList_eraseIdxIfInBounds, List.length_eraseIdx, List.length_eraseIdx, Array.length_toList, hsz]
   ·rw [hget] at hi
    rw [List.getElem?_eraseIdx] at hx ⊢
    split at hi
    ·rename_i hij
     rw [if_pos hij] at hx ⊢
     obtain ⟨r1, r2, r3⟩ := hes i en x hi hx
     exact ⟨r1, RV_mono hst vt x.2 _ r2, r3⟩
    ·rename_i hij
     rw [if_neg hij] at hx ⊢
     obtain ⟨r1, r2, r3⟩ := hes (i + 1) en x hi hx
     exact ⟨r1, RV_mono hst vt x.2 _ r2, r3⟩
   ·exact hnd.sublist ((List.eraseIdx_sublist ..).map _)
   ·rw [List.length_eraseIdx, List.length_eraseIdx, hbl]
  refine ⟨.tup [], .tuple #[], _, .inl ?_, hst, St.turn_ok hok hid (.oth _ _ _) hgb hbb hobj, htup _, hfin⟩
  rw [hrun, Sem.run_bind, hmv]
  simp [Builtin.delete_, run_underlying hu, run_getObj_map hb, run_checkKey hd hkk, run_findKey hd f1, run_setObj_map _ hb, Result.andThen, St.turn]
theorem mapA_ok (hT : TbOk P tb) {s : St} (hok : Ok s) {o : Oper} {a : Act} {f : Tr} (hρ : ∀ x, R s (ev f.get x) (a.eval x)) {fin : Tr → AV → Hp → Prop} (h : mapA tb o f s.h fin) : MG P o a s (fin f) := by
 unfold mapA at h
 split at h
 ·rename_i T r ho
  split at h
  ·rename_i ti h1
   split at h
   ·split at h
    ·split at h
     ·split at h
      ·rename_i hk
       obtain ⟨h⟩ := h
       exact makeMap_MG hok ho hk ⟨fun bm => by have := h bm; simp only [lenK_eq, putK_eq] at this; exact this⟩
      ·exact h.elim
     ·exact h.elim
    ·exact h.elim
   ·exact h.elim
  ·exact h.elim
 ·rename_i T m k okb ho
  split at h
  ·rename_i id ti he h1
   have hm := hρ m
   rw [he] at hm
   split at h
   ·rename_i bm kt vt l kT e hid h2
    split at h
    ·rename_i tk te key h3 h4 h6
     split at h
     ·rename_i kt' vt' z h5 h8 h7
      split at h
      ·rename_i q1 q2
       have := Ty.eq_of_beq _ _ q1
       subst this
       exact lookup_MG hT hok ho hid hm (hρ k) h1 h2 h3 h4 h5 h6 h7 h
      ·exact h.elim
     ·exact h.elim
    ·exact h.elim
   ·rename_i bm kt vt l bs ck kT e hid h2
    split at h
    ·rename_i tk te key h3 h4 h6
     split at h
     ·rename_i kt' vt' z h5 h8 h7
      split at h
      ·rename_i q1 q2
       have := Ty.eq_of_beq _ _ q1
       subst this
       exact lookupD_MG hT hok ho hid hm (hρ k) h1 h2 h3 h4 h5 h6 h7 h
      ·exact h.elim
     ·exact h.elim
    ·exact h.elim
   ·exact h.elim
  ·exact h.elim
 ·rename_i T m k v ho
  split at h
  ·rename_i id ti he h1 _
   have hm := hρ m
   rw [he] at hm
   split at h
   ·rename_i bm kt vt l kT e hid h2
    split at h
    ·rename_i tk te key y h3 h4 h6 h7
     split at h
     ·rename_i kt' vt' h5 h8
      split at h
      ·rename_i q1 q2
       have := Ty.eq_of_beq _ _ q1
       subst this
       rw [putK_eq] at h
       exact update_MG hT hok ho hid hm (hρ k) (R_tyNil (hρ v)) h1 h2 h3 h5 h6 h7 h
      ·exact h.elim
     ·exact h.elim
    ·exact h.elim
   ·rename_i bm kt vt l bs ck kT e hid h2
    split at h
    ·rename_i tk te key y h3 h4 h6 h7
     split at h
     ·rename_i kt' vt' h5 h8
      split at h
      ·rename_i q1 q2
       have := Ty.eq_of_beq _ _ q1
       subst this
       obtain ⟨hhas, h⟩ := need_elim h
       rw [putK_eq] at h
       exact updateD_MG hT hok ho hid hm (hρ k) (R_tyNil (hρ v)) h1 h2 h3 h5 h6 h7 hhas h
      ·exact h.elim
     ·exact h.elim
    ·exact h.elim
   ·exact h.elim
  ·exact h.elim
 ·rename_i T m ho
  split at h
  ·rename_i id ti he h1
   have hm := hρ m
   rw [he] at hm
   split at h
   ·rename_i bm kt vt l kT e hid h2
    simp only [lenK_eq, putK_eq] at h
    exact range_MG hT hok ho hid hm h1 h2 h
   ·rename_i bm kt vt l bs ck kT e hid h2
    simp only [lenK_eq, putK_eq] at h
    exact rangeD_MG hT hok ho hid hm h1 h2 h
   ·exact h.elim
  ·exact h.elim
 ·rename_i it str ho
  split at h
  ·rename_i id he
   have hm := hρ it
   rw [he] at hm
   split at h
   ·rename_i mid bm n seen hid
    split at h
    ·rename_i bm' kt vt l hmid
     obtain ⟨⟨rfl, hn⟩, hh⟩ := need_elim h
     refine next_MG hok ho hid hmid hn hm ?_
     obtain ⟨p1, p2⟩ := hh
     exact ⟨fun i x hx hs => by have := p1 i x hx hs; rw [putK_eq] at this; exact this, p2⟩
    ·rename_i bm' kt vt l bs ck hmid
     obtain ⟨⟨rfl, hn⟩, hh⟩ := need_elim h
     refine nextD_MG hok ho hid hmid hn hm ?_
     obtain ⟨p1, p2⟩ := hh
     exact ⟨fun i b x hx hb hs => by have := p1 i b x hx hb hs; rw [putK_eq] at this; exact this, p2⟩
    ·exact h.elim
   ·exact h.elim
  ·exact h.elim
 ·rename_i it ho
  split at h
  ·rename_i id he
   have hm := hρ it
   rw [he] at hm
   split at h
   ·rename_i mid bm n i seen hid
    split at h
    ·rename_i bm' kt vt l hmid
     obtain ⟨⟨rfl, hn⟩, hh⟩ := need_elim h
     exact entry_MG hok ho hid hmid hn hm hh
    ·rename_i bm' kt vt l bs ck hmid
     obtain ⟨⟨rfl, hn⟩, hh⟩ := need_elim h
     exact entryD_MG hok ho hid hmid hn hm hh
    ·exact h.elim
   ·exact h.elim
  ·exact h.elim
 ·rename_i c ho
  split at h
  ·rename_i x T hc hargs htys
   split at h
   ·rename_i ti hl
    split at h
    ·rename_i e hk
     split at h
     ·rename_i te he
      split at h
      ·rename_i t hcd
       split at h
       ·rename_i z hz0
        exact clr_MG hT hok ho hc hargs htys hl hk he hcd hz0 (R_detos (hρ x)) h
       ·exact h.elim
      ·exact h.elim
     ·exact h.elim
    ·exact h.elim
   ·exact h.elim
  ·rename_i mo ko T T2 hc hargs htys
   split at h
   ·rename_i id ti he h1
    have hm := hρ mo
    rw [he] at hm
    split at h
    ·rename_i bm kt vt l kT e hid h2
     split at h
     ·rename_i tk key h3 h6
      split at h
      ·rename_i kt' h5
       split at h
       ·rename_i q1
        have := Ty.eq_of_beq _ _ q1
        subst this
        obtain ⟨hσ, hkt, es, hb, hsz, hes, hnd⟩ := hok.obj id _ hid
        refine del_MG hT hok ho hc hargs htys hid hσ hkt (ck := l.length) (bs := List.range l.length) (by rw [← hsz]; exact hb) hsz (fun i e x hi hx => ?_) hnd (by simp) List.nodup_range (fun b hb => List.mem_range.1 hb) hm (hρ ko) h1 h2 h3 h5 h6 ?_
        ·obtain ⟨r1, r2, r3⟩ := hes i e x hi hx
         refine ⟨r1, r2, ?_⟩
         rw [List.getElem?_range (List.getElem?_eq_some_iff.1 hx).1, r3]
        ·obtain ⟨p1, p2⟩ := h
         exact ⟨fun i x hx hk => by have := p1 i x hx hk; rw [putK_eq] at this; exact this, p2⟩
       ·exact h.elim
      ·exact h.elim
     ·exact h.elim
    ·rename_i bm kt vt l bs ck kT e hid h2
     split at h
     ·rename_i tk key h3 h6
      split at h
      ·rename_i kt' h5
       split at h
       ·rename_i q1
        have := Ty.eq_of_beq _ _ q1
        subst this
        obtain ⟨hσ, hkt, es, hb, hsz, hes, hnd, hbl, hbn, hbk⟩ := hok.obj id _ hid
        refine del_MG hT hok ho hc hargs htys hid hσ hkt hb hsz hes hnd hbl hbn hbk hm (hρ ko) h1 h2 h3 h5 h6 ?_
        obtain ⟨p1, p2⟩ := h
        exact ⟨fun i x hx hk => by have := p1 i x hx hk; rw [putK_eq] at this; exact this, p2⟩
       ·exact h.elim
      ·exact h.elim
     ·exact h.elim
    ·exact h.elim
   ·exact h.elim
  ·exact h.elim
 ·exact h.elim
end
end Av
