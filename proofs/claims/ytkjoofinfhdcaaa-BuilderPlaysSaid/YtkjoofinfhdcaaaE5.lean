/-
  An abstract reading of values and memory: functions do what is reckoned.
  An abstract reading of values and memory: helps for those who reckon.
  The table of types of the program, and its functions.
  What the reference says of entries: one entry's error, a list's.
  Checks of keys and entries.
  What the reference says of the order of strings.
  The order of strings in plain Lean.
  The order of strings as a number, split behind a common beginning: plain Lean.
  What the reference says of the order of strings and entries.
  Lists of entries: whether two are the same; the first fault of one: plain Lean.
-/
import Derived.Test.YtkjoofinfhdcaaaAvo
import Derived.Calls
import Derived.Defers
import Derived.Laws.Sem
import Derived.Test.YtkjoofinfhdcaaaProg
import Derived.Test.YtkjoofinfhdcaaaAv6
import Derived.Laws.StructEq
namespace Av
open Go

section
variable {P : Program} {tb : Tb}
theorem results_list (hT : TbOk P tb) {s : St} (hok : Ok s) {f : Tr} {a : Act} (hf : FR s f.get a) {F : ResultVar → Sem Value} (hF : ∀ t, F (.tmp t) = pure (a.tmps.getD t undef)) (hF2 : ∀ x t, F (.cell x t) = (do loadVar t (← asAddr (a.tmps.getD x undef)))) : ∀ (rs : List ResultVar) (k : List AV → Prop), resAs tb f s.h k rs →
  ∃ vs cvs, (rs.mapM F).run P s.w = .ok cvs s.w ∧ RL s vs cvs ∧ k vs
 | [], k, h => ⟨[], [], by simp, by simp only [RL], h⟩
 | r :: rs, k, h => by
  have one : ∃ v cv, (F r).run P s.w = .ok cv s.w ∧ R s v cv ∧ resAs tb f s.h (fun vs => k (v :: vs)) rs := by
   cases r with
   | tmp t => exact ⟨f.get t, a.tmps.getD t undef, by rw [hF]; rfl, hf t, h⟩
   | cell x T =>
    simp only [resAs, resA] at h
    split at h
    ·rename_i ti id off hl hx
     split at h
     ·rename_i T' cs hc
      split at h
      ·rename_i v hv
       have hr := hf x
       rw [hx] at hr
       simp only [R] at hr
       obtain ⟨_, b, hp, hσ⟩ := hr
       have hσ := hσ _ _ hc
       obtain ⟨b', hσ', hrc⟩ := cells_RC hok hc
       rw [hσ] at hσ'
       cases hσ'
       obtain ⟨cv, hrun, hR⟩ := load_RC (P := P) hT hl hv (RC_drop off hrc)
       exact ⟨v, cv, by rw [hF2]; simp [hp, asAddr, hrun], hR, h⟩
      ·exact h.elim
     ·exact h.elim
    ·exact h.elim
  obtain ⟨v, cv, h1, h2, h3⟩ := one
  obtain ⟨vs, cvs, h4, h5, h6⟩ := results_list hT hok hf hF hF2 rs _ h3
  refine ⟨v :: vs, cv :: cvs, ?_, by simp only [RL]; exact ⟨cv, cvs, rfl, h2, h5⟩, h6⟩
  rw [List.mapM_cons, Sem.run_bind, h1, Result.andThen_ok, Sem.run_bind, h4, Result.andThen_ok]
  rfl
theorem results_ok (hT : TbOk P tb) {s : St} (hok : Ok s) {f : Tr} {a : Act} (hf : FR s f.get a) {fn : Func} {K : AV → Hp → Prop} (h : retA tb fn.results.toList f s.h K) :
  ∃ v cv, (results fn a.tmps).run P s.w = .ok cv s.w ∧ R s v cv ∧ K v s.h := by
 unfold retA at h
 obtain ⟨F, hF, hF2, he⟩ : ∃ F : ResultVar → Sem Value, (∀ t, F (.tmp t) = pure (a.tmps.getD t undef)) ∧ (∀ x t, F (.cell x t) = (do loadVar t (← asAddr (a.tmps.getD x undef)))) ∧
   results fn a.tmps = (do let vs ← fn.results.mapM F; pure (if h : vs.size = 1 then vs[0] else .tuple vs)) := ⟨_, fun _ => rfl, fun _ _ => rfl, rfl⟩
 obtain ⟨vs, cvs, h1, h2, h3⟩ := results_list (P := P) hT hok hf hF hF2 _ _ h
 rw [he, Array.mapM_eq_mapM_toList, Sem.run_bind, map_eq_pure_bind, Sem.run_bind, h1]
 split at h3
 ·rename_i v
  rw [force_eq] at h3
  simp only [RL] at h2
  obtain ⟨cv, l, rfl, h4, rfl⟩ := h2
  exact ⟨v, cv, by simp, h4, h3⟩
 ·rename_i hne
  rw [force_eq] at h3
  refine ⟨.tup vs, .tuple cvs.toArray, ?_, by simp only [R]; exact ⟨cvs, rfl, h2⟩, h3⟩
  have hlen : cvs.length = vs.length := RL_vals h2
  have : cvs.length ≠ 1 := by
   intro h
   rw [hlen] at h
   obtain ⟨v, rfl⟩ := List.length_eq_one_iff.1 h
   exact hne v rfl
  simp [this]

structure FnOk (P : Program) (g : FuncId) (fn : Func) : Prop where
 get : P.funcs[g]? = some fn
 name : (fn.name == "runtime.NumGoroutine") = false
 code : match fn.body with | some c => okCode fn.ntmps c = true ∧ drawsOk c = true | none => False
theorem FnOk.enters {g : FuncId} {fn : Func} (h : FnOk P g fn) : Enters P g := by
 have hc := h.code
 split at hc
 ·rename_i c hb
  exact ⟨fn, c, h.get, h.name, hb⟩
 ·exact hc.elim
theorem init_ok {s : St} {a : Act} : ∀ (vs : List AV) (cs : List Value) (n : Nat) (f : Tr) (k : Tr → Prop), RL s vs cs → FR s f.get a → (∀ i c, cs[i]? = some c → a.tmps.getD (n + i) undef = c) → initK f n vs k → ∃ f', FR s f'.get a ∧ k f'
 | [], cs, n, f, k, _, hf, _, h => ⟨f, hf, h⟩
 | v :: vs, cs, n, f, k, hl, hf, hg, h => by
  simp only [initK, force_eq, Tr.setK_eq] at h
  simp only [RL] at hl
  obtain ⟨c, cs', rfl, h1, h2⟩ := hl
  have h0 := hg 0 c rfl
  rw [Nat.add_zero] at h0
  refine init_ok vs cs' (n + 1) _ k h2 (hf.set (by rw [h0]; exact h1)) (fun i c' hc => ?_) h
  rw [show n + 1 + i = n + (i + 1) by omega]
  exact hg (i + 1) c' (by simpa using hc)
theorem mk_get : ∀ (d n : Nat), (Tr.mk d).get n = .any
 | 0, _ => rfl
 | d + 1, n => by
  cases n with
  | zero => rfl
  | succ n =>
   simp only [Tr.mk, Tr.get]
   split <;> exact mk_get d _
/-! ### A function leaves: marks of loops over iterators, and builtin functions that were put off -/
def LeavesB (P : Program) (fn : Func) (tmps : Array Value) (R : Value → World → Prop) : List Deferred → World → Prop
 | [], w => ∃ v, (results fn tmps).run P w = .ok v w ∧ R v w
 | d :: ds, w => (∃ r w', d.target = .collected r ∧ (Instr.takeDeferred r).run P w = .ok [] w' ∧ LeavesB P fn tmps R ds w') ∨
   (∃ b ts ty cs v w', d.target = .builtin b ts ty cs ∧ (Go.invoke d.target d.args).run P w = .ok (.value v) w' ∧ LeavesB P fn tmps R ds w')
theorem step_builtin {fr : Frame} {cs : List Frame} {w w' : World} {d : Deferred} {ds : List Deferred} {b : Builtin} {ts : Array TypeId} {ty : TypeId} {ks : Array Bool} {v : Value}
  (hm : fr.mode = .returning) (hd : fr.defers = d :: ds) (ht : d.target = .builtin b ts ty ks) (hi : (Go.invoke d.target d.args).run P w = .ok (.value v) w') :
  step P (lone fr cs w) = .next (lone { fr with defers := ds } cs w') := by
 obtain ⟨t, a⟩ := d
 simp only at ht hi
 subst ht
 refine step_lone_go ?_
 simp [stepG, unwind, callDeferred, hm, hd, hi]
theorem leaves_stepsB {fn : Func} {tmps : Array Value} {R : Value → World → Prop} : ∀ (ds : List Deferred) (w : World) (fr : Frame) (cs : List Frame), fr.mode = .returning → fr.defers = ds → fr.tmps = tmps → P.funcs[fr.fn]? = some fn → fr.kind = .normal → LeavesB P fn tmps R ds w →
  ∃ v w' fr', R v w' ∧ Comes P (lone fr cs w) (lone fr' cs w') (.returned v) ∧ fr'.fn = fr.fn ∧ fr'.leaving P w' (.returned v)
 | [], w, fr, cs, hu, hd, ht, hf, hk, h => by
  obtain ⟨v, hr, hR⟩ := h
  exact ⟨v, w, fr, hR, Steps.refl P _, rfl, hu, hd, hk, fn, hf, ht ▸ hr⟩
 | d :: ds, w, fr, cs, hu, hd, ht, hf, hk, h => by
  rcases h with ⟨r, w', htar, htake, hrest⟩ | ⟨b, ts, ty, ks, v, w', htar, hinv, hrest⟩
  ·have h1 := step_collected (P := P) (cs := cs) (by rw [hu]; simp) hd htar htake
   obtain ⟨v, w2, fr', hR, hs, hfn, hl⟩ := leaves_stepsB ds w' { fr with defers := [] ++ ds } cs hu rfl ht hf hk hrest
   exact ⟨v, w2, fr', hR, Comes.of_steps (.one h1) hs, hfn, hl⟩
  ·have h1 := step_builtin (P := P) (cs := cs) hu hd htar hinv
   obtain ⟨v, w2, fr', hR, hs, hfn, hl⟩ := leaves_stepsB ds w' { fr with defers := ds } cs hu rfl ht hf hk hrest
   exact ⟨v, w2, fr', hR, Comes.of_steps (.one h1) hs, hfn, hl⟩
def postB (P : Program) (fn : Func) (R : Value → World → Prop) : Exit → Act → World → Prop
 | .normal, a, w | .ret, a, w => LeavesB P fn a.tmps R a.defers w
 | _, _, _ => False
theorem calls_of_wpB {f : FuncId} {fn : Func} {c : Code} {args : Array Value} {w : World} {R : Value → World → Prop} (hf : P.funcs[f]? = some fn) (hb : fn.body = some c)
  (h : c.wp P (postB P fn R) { tmps := args ++ Array.replicate (fn.ntmps - args.size) undef, defers := [] } w) : Calls P f args w fun e w' => ∃ v, e = .returned v ∧ R v w' := by
 intro cs
 let b : Frame := { (default : Frame) with fn := f, kind := .normal }
 have henter : Frame.enter P f args .normal =
   b.at { tmps := args ++ Array.replicate (fn.ntmps - args.size) undef, defers := [] } [.code c] := by
  simp [Frame.enter, Frame.at, hf, hb, b]
 obtain ⟨e, a', w', hq, harr⟩ := h b [] cs
 rw [← henter] at harr
 cases e with
 | normal =>
  obtain ⟨v, w2, fr', hR, hs, hfn, hl⟩ := leaves_stepsB a'.defers w' { b.at a' [] with mode := .returning } cs rfl rfl rfl hf rfl hq
  exact ⟨.returned v, w2, fr', ⟨v, rfl, hR⟩, Comes.of_steps (Steps.trans harr (.one step_end)) hs, hfn, hl⟩
 | ret =>
  obtain ⟨todo, hs0⟩ := harr
  obtain ⟨v, w2, fr', hR, hs, hfn, hl⟩ := leaves_stepsB a'.defers w' { b.at a' todo with mode := .returning } cs rfl rfl rfl hf rfl hq
  exact ⟨.returned v, w2, fr', ⟨v, rfl, hR⟩, Comes.of_steps hs0 hs, hfn, hl⟩
 | panic chain => exact hq.elim
 | exit id => exact hq.elim
 | goto l => exact hq.elim
 | outgrown => exact hq.elim
theorem noDead_get : ∀ {h : Hp} {id : Nat}, noDead h = true → h[id]? ≠ some .dead
 | [], id, _, e => by simp at e
 | o :: h, id, hn, e => by
  simp only [noDead, Bool.and_eq_true] at hn
  cases id with
  | zero =>
   simp only [List.getElem?_cons_zero, Option.some.injEq] at e
   subst e
   cases hn.1
  | succ id => exact noDead_get hn.2 (by simpa using e)
theorem noDead_set : ∀ {h : Hp} {id : Nat} {o : OObj}, noDead h = true → noDead (h.set id (.oth o)) = true
 | [], id, o, hn => hn
 | x :: h, 0, o, hn => by
  simp only [noDead, Bool.and_eq_true] at hn
  simp only [List.set_cons_zero, noDead, Bool.true_and]
  exact hn.2
 | x :: h, id + 1, o, hn => by
  simp only [noDead, Bool.and_eq_true] at hn
  simp only [List.set_cons_succ, noDead, Bool.and_eq_true]
  exact ⟨hn.1, noDead_set hn.2⟩
theorem clear_map {s : St} (hok : Ok s) {id bm : Nat} {o : OObj} {T ty : TypeId} {ks : Array Bool} {u : TypeDesc} (hu : P.underlying T = some u) (hv : R s (.oth id) (.map (some bm))) (hid : s.h[id]? = some (.oth o)) :
  ∃ s' v, (Go.invoke (.builtin .clear #[T] ty ks) #[.map (some bm)]).run P s.w = .ok (.value v) s'.w ∧ Step s s' ∧ Ok s' ∧ ∃ o', s'.h = s.h.set id (.oth o') := by
 simp only [R] at hv
 have hσ := hv.2.2 o hid
 have core : ∀ (kt vt : Ty) (es : Array MapEntry) (ck : Nat), keyTy kt = true → s.w.heap[bm]? = some (.map es ck) → ∃ s' v, (Go.invoke (.builtin .clear #[T] ty ks) #[.map (some bm)]).run P s.w = .ok (.value v) s'.w ∧ Step s s' ∧ Ok s' ∧ ∃ o', s'.h = s.h.set id (.oth o') := by
  intro kt vt es ck hkt hb
  have hgb : Gb s.w { s.w with heap := s.w.heap.setIfInBounds bm (.map #[] ck) } (blkOf (s.σ id)) := by
   rw [← hσ]
   refine ⟨rfl, rfl, rfl, Nat.le_refl _, by simp, fun q _ hq => ?_⟩
   exact (Go.MapKept.heap_set hb).2 q (fun e => hq (by rw [e]; rfl))
  have hbb : ∀ b, blkOf (s.σ id) = some b → blkOf (s.σ id) = some b ∨ s.w.heap.size ≤ b := fun b h => .inl h
  have hst := St.turn_step hid (.oth _ (.mapD bm kt vt [] [] ck) _) hgb hbb
  have hobj : ObjR (s.turn id (.oth (.mapD bm kt vt [] [] ck)) (s.σ id) { s.w with heap := s.w.heap.setIfInBounds bm (.map #[] ck) }) id (.oth (.mapD bm kt vt [] [] ck)) :=
   ⟨by simp only [St.turn, upd_same]; exact hσ.symm, hkt, #[], (Go.MapKept.heap_set hb).1, rfl, fun i en x hi _ => by simp at hi, by simp, rfl, by simp, by simp⟩
  refine ⟨_, .tuple #[], ?_, hst, St.turn_ok hok hid (.oth _ _ _) hgb hbb hobj, _, rfl⟩
  simp only [Go.invoke, builtin]
  simp [Builtin.clear_, run_underlying hu, Go.MapKept.run_getObj_map hb, Go.MapKept.run_setObj_map _ hb, Result.andThen, St.turn]
 have hob := hok.obj id _ hid
 cases o with
 | map bm' kt vt l =>
  obtain ⟨e, hkt, es, hb, _⟩ := hob
  rw [← hσ] at e
  cases e
  exact core kt vt es _ hkt hb
 | mapD bm' kt vt l bs ck =>
  obtain ⟨e, hkt, es, hb, _⟩ := hob
  rw [← hσ] at e
  cases e
  exact core kt vt es ck hkt hb
 | iter mid bm' n seen =>
  obtain ⟨r, e, _⟩ := hob
  rw [← hσ] at e
  cases e
 | bxs T t m =>
  obtain ⟨e, _⟩ := hob
  rw [← hσ] at e
  cases e
theorem marks_leave {b : Bool} {fn : Func} {R0 : Value → World → Prop} {s0 : St} {f : Tr} {a : Act} {ds : List Deferred} {I : Hp → Prop} (hI : b = true → ∀ h, I h → noDead h = true ∧ ∀ id o o', h[id]? = some (.oth o) → I (h.set id (.oth o')))
  (hds : ∀ s', Step s0 s' → Ok s' → FR s' f.get a → I s'.h → LeavesB P fn a.tmps R0 ds s'.w) :
  ∀ (ms : List Deferred) (s : St), Step s0 s → Ok s → FR s f.get a → I s.h → Mks P b s0.w.heap.size s ms → LeavesB P fn a.tmps R0 (ms ++ ds) s.w
 | [], s, hst, hok, hf, hh, _ => hds s hst hok hf hh
 | d :: ms, s, hst, hok, hf, hh, hm => by
  rcases hm.each d List.mem_cons_self with ⟨D, rfl, hB, hbk⟩ | ⟨hb, id, bm, T, ty, ks, u, rfl, hu, hv, ho⟩
  ·refine .inl ⟨D, _, rfl, run_takeDeferred hbk.at_, ?_⟩
   have hnd : ({ target := .collected D, args := #[] } :: ms.filter fun d => match d.target with | .collected _ => true | _ => false).Nodup := hm.nd
   refine marks_leave hI hds ms (s.world _) (book_step hst hbk hB) (book_ok hok hbk) (fun t => R_sim (book_sim hbk) _ _ (hf t)) hh ⟨fun d' hd' => ?_, (List.nodup_cons.1 hnd).2⟩
   rcases hm.each d' (List.mem_cons_of_mem _ hd') with ⟨D', h1, h2, h3⟩ | ⟨h1, id, bm, T, ty, ks, u, h2, h3, h4, h5⟩
   ·refine .inl ⟨D', h1, h2, book_other h3 ?_⟩
    rintro rfl
    refine (List.nodup_cons.1 hnd).1 (List.mem_filter.2 ⟨h1 ▸ hd', rfl⟩)
   ·exact .inr ⟨h1, id, bm, T, ty, ks, u, h2, h3, R_sim (book_sim hbk) _ _ h4, h5⟩
  ·obtain ⟨hnd, hset⟩ := hI hb _ hh
   obtain ⟨o, ho⟩ : ∃ o, s.h[id]? = some (.oth o) := by
    rcases ho with h1 | h1
    ·exact h1
    ·exact absurd h1 (noDead_get hnd)
   obtain ⟨s', v, hrun, hst2, hok2, o', hh2⟩ := clear_map (P := P) (ty := ty) (ks := ks) hok hu hv ho
   refine .inr ⟨_, _, _, _, v, s'.w, rfl, hrun, ?_⟩
   refine marks_leave hI hds ms s' (hst.trans hst2) hok2 (hf.step hst2) (by rw [hh2]; exact hset id o o' ho) ⟨fun d' hd' => ?_, ?_⟩
   ·have := (hm.step hst2).each d' (List.mem_cons_of_mem _ hd')
    exact this
   ·exact hm.nd
theorem resAs_cells {tb : Tb} {f : Tr} {h h' : Hp} (hc : ∀ (id : Nat) (T : TypeId) (cs : List AV), h[id]? = some (AObj.cells T cs) → h'[id]? = some (AObj.cells T cs)) : ∀ (rs : List ResultVar) {k k' : List AV → Prop}, (∀ vs, k vs → k' vs) → resAs tb f h k rs → resAs tb f h' k' rs
 | [], k, k', hkk, hk => hkk _ hk
 | r :: rs, k, k', hkk, hk => by
  have one : ∀ {k k' : AV → Prop}, (∀ v, k v → k' v) → resA tb f h k r → resA tb f h' k' r := by
   intro k k' hkk hr
   cases r with
   | tmp t => exact hkk _ hr
   | cell x T =>
    simp only [resA] at hr ⊢
    split at hr
    ·rename_i ti id off hl hx
     split at hr
     ·rename_i T' cs hcs
      simp only [hc _ _ _ hcs]
      split at hr
      ·rename_i v hv
       exact hkk _ hr
      ·exact hr.elim
     ·exact hr.elim
    ·exact hr.elim
  exact one (fun v hv => resAs_cells hc rs (fun vs h => hkk _ h) hv) hk
theorem bodyA_ok {C : Cx} (hm : P.follows .mixedOrders = true) (hT : TbOk P C.tb) (hD : SpecsOk P C.specs) {call : CallA} (hcall : CallOk P call) {g : FuncId} {fn : Func} (hf : FnOk P g fn) {args : List AV} {s : St} {K : AV → Hp → Prop} (h : bodyA C call fn args s.h K) (hok : Ok s) {cs : List Value} (hr : RL s args cs) :
  Calls P g cs.toArray s.w fun e w' => ∃ s' v cr, e = .returned cr ∧ s'.w = w' ∧ Step s s' ∧ Ok s' ∧ R s' v cr ∧ K v s'.h := by
 unfold bodyA at h
 split at h
 ·rename_i c hb hle
  have hcode := hf.code
  rw [hb] at hcode
  refine Calls.mono (calls_of_wpB (R := fun cr w' => ∃ s' v, s'.w = w' ∧ Step s s' ∧ Ok s' ∧ R s' v cr ∧ K v s'.h) hf.get hb ?_) (by
   rintro e w' ⟨cr, rfl, s', v, h1, h2, h3, h4, h5⟩
   exact ⟨s', v, cr, rfl, h1, h2, h3, h4, h5⟩)
  have hlen : cs.length = args.length := RL_vals hr
  have hle := Nat.le_of_ble_eq_true hle
  have hget : ∀ i c, cs[i]? = some c → (cs.toArray ++ Array.replicate (fn.ntmps - cs.toArray.size) undef).getD (0 + i) undef = c := by
   intro i c hc
   have hlt := (List.getElem?_eq_some_iff.1 hc).1
   rw [Nat.zero_add, Array.getD_eq_getD_getElem?, Array.getElem?_append_left (by simpa using hlt)]
   simp [hc]
  have walk : ∀ (b : Bool) (Kr : Tr → Hp → Prop) (I : Hp → Hp → Prop), (hasD c = true → b = true) → (∀ f h, Kr f h → I h h) → (b = true → ∀ h0 f, Kr f h0 → ∀ h, I h0 h → noDead h = true ∧ ∀ id o o', h[id]? = some (.oth o) → I h0 (h.set id (.oth o'))) → (∀ f h0, Kr f h0 → ∀ h, I h0 h → retA C.tb fn.results.toList f h K) →
    initK (Tr.mk (depthOf fn.ntmps)) 0 args (fun f => codeA C call c Kr (fun _ _ _ => False) Kr f s.h) →
    c.wp P (postB P fn (fun cr w' => ∃ s' v, s'.w = w' ∧ Step s s' ∧ Ok s' ∧ R s' v cr ∧ K v s'.h)) { tmps := cs.toArray ++ Array.replicate (fn.ntmps - cs.toArray.size) undef, defers := [] } s.w := by
   intro b Kr I hb hI0 hI hret h
   obtain ⟨f', hf', hk⟩ := init_ok (a := { tmps := cs.toArray ++ Array.replicate (fn.ntmps - cs.toArray.size) undef, defers := [] }) args cs 0 _ _ hr (fun t => by rw [mk_get]; simp only [R]) hget h
   refine Code.wp_mono ?_ (codeA_ok hm hT hD hcall c hcode.1 hcode.2 b hb _ _ _ f' s _ hok hf' (by simp; omega) hk)
   intro e a' w' hq
   have fin : ∀ {a' : Act} {w' : World}, PostM P b s fn.ntmps [] Kr a' w' → LeavesB P fn a'.tmps (fun cr w' => ∃ s' v, s'.w = w' ∧ Step s s' ∧ Ok s' ∧ R s' v cr ∧ K v s'.h) a'.defers w' := by
    rintro a' w' ⟨⟨s2, f2, ms, rfl, h2, h3, h4, h5, h6, h7⟩, h8⟩
    rw [h6]
    refine marks_leave (s0 := s) (f := f2) (I := I s2.h) (fun e => hI e s2.h f2 h5) (fun s' q1 q2 q3 q4 => ?_) ms s2 h2 h3 h4 (hI0 _ _ h5) h7
    obtain ⟨v, cv, h8, h9, h10⟩ := results_ok (P := P) hT q2 q3 (hret f2 s2.h h5 s'.h q4)
    exact ⟨cv, h8, s', v, rfl, q1, q2, h9, h10⟩
   cases e with
   | normal => exact fin hq
   | ret => exact fin hq
   | exit i =>
    obtain ⟨⟨_, _, _, _, _, _, _, h5, _⟩, _⟩ := hq
    exact h5.elim
   | goto l => exact hq.elim
   | panic ch => exact hq.elim
   | outgrown => exact hq.elim
  split at h
  ·rename_i hd
   exact walk false _ (fun h0 h => h = h0) (fun e => by rw [hd] at e; cases e) (fun _ _ _ => rfl) (fun e => by cases e) (fun f h0 hk h he => by rw [he]; exact hk) h
  ·rename_i hd
   have hrd : ∀ (f : Tr) (h0 : Hp), retD C.tb fn.results.toList f h0 K → noDead h0 = true ∧ retA C.tb fn.results.toList f h0 (fun v _ => ∀ h', K v h') := by
    intro f h0 hk
    unfold retD at hk
    split at hk
    ·rename_i hn; exact ⟨hn, hk⟩
    ·exact hk.elim
   refine walk true _ (fun h0 h => noDead h = true ∧ ∀ (id : Nat) (T : TypeId) (cs : List AV), h0[id]? = some (AObj.cells T cs) → h[id]? = some (AObj.cells T cs)) (fun _ => rfl) (fun f h0 hk => ⟨(hrd f h0 hk).1, fun _ _ _ e => e⟩) (fun _ h0 f hk h hI => ⟨hI.1, fun id o o' ho => ⟨noDead_set hI.1, fun id' T cs e => ?_⟩⟩) (fun f h0 hk h hI => ?_) h
   ·have e2 := hI.2 id' T cs e
    have hne : id ≠ id' := by
     rintro rfl
     rw [ho] at e2
     cases e2
    rw [List.getElem?_set_ne hne]
    exact e2
   ·have h2 := (hrd f h0 hk).2
    unfold retA at h2 ⊢
    refine resAs_cells hI.2 _ (fun vs hv => ?_) h2
    split at hv <;> (rw [force_eq] at hv; simp only [force_eq]; exact hv _)
 ·exact h.elim
noncomputable def callN (C : Cx) : Nat → CallA
 | 0, _, _, _, _ => False
 | n + 1, g, xs, h, K => match lkf C.fns g with
  | some fn => bodyA C (fun g xs h K => callN C n g xs h K) fn xs h K
  | none => False
def FnsOk (P : Program) (l : List (FuncId × Func)) : Prop := ∀ g fn, lkf l g = some fn → FnOk P g fn
theorem callN_ok {C : Cx} (hm : P.follows .mixedOrders = true) (hT : TbOk P C.tb) (hD : SpecsOk P C.specs) (hF : FnsOk P C.fns) : ∀ n, CallOk P (callN C n)
 | 0 => fun g xs h K hk => hk.elim
 | n + 1 => fun g xs h K hk => by
  simp only [callN] at hk
  split at hk
  ·rename_i fn hl
   have hfn := hF g fn hl
   refine ⟨hfn.enters, fun s hs hok cs hr => ?_⟩
   subst hs
   exact bodyA_ok hm hT hD (callN_ok hm hT hD hF n) hfn hk hok hr
  ·exact hk.elim
theorem FnsOk.nil : FnsOk P [] := fun g fn h => by cases h
theorem FnsOk.cons {g : FuncId} {fn : Func} {l : List (FuncId × Func)} (h : FnOk P g fn) (hl : FnsOk P l) : FnsOk P ((g, fn) :: l) := by
 intro g' fn' h'
 simp only [lkf] at h'
 cases hb : Nat.beq g g' with
 | true =>
  rw [hb] at h'
  have := Nat.eq_of_beq_eq_true hb
  cases h'
  exact this ▸ h
 | false =>
  rw [hb] at h'
  exact hl g' fn' h'
theorem spec_body {C : Cx} (hm : P.follows .mixedOrders = true) (hT : TbOk P C.tb) (hD : SpecsOk P C.specs) {call : CallA} (hcall : CallOk P call) {g : FuncId} {fn : Func} (hf : FnOk P g fn) {sp : DSpec}
  (h : ∀ ys p r, sp ys = some (p, r) → p → bodyA C call fn ys [] (fun v h => (viewR h v fun y => .ok y none).sat fun y _ => y = r)) : SpecOk P g sp := by
 refine ⟨hf.enters, fun ys p r hsp hp s hok hh cs hr => ?_⟩
 have hb := h ys p r hsp hp
 rw [← hh] at hb
 refine Calls.mono (bodyA_ok hm hT hD hcall hf hb hok hr) ?_
 rintro e w' ⟨s', v, cr, rfl, rfl, hst, hok', hv, hK⟩
 obtain ⟨y, ob, his, rfl⟩ := Res.sat_is hK
 have hFo : ∀ b, s'.F b → Own s' b := fun b hb => .inl hb
 obtain ⟨z, hz, hR⟩ := viewR_ok hok' (SubH.refl _) (F := s'.F) hFo v cr _ y ob hv (fun _ b hb => hok'.dis b hb) his
 obtain ⟨rfl, _⟩ := hz
 have hcut : s'.cut 0 = s'.callee s'.F := by
  unfold St.cut St.callee
  rw [List.take_zero]
 refine ⟨s'.cut 0, cr, rfl, rfl, cut_step hst (by rw [hh]; exact Nat.le_refl _), cut_ok hok' (fun id T cs hlt => by omega), by rw [hcut]; rfl, by rw [hcut]; exact hR⟩
theorem fresh_body {C : Cx} (hm : P.follows .mixedOrders = true) (hT : TbOk P C.tb) (hD : SpecsOk P C.specs) {call : CallA} (hcall : CallOk P call) {g : FuncId} {fn : Func} (hf : FnOk P g fn) {sp : FSpec}
  (h : ∀ ys p r, sp ys = some (p, r) → p → bodyA C call fn ys [] (fun v h => ∃ id g f, v = .own id g r.l.length ∧ h[id]? = some (.arr r.T r.t r.l f g))) : FreshOk P g sp := by
 refine ⟨hf.enters, fun ys p r hsp hp s hok hh cs hr => ?_⟩
 have hb := h ys p r hsp hp
 rw [← hh] at hb
 refine Calls.mono (bodyA_ok hm hT hD hcall hf hb hok hr) ?_
 rintro e w' ⟨s', v, cr, rfl, rfl, hst, hok', hv, id, g', f', rfl, hid⟩
 let s2 : St := ⟨fun _ => s'.σ id, [.arr r.T r.t r.l f' g'], s'.w, s'.F⟩
 have hown : ∀ b, OwnI s2 b → OwnI s' b := by
  rintro b ⟨i, o, h1, h2, h3⟩
  have : i = 0 := by
   have := (List.getElem?_eq_some_iff.1 h1).1
   have h4 : s2.h.length = 1 := rfl
   omega
  subst this
  have h5 : (AObj.arr r.T r.t r.l f' g') = o := by simpa [s2] using h1
  subst h5
  exact ⟨id, _, hid, rfl, .inl (h3.one rfl)⟩
 have hro : ∀ b, ¬ Own s' b → ¬ Own s2 b := by
  rintro b hn (h1 | h1)
  ·exact hn (.inl h1)
  ·exact hn (.inr (hown b h1))
 obtain ⟨qs, hrow, hone, hel, hfull⟩ := hok'.obj id _ hid
 refine ⟨s2, cr, g', f', rfl, rfl, ?_, ?_, rfl, ?_⟩
 ·exact {
   os := hst.os
   tape := hst.tape
   output := hst.output
   drawn := hst.drawn
   size := hst.size
   kn := fun i hi => by unfold Av.kn at hi; rw [hh] at hi; simp at hi
   keep := fun b hb hn => ⟨fun h1 => (hst.keep b hb hn).1 (hown b h1), (hst.keep b hb hn).2⟩
   frn := hst.frn
   cells := fun i T cs' hi _ => by unfold Av.kn at hi; rw [hh] at hi; simp at hi
   oth := fun i o' hi _ => by unfold Av.kn at hi; rw [hh] at hi; simp at hi
   arr := fun i T t l' f' g hi _ => by unfold Av.kn at hi; rw [hh] at hi; simp at hi }
 ·have h0 : ∀ {i : Nat} {o : AObj}, s2.h[i]? = some o → i = 0 ∧ o = .arr r.T r.t r.l f' g' := by
   intro i o h1
   have : i = 0 := by
    have := (List.getElem?_eq_some_iff.1 h1).1
    have h4 : s2.h.length = 1 := rfl
    omega
   subst this
   have h5 : (AObj.arr r.T r.t r.l f' g') = o := by simpa [s2] using h1
   exact ⟨rfl, h5.symm⟩
  exact {
   obj := fun i o hi => by
    obtain ⟨rfl, rfl⟩ := h0 hi
    exact ⟨qs, hrow, hone, fun i x hx => RT_pure (s := s') (s2 := s2) rfl hro _ _ _ (hel i x hx), hfull⟩
   inj := fun i j o p b hi hj _ _ _ _ => by rw [(h0 hi).1, (h0 hj).1]
   fb := hok'.fb
   dis := fun b h1 => hok'.dis b (hown b h1) }
 ·simp only [R] at hv ⊢
  obtain ⟨_, base, cap, hcr, hv⟩ := hv
  refine ⟨rfl, base, cap, hcr, fun T t' l' f2 g0 hc => ?_⟩
  have hc : (AObj.arr r.T r.t r.l f' g') = .arr T t' l' f2 g0 := by simpa [s2] using hc
  cases hc
  obtain ⟨_, hv2⟩ := hv _ _ _ _ _ hid
  exact ⟨Nat.le_refl _, fun _ => hv2 rfl⟩
end
end Av
namespace Av
open Go

theorem br_dec {p : Prop} [Decidable p] {x y : Prop} (h1 : p → x) (h2 : ¬ p → y) : br (decide p) x y :=
 br_intro (fun h => h1 (of_decide_eq_true h)) (fun h => h2 (of_decide_eq_false h))
theorem br_ndec {p : Prop} [Decidable p] {x y : Prop} (h1 : ¬ p → x) (h2 : p → y) : br (!decide p) x y :=
 br_intro (fun h => h1 (by simpa using h)) (fun h => h2 (by simpa using h))
theorem br_ne {a b : Int} {x y : Prop} (h1 : a ≠ b → x) (h2 : a = b → y) : br (a != b) x y :=
 br_intro (fun h => h1 (by simpa using h)) (fun h => h2 (by simpa using h))
theorem br_eq {a b : Int} {x y : Prop} (h1 : a = b → x) (h2 : a ≠ b → y) : br (a == b) x y :=
 br_intro (fun h => h1 (by simpa using h)) (fun h => h2 (by simpa using h))
theorem br_kt {p : Prop} {i : Decidable p} {x y : Prop} (hp : p) (h : x) : br (@decide p i) x y := .t (decide_eq_true hp) h
theorem br_kf {p : Prop} {i : Decidable p} {x y : Prop} (hp : ¬ p) (h : y) : br (@decide p i) x y := .f (decide_eq_false hp) h
theorem br_nt {a b : Int} {x y : Prop} (hp : a ≠ b) (h : x) : br (a != b) x y := .t (by simpa using hp) h
theorem br_nf {a b : Int} {x y : Prop} (hp : a = b) (h : y) : br (a != b) x y := .f (by simpa using hp) h
theorem br_et {a b : Int} {x y : Prop} (hp : a = b) (h : x) : br (a == b) x y := .t (by simpa using hp) h
theorem br_ef {a b : Int} {x y : Prop} (hp : a ≠ b) (h : y) : br (a == b) x y := .f (by simpa using hp) h
theorem need_in {p : Prop} {i : Decidable p} {x : Prop} (hp : p) (h : x) : @need p i x := @need.mk p i x hp h
theorem idx_nat {α : Type} {l : List α} {i : Nat} {k : α → Prop} (h1 : i < l.length) (h : ∀ x, l[i]? = some x → k x) : idx l (i : Int) k :=
 idx_intro (by omega) (by omega) (fun x hx => h x (by simpa using hx))
theorem idx_kn {α : Type} {l : List α} {i : Nat} {y : α} {k : α → Prop} (hy : l[i]? = some y) (h : k y) : idx l (i : Int) k :=
 .mk y (by omega) (by simpa using hy) h
theorem idx_ki {α : Type} {l : List α} {i : Int} {y : α} {k : α → Prop} (hy : l[i.toNat]? = some y) (h0 : 0 ≤ i) (h : k y) : idx l i k :=
 .mk y h0 hy h
theorem idx_cl {α : Type} {l : List α} {i : Int} {k : α → Prop} (h : match l[i.toNat]? with | some x => (0 ≤ i ∧ i < l.length) ∧ k x | none => False) : idx l i k := by
 split at h
 ·rename_i x hx
  exact idx_intro h.1.1 h.1.2 (fun y hy => by rw [hx] at hy; cases hy; exact h.2)
 ·exact h.elim
/-! ### The same, with what is asked found by itself -/
theorem auT {b : Bool} {x y : Prop} (h : x) (hb : b = true := by first | with_reducible exact rfl | assumption | decide) : br b x y := .t hb h
theorem auF {b : Bool} {x y : Prop} (h : y) (hb : b = false := by first | with_reducible exact rfl | assumption | decide) : br b x y := .f hb h
theorem auKt {p : Prop} {i : Decidable p} {x y : Prop} (h : x) (hp : p := by assumption) : br (@decide p i) x y := br_kt hp h
theorem auKf {p : Prop} {i : Decidable p} {x y : Prop} (h : y) (hp : ¬ p := by assumption) : br (@decide p i) x y := br_kf hp h
theorem auNt {a b : Int} {x y : Prop} (h : x) (hp : a ≠ b := by assumption) : br (a != b) x y := br_nt hp h
theorem auNf {a b : Int} {x y : Prop} (h : y) (hp : a = b := by assumption) : br (a != b) x y := br_nf hp h
theorem auEt {a b : Int} {x y : Prop} (h : x) (hp : a = b := by assumption) : br (a == b) x y := br_et hp h
theorem auEf {a b : Int} {x y : Prop} (h : y) (hp : a ≠ b := by assumption) : br (a == b) x y := br_ef hp h
theorem auNd {p : Prop} {i : Decidable p} {x : Prop} (h : x) (hp : p := by first | exact trivial | assumption | exact ⟨rfl, Nat.le_refl _⟩ | exact ⟨rfl, rfl⟩ | (simp only [inR]; omega) | omega | (simp only [roomP, true_and, and_true, List.length_take, List.length_drop, List.length_append, List.length_cons, List.length_nil, List.length_set, List.length_replicate]; omega) | (refine ⟨by first | exact trivial | rfl, by first | exact Nat.le_refl _ | omega | (simp; omega), ?_⟩; change roomP _ _ 1; simp only [roomP]; omega) | (change roomP _ _ 1; simp only [roomP]; omega) | (simp; omega) | (simp [inR]; omega) | (simp [inR]; done) | decide | (simp; done) | exact ⟨by first | omega | (simp; omega), by assumption⟩) : @need p i x := need_in hp h
theorem auIx {α : Type} {l : List α} {i : Int} {k : α → Prop} (h : ∀ x, l[i.toNat]? = some x → k x) (h0 : 0 ≤ i := by first | omega | (simp; omega) | (simp; done)) (h1 : i < l.length := by first | omega | (simp; omega) | (simp; done)) : idx l i k := idx_intro h0 h1 h
theorem auIk {α : Type} {l : List α} {i : Nat} {y : α} {k : α → Prop} (h : k y) (hy : l[i]? = some y := by assumption) : idx l (i : Int) k := idx_kn hy h
theorem auIi {α : Type} {l : List α} {i : Int} {y : α} {k : α → Prop} (h : k y) (hy : l[i.toNat]? = some y := by assumption) (h0 : 0 ≤ i := by omega) : idx l i k := idx_ki hy h0 h
theorem loop_inv {ms : List Nat} {body : (Tr → Hp → Prop) → Tr → Hp → Prop} {f : Tr} {h : Hp} (nz : List NZ) (cs : List Nat) (J : List AV → Hp → Prop) (μ : List AV → Hp → Nat) (hh : normK nz f h fun f h => J (cs.map f.get) h ∧
  ∀ vs h', vs.length = cs.length → J vs h' →
   eraseK f ms fun f0 => setsK f0 cs vs fun f1 => body (fun f2 h2 => backP ms cs f0 h.length J μ (μ vs h') f2 h2) f1 h') : loopP ms body f h :=
 .mk (.inr ⟨nz, cs, J, μ, hh⟩)
theorem back_intro {ms cs : List Nat} {f0 : Tr} {L : Nat} {J : List AV → Hp → Prop} {μ : List AV → Hp → Nat} {m : Nat} {f2 : Tr} {h2 : Hp} (h1 : eraseK f2 ms fun f => f = f0) (h3 : cutOk L (cs.map fun c => viewB L h2 (f2.get c)) h2 = true) (hJ : J (cs.map fun c => viewB L h2 (f2.get c)) (h2.take L)) (hm : μ (cs.map fun c => viewB L h2 (f2.get c)) (h2.take L) < m) : backP ms cs f0 L J μ m f2 h2 :=
 .mk [] (show backQ ms cs f0 L J μ m f2 h2 from ⟨by rw [erase_eq] at h1; exact h1, h3, hJ, hm⟩)
theorem bx_intro {α : Type} {m : List (Nat × α)} {P : Nat → Prop} (h : ∀ b, lkB m b = none → P b) : bxP m P := .mk h
theorem bx_idx {α : Type} {m : List (Nat × α)} {b : Nat} {x : α} {k : α → Prop} (hk : k x) (h : lkB m b = some x := by assumption) : idx (bxL m b) 0 k :=
 idx_ki (i := 0) (show (bxL m b)[0]? = some x by unfold bxL; rw [h]; rfl) (Int.le_refl _) hk
theorem frz_auto {xs : List AV} {P : Tr → Hp → Prop} {f : Tr} {h : Hp} (hh : normK (autoNZ xs f h) f h P) : frzP xs P f h := .mk _ hh
theorem draw_plain {P : Tr → Hp → Prop} {f : Tr} {h : Hp} (hh : P f h) : drawP P f h := .mk [] hh
theorem loop_turns {ms : List Nat} {body : (Tr → Hp → Prop) → Tr → Hp → Prop} {f : Tr} {h : Hp} (n : Nat) (hh : turns n body f h) : loopP ms body f h := .mk (.inl ⟨n, hh⟩)
section
variable {P : Program}
theorem SpecsOk.nil : SpecsOk P [] := fun g sp h => by cases h
theorem SpecsOk.consF {g : FuncId} {sp : FSpec} {l : List (FuncId × Spec)} (h : FreshOk P g sp) (hl : SpecsOk P l) : SpecsOk P ((g, .f sp) :: l) := by
 intro g' sp' h'
 simp only [lks] at h'
 cases hb : Nat.beq g g' with
 | true =>
  rw [hb] at h'
  have := Nat.eq_of_beq_eq_true hb
  cases h'
  exact this ▸ h
 | false =>
  rw [hb] at h'
  exact hl g' sp' h'
theorem SpecsOk.cons {g : FuncId} {sp : DSpec} {l : List (FuncId × Spec)} (h : SpecOk P g sp) (hl : SpecsOk P l) : SpecsOk P ((g, .d sp) :: l) := by
 intro g' sp' h'
 simp only [lks] at h'
 cases hb : Nat.beq g g' with
 | true =>
  rw [hb] at h'
  have := Nat.eq_of_beq_eq_true hb
  cases h'
  exact this ▸ h
 | false =>
  rw [hb] at h'
  exact hl g' sp' h'
def nzV : Option Ty → AV → AV
 | some t, .nsl => .lst t []
 | _, v => v
def nzL : List (Option Ty) → List AV → List AV
 | t :: ts, v :: vs => nzV t v :: nzL ts vs
 | _, vs => vs
theorem nzV_R {s : St} {t : Option Ty} {v : AV} {c : Value} (h : R s v c) : R s (nzV t v) c := by
 unfold nzV
 split
 ·simp only [R] at h ⊢
  subst h
  exact ⟨none, 0, rfl, by simp, fun h => absurd rfl h⟩
 ·exact h
theorem nzL_RL {s : St} : ∀ (ts : List (Option Ty)) (vs : List AV) (cs : List Value), RL s vs cs → RL s (nzL ts vs) cs
 | [], vs, cs, h => by simpa only [nzL] using h
 | t :: ts, [], cs, h => by simpa only [nzL] using h
 | t :: ts, v :: vs, cs, h => by
  simp only [nzL, RL] at h ⊢
  obtain ⟨c, cs', rfl, h1, h2⟩ := h
  exact ⟨c, cs', rfl, nzV_R h1, nzL_RL ts vs cs' h2⟩
def nz (ts : List (Option Ty)) (sp : DSpec) : DSpec := fun ys => sp (nzL ts ys)
theorem SpecOk.nz {g : FuncId} {sp : DSpec} (h : SpecOk P g sp) (ts : List (Option Ty)) : SpecOk P g (nz ts sp) :=
 ⟨h.1, fun ys p r hsp hp s hok hh cs hr => h.2 (nzL ts ys) p r hsp hp s hok hh cs (nzL_RL ts ys cs hr)⟩
end
end Av
namespace Go.Proofs.Ytkjoofinfhdcaaa
open Av
def tb : Tb := [
 (1, ⟨.fn, 1, 8, [.nilfn], none, []⟩),
 (2, ⟨.int .i64, 1, 8, [.int .i64 0], some (.int .i64), []⟩),
 (3, ⟨.int .i64, 1, 8, [.int .i64 0], some (.int .i64), []⟩),
 (4, ⟨.bool, 1, 1, [.bool false], some .bool, []⟩),
 (5, ⟨.int .u8, 1, 1, [.int .u8 0], some (.int .u8), []⟩),
 (9, ⟨.str, 1, 16, [.str ⟨#[]⟩], some .str, []⟩),
 (12, ⟨.int .u64, 1, 8, [.int .u64 0], some (.int .u64), []⟩),
 (20, ⟨.ifc, 1, 16, [.nili], none, []⟩),
 (21, ⟨.int .i32, 1, 4, [.int .i32 0], some (.int .i32), []⟩),
 (22, ⟨.sl 25, 1, 24, [.zsl (.st [.str, .str, .bool, (.int .i64)])], some (.sl (.st [.str, .str, .bool, (.int .i64)])), []⟩),
 (23, ⟨.fn, 1, 8, [.nilfn], none, []⟩),
 (25, ⟨.st [(9, 0), (9, 1), (4, 2), (2, 3)], 4, 48, [.str ⟨#[]⟩, .str ⟨#[]⟩, .bool false, .int .i64 0], some (.st [.str, .str, .bool, (.int .i64)]), []⟩),
 (27, ⟨.st [(3, 0), (22, 1)], 2, 32, [.int .i64 0, .zsl (.st [.str, .str, .bool, (.int .i64)])], some (.st [(.int .i64), (.sl (.st [.str, .str, .bool, (.int .i64)]))]), []⟩),
 (28, ⟨.int .i64, 1, 8, [.int .i64 0], some (.int .i64), []⟩),
 (30, ⟨.fn, 1, 8, [.nilfn], none, []⟩),
 (31, ⟨.fn, 1, 8, [.nilfn], none, []⟩),
 (32, ⟨.fn, 1, 8, [.nilfn], none, []⟩),
 (33, ⟨.fn, 1, 8, [.nilfn], none, []⟩),
 (34, ⟨.ptr 65, 1, 8, [.nilp], none, [("Add", 18), ("Fork", 27), ("Last", 17), ("Len", 21), ("Room", 20), ("Seal", 19), ("bookend/builder.is", 35)]⟩),
 (36, ⟨.fn, 1, 8, [.nilfn], none, []⟩),
 (38, ⟨.fn, 1, 8, [.nilfn], none, []⟩),
 (39, ⟨.fn, 1, 8, [.nilfn], none, []⟩),
 (40, ⟨.fn, 1, 8, [.nilfn], none, []⟩),
 (41, ⟨.fn, 1, 8, [.nilfn], none, []⟩),
 (43, ⟨.fn, 1, 8, [.nilfn], none, []⟩),
 (44, ⟨.fn, 1, 8, [.nilfn], none, []⟩),
 (45, ⟨.fn, 1, 8, [.nilfn], none, []⟩),
 (46, ⟨.sl 5, 1, 24, [.zsl (.int .u8)], some (.sl (.int .u8)), []⟩),
 (47, ⟨.fn, 1, 8, [.nilfn], none, []⟩),
 (48, ⟨.sl 57, 1, 24, [.zsl (.st [(.int .u8), (.st [.str, .str, .bool, (.int .i64)]), (.int .i64)])], some (.sl (.st [(.int .u8), (.st [.str, .str, .bool, (.int .i64)]), (.int .i64)])), []⟩),
 (49, ⟨.fn, 1, 8, [.nilfn], none, []⟩),
 (50, ⟨.ptr 72, 1, 8, [.nilp], none, [("Add", 39), ("Fork", 28), ("Last", 41), ("Len", 42), ("Room", 43), ("Seal", 29), ("bookend/bookendref06.none", 40)]⟩),
 (52, ⟨.fn, 1, 8, [.nilfn], none, []⟩),
 (53, ⟨.sl 34, 1, 24, [.nsl], none, []⟩),
 (54, ⟨.sl 50, 1, 24, [.nsl], none, []⟩),
 (55, ⟨.fn, 1, 8, [.nilfn], none, []⟩),
 (56, ⟨.st [(5, 0), (25, 1), (3, 5)], 6, 64, [.int .u8 0, .str ⟨#[]⟩, .str ⟨#[]⟩, .bool false, .int .i64 0, .int .i64 0], some (.st [(.int .u8), (.st [.str, .str, .bool, (.int .i64)]), (.int .i64)]), []⟩),
 (57, ⟨.st [(5, 0), (25, 1), (3, 5)], 6, 64, [.int .u8 0, .str ⟨#[]⟩, .str ⟨#[]⟩, .bool false, .int .i64 0, .int .i64 0], some (.st [(.int .u8), (.st [.str, .str, .bool, (.int .i64)]), (.int .i64)]), []⟩),
 (58, ⟨.fn, 1, 8, [.nilfn], none, []⟩),
 (59, ⟨.fn, 1, 8, [.nilfn], none, []⟩),
 (60, ⟨.fn, 1, 8, [.nilfn], none, []⟩),
 (61, ⟨.fn, 1, 8, [.nilfn], none, []⟩),
 (63, ⟨.st [(3, 0), (22, 1)], 2, 32, [.int .i64 0, .zsl (.st [.str, .str, .bool, (.int .i64)])], some (.st [(.int .i64), (.sl (.st [.str, .str, .bool, (.int .i64)]))]), []⟩),
 (65, ⟨.st [(63, 0), (3, 2)], 3, 40, [.int .i64 0, .zsl (.st [.str, .str, .bool, (.int .i64)]), .int .i64 0], some (.st [(.st [(.int .i64), (.sl (.st [.str, .str, .bool, (.int .i64)]))]), (.int .i64)]), []⟩),
 (66, ⟨.fn, 1, 8, [.nilfn], none, []⟩),
 (67, ⟨.fn, 1, 8, [.nilfn], none, []⟩),
 (68, ⟨.fn, 1, 8, [.nilfn], none, []⟩),
 (69, ⟨.fn, 1, 8, [.nilfn], none, []⟩),
 (70, ⟨.fn, 1, 8, [.nilfn], none, []⟩),
 (72, ⟨.st [(3, 0), (22, 1), (4, 2)], 3, 40, [.int .i64 0, .zsl (.st [.str, .str, .bool, (.int .i64)]), .bool false], some (.st [(.int .i64), (.sl (.st [.str, .str, .bool, (.int .i64)])), .bool]), []⟩),
 (73, ⟨.ptr 63, 1, 8, [.nilp], none, [("bookend/builder.count", 37), ("bookend/builder.fits", 36)]⟩),
 (74, ⟨.fn, 1, 8, [.nilfn], none, []⟩),
 (75, ⟨.fn, 1, 8, [.nilfn], none, []⟩),
 (81, ⟨.int .u32, 1, 4, [.int .u32 0], some (.int .u32), []⟩),
 (84, ⟨.fn, 1, 8, [.nilfn], none, []⟩),
 (85, ⟨.ptr 5, 1, 8, [.nilp], none, []⟩)]
theorem tbOk : TbOk Try.prog tb := TbOk.of_all (by kernel_rfl)
noncomputable def fns : List (FuncId × Func) := [(3, Try.f3), (4, Try.f4), (5, Try.f5), (6, Try.f6), (7, Try.f7), (8, Try.f8), (9, Try.f9), (10, Try.f10), (11, Try.f11), (12, Try.f12), (13, Try.f13), (14, Try.f14), (15, Try.f15), (16, Try.f16), (17, Try.f17), (18, Try.f18), (19, Try.f19), (20, Try.f20), (21, Try.f21), (22, Try.f22), (23, Try.f23), (24, Try.f24), (25, Try.f25), (26, Try.f26), (27, Try.f27), (28, Try.f28), (29, Try.f29), (30, Try.f30), (31, Try.f31), (32, Try.f32), (33, Try.f33), (34, Try.f34), (35, Try.f35), (36, Try.f36), (37, Try.f37), (38, Try.f38), (39, Try.f39), (40, Try.f40), (41, Try.f41), (42, Try.f42), (43, Try.f43), (44, Try.f44), (45, Try.f45), (46, Try.f46)]
end Go.Proofs.Ytkjoofinfhdcaaa
namespace Go.Proofs.Ytkjoofinfhdcaaa
open Av

theorem mixed : Try.prog.follows .mixedOrders = true := by kernel_rfl
noncomputable def cx0 : Cx := ⟨tb, [], []⟩
abbrev entT : Ty := .st [.str, .str, .bool, .int .i64]

set_option maxRecDepth 100000 in
theorem fnOk_refCheck : FnOk Try.prog 31 Try.f31 := ⟨by rfl, by kernel_rfl, by
 show okCode _ _ = true ∧ drawsOk _ = true
 exact ⟨by kernel_rfl, by kernel_rfl⟩⟩
def errE (k v : ByteArray) (d : Bool) (s : Int) : Int := bif decide (32 < (k.size : Int)) || decide (64 < (v.size : Int)) then 3 else bif d && !(sEq v ⟨#[]⟩) then 6 else bif decide (s < 1) || decide (1000000000 < s) then 7 else 0
def spCheck : DSpec
 | [.agg [.str k, .str v, .bool d, .int .i64 s]] => some (True, .int .i64 (errE k v d s))
 | _ => none
theorem refCheck_ok : SpecOk Try.prog 31 spCheck := by
 refine spec_body (C := cx0) mixed tbOk SpecsOk.nil (callN_ok (C := cx0) mixed tbOk SpecsOk.nil FnsOk.nil 0) fnOk_refCheck ?_
 intro ys p r h hp
 unfold spCheck at h
 split at h
 ·rename_i k v d s
  cases h
  conv => whnf
  repeat' first | ((first | refine auT ?_ | refine auF ?_ | with_reducible first | refine auKt ?_ | refine auKf ?_ | refine auNt ?_ | refine auNf ?_ | refine auEt ?_ | refine auEf ?_); conv => whnf) | ((with_reducible first | refine br_dec ?_ ?_ | refine br_ndec ?_ ?_ | refine br_ne ?_ ?_ | refine br_eq ?_ ?_) <;> intro h <;> first | (exfalso; omega) | conv => whnf) | (refine br_intro ?_ ?_ <;> intro h <;> conv => whnf) | ((first | refine auNd ?_ | refine idx_nat (by omega) (fun x hx => ?_) | refine frz_auto ?_ | refine draw_plain ?_ | refine auIx (fun x hx => ?_)); conv => whnf)
  all_goals (refine congrArg (AV.int .i64) ?_; simp [errE, *])
 ·cases h

def errX (x : entT.El) : Int := errE x.1 x.2.1 x.2.2.1 x.2.2.2.1
theorem take_succ_all {α : Type} {p : α → Prop} {l : List α} {i : Nat} {x : α} (h : ∀ y ∈ l.take i, p y) (hx : l[i]? = some x) (hp : p x) : ∀ y ∈ l.take (i + 1), p y := by
 intro y hy
 rw [List.take_add_one, hx] at hy
 rcases List.mem_append.1 hy with h1 | h1
 ·exact h y h1
 ·simp at h1; subst h1; exact hp
end Go.Proofs.Ytkjoofinfhdcaaa
namespace Go.Proofs.Ytkjoofinfhdcaaa
open Av

set_option maxRecDepth 100000 in
theorem fnOk_keysCheck : FnOk Try.prog 46 Try.f46 := ⟨by rfl, by kernel_rfl, by
 show okCode _ _ = true ∧ drawsOk _ = true
 exact ⟨by kernel_rfl, by kernel_rfl⟩⟩
def spKey : DSpec
 | [.str k] => some (True, .int .i64 (bif decide (32 < (k.size : Int)) then 3 else 0))
 | _ => none
theorem keysCheck_ok : SpecOk Try.prog 46 spKey := by
 refine spec_body (C := cx0) mixed tbOk SpecsOk.nil (callN_ok (C := cx0) mixed tbOk SpecsOk.nil FnsOk.nil 0) fnOk_keysCheck ?_
 intro ys p r h hp
 unfold spKey at h
 split at h
 ·rename_i k
  cases h
  conv => whnf
  repeat' first | ((first | refine auT ?_ | refine auF ?_ | with_reducible first | refine auKt ?_ | refine auKf ?_ | refine auNt ?_ | refine auNf ?_ | refine auEt ?_ | refine auEf ?_); conv => whnf) | ((with_reducible first | refine br_dec ?_ ?_ | refine br_ndec ?_ ?_ | refine br_ne ?_ ?_ | refine br_eq ?_ ?_) <;> intro h <;> first | (exfalso; omega) | conv => whnf) | (refine br_intro ?_ ?_ <;> intro h <;> conv => whnf) | ((first | refine auNd ?_ | refine idx_nat (by omega) (fun x hx => ?_) | refine frz_auto ?_ | refine draw_plain ?_ | refine auIx (fun x hx => ?_)); conv => whnf)
  all_goals (refine congrArg (AV.int .i64) ?_; simp [*])
 ·cases h
set_option maxRecDepth 100000 in
theorem fnOk_entCheck : FnOk Try.prog 44 Try.f44 := ⟨by rfl, by kernel_rfl, by
 show okCode _ _ = true ∧ drawsOk _ = true
 exact ⟨by kernel_rfl, by kernel_rfl⟩⟩
noncomputable def cx5 : Cx := ⟨tb, [], [(46, spKey)]⟩
theorem specs5 : SpecsOk Try.prog cx5.specs := .cons keysCheck_ok .nil
set_option maxRecDepth 100000 in
set_option maxHeartbeats 2000000 in
theorem entCheck_ok : SpecOk Try.prog 44 spCheck := by
 refine spec_body (C := cx5) mixed tbOk specs5 (callN_ok (C := cx5) mixed tbOk specs5 FnsOk.nil 0) fnOk_entCheck ?_
 intro ys p r h hp
 unfold spCheck at h
 split at h
 ·rename_i k v d s
  cases h
  conv => whnf
  repeat' first | ((first | refine auT ?_ | refine auF ?_ | with_reducible first | refine auKt ?_ | refine auKf ?_ | refine auNt ?_ | refine auNf ?_ | refine auEt ?_ | refine auEf ?_); conv => whnf) | ((with_reducible first | refine br_dec ?_ ?_ | refine br_ndec ?_ ?_ | refine br_ne ?_ ?_ | refine br_eq ?_ ?_) <;> intro h <;> first | (exfalso; omega) | conv => whnf) | (refine br_intro ?_ ?_ <;> intro h <;> conv => whnf) | ((first | refine auNd ?_ | refine idx_nat (by omega) (fun x hx => ?_) | refine frz_auto ?_ | refine draw_plain ?_ | refine auIx (fun x hx => ?_)); conv => whnf)
  all_goals (refine congrArg (AV.int .i64) ?_; grind [errE])
 ·cases h
end Go.Proofs.Ytkjoofinfhdcaaa
namespace Go.Proofs.Ytkjoofinfhdcaaa
open Av

def comL : List UInt8 → List UInt8 → Nat
 | a :: x, b :: y => if a = b then comL x y + 1 else 0
 | _, _ => 0
theorem comL_end : ∀ (i : Nat) (x y : List UInt8), x.take i = y.take i → i ≤ x.length → i ≤ y.length → (i = x.length ∨ i = y.length ∨ ∃ a b, x[i]? = some a ∧ y[i]? = some b ∧ a ≠ b) → comL x y = i
 | 0, [], _, _, _, _, _ => by simp [comL]
 | 0, _ :: _, [], _, _, _, _ => by simp [comL]
 | 0, a :: x, b :: y, _, _, _, h => by
  rcases h with h | h | ⟨a', b', h1, h2, h3⟩
  ·simp at h
  ·simp at h
  ·simp at h1 h2
   subst h1 h2
   simp [comL, h3]
 | i + 1, [], _, _, h, _, _ => by simp at h
 | i + 1, _ :: _, [], _, _, h, _ => by simp at h
 | i + 1, a :: x, b :: y, ht, h1, h2, h => by
  simp only [List.take_succ_cons, List.cons.injEq] at ht
  obtain ⟨rfl, ht⟩ := ht
  simp only [comL, if_true]
  rw [comL_end i x y ht (by simpa using h1) (by simpa using h2) (by simpa using h)]
theorem take_snoc {x y : List UInt8} {i : Nat} {c : UInt8} (ht : x.take i = y.take i) (hx : x[i]? = some c) (hy : y[i]? = some c) : x.take (i + 1) = y.take (i + 1) := by
 rw [List.take_add_one, List.take_add_one, hx, hy, ht]
def spCommon : DSpec
 | [.str a, .str b] => some ((a.size : Int) ≤ 9223372036854775807, .int .i64 (comL a.data.toList b.data.toList : Nat))
 | _ => none
set_option maxRecDepth 100000 in
theorem fnOk_refCommon : FnOk Try.prog 45 Try.f45 := ⟨by rfl, by kernel_rfl, by
 show okCode _ _ = true ∧ drawsOk _ = true
 exact ⟨by kernel_rfl, by kernel_rfl⟩⟩
set_option maxRecDepth 100000 in
set_option maxHeartbeats 2000000 in
theorem refCommon_ok : SpecOk Try.prog 45 spCommon := by
 refine spec_body (C := cx0) mixed tbOk SpecsOk.nil (callN_ok (C := cx0) mixed tbOk SpecsOk.nil FnsOk.nil 0) fnOk_refCommon ?_
 intro ys p r h hp
 unfold spCommon at h
 split at h
 ·rename_i a b
  cases h
  have la : a.data.toList.length = a.size := Array.length_toList
  have lb : b.data.toList.length = b.size := Array.length_toList
  conv => whnf
  refine loop_inv [] [5] (fun vs h => ∃ i : Nat, vs = [.int .i64 (i : Int)] ∧ h = [] ∧ i ≤ a.size ∧ i ≤ b.size ∧ a.data.toList.take i = b.data.toList.take i) (fun vs _ => match vs with | [.int _ k] => a.size - k.toNat | _ => 0) ?_
  refine ⟨⟨0, rfl, rfl, by omega, by omega, by simp⟩, ?_⟩
  rintro vs h' - ⟨i, rfl, rfl, hi, hj, hall⟩
  conv => whnf
  repeat' first | ((first | refine auT ?_ | refine auF ?_ | with_reducible first | refine auKt ?_ | refine auKf ?_ | refine auNt ?_ | refine auNf ?_ | refine auEt ?_ | refine auEf ?_); conv => whnf) | ((with_reducible first | refine br_dec ?_ ?_ | refine br_ndec ?_ ?_ | refine br_ne ?_ ?_ | refine br_eq ?_ ?_) <;> intro h <;> first | (exfalso; omega) | conv => whnf) | (refine br_intro ?_ ?_ <;> intro h <;> conv => whnf) | ((first | refine auNd ?_ | refine idx_nat (by omega) (fun x hx => ?_) | refine frz_auto ?_ | refine draw_plain ?_ | refine auIx (fun x hx => ?_)); conv => whnf)
  ·rename_i h1 h2 c hc
   have hcx : c = x := UInt8.toNat_inj.1 (by omega)
   subst hcx
   refine back_intro (by conv => whnf) rfl ⟨i + 1, rfl, rfl, by omega, by omega, take_snoc hall hc hx⟩ ?_
   show a.size - ((i : Int) + 1).toNat < a.size - (i : Int).toNat
   omega
  ·rename_i h1 h2 c hc
   exact congrArg (fun n : Nat => AV.int .i64 (n : Int)) (comL_end i _ _ hall (by omega) (by omega) (.inr (.inr ⟨c, x, hc, hx, fun e => h (by rw [e])⟩))).symm
  ·exact congrArg (fun n : Nat => AV.int .i64 (n : Int)) (comL_end i _ _ hall (by omega) (by omega) (.inr (.inl (by omega)))).symm
  ·exact congrArg (fun n : Nat => AV.int .i64 (n : Int)) (comL_end i _ _ hall (by omega) (by omega) (.inl (by omega))).symm
 ·cases h
end Go.Proofs.Ytkjoofinfhdcaaa
namespace Bk
open Go
theorem bl_irrefl : ∀ a : List UInt8, Op.bytesLess a a = false
 | [] => rfl
 | a :: x => by
  have := bl_irrefl x
  simp [Op.bytesLess, this]
theorem bl_trans : ∀ a b c : List UInt8, Op.bytesLess a b = true → Op.bytesLess b c = true → Op.bytesLess a c = true
 | _, _, [], _, h2 => by cases ‹List UInt8› <;> simp [Op.bytesLess] at h2
 | _, [], _ :: _, h1, _ => by simp [Op.bytesLess] at h1
 | [], _ :: _, _ :: _, _, _ => rfl
 | a :: x, b :: y, c :: z, h1, h2 => by
  simp only [Op.bytesLess, Bool.or_eq_true, Bool.and_eq_true, decide_eq_true_eq, beq_iff_eq] at h1 h2 ⊢
  rcases h1 with h1 | ⟨rfl, h1⟩
  ·rcases h2 with h2 | ⟨rfl, h2⟩
   ·exact .inl (UInt8.lt_trans h1 h2)
   ·exact .inl h1
  ·rcases h2 with h2 | ⟨rfl, h2⟩
   ·exact .inl h2
   ·exact .inr ⟨rfl, bl_trans x y z h1 h2⟩
theorem bl_total : ∀ a b : List UInt8, Op.bytesLess a b = false → Op.bytesLess b a = false → a = b
 | [], [], _, _ => rfl
 | [], _ :: _, h, _ => by simp [Op.bytesLess] at h
 | _ :: _, [], _, h => by simp [Op.bytesLess] at h
 | a :: x, b :: y, h1, h2 => by
  simp only [Op.bytesLess, Bool.or_eq_false_iff, Bool.and_eq_false_iff, decide_eq_false_iff_not, beq_eq_false_iff_ne] at h1 h2
  have hab : a = b := UInt8.le_antisymm (UInt8.not_lt.1 h2.1) (UInt8.not_lt.1 h1.1)
  subst hab
  rw [bl_total x y (h1.2.resolve_left (by simp)) (h2.2.resolve_left (by simp))]
end Bk
namespace Bk
open Go

def ordL (x y : List UInt8) : Int := if x = y then 0 else if Op.bytesLess x y then -1 else 1
theorem ordL_cons (a : UInt8) (x y : List UInt8) : ordL (a :: x) (a :: y) = ordL x y := by
 have h : Op.bytesLess (a :: x) (a :: y) = Op.bytesLess x y := by simp [Op.bytesLess]
 unfold ordL
 rw [h]
 simp
theorem ordL_nil : ordL [] [] = 0 := rfl
theorem ordL_less (b : UInt8) (y : List UInt8) : ordL [] (b :: y) = -1 := rfl
theorem ordL_more (a : UInt8) (x : List UInt8) : ordL (a :: x) [] = 1 := rfl
theorem ordL_ne {a b : UInt8} (x y : List UInt8) (h : a ≠ b) : ordL (a :: x) (b :: y) = if a < b then -1 else 1 := by
 unfold ordL
 rw [if_neg (by simp [h])]
 simp [Op.bytesLess, h]
end Bk
namespace Go.Proofs.Ytkjoofinfhdcaaa
open Av Bk

theorem comL_left : ∀ x y : List UInt8, comL x y ≤ x.length
 | [], _ => by simp [comL]
 | _ :: _, [] => by simp [comL]
 | a :: x, b :: y => by
  simp only [comL]
  split
  ·simpa using comL_left x y
  ·simp
theorem comL_right : ∀ x y : List UInt8, comL x y ≤ y.length
 | [], _ => by simp [comL]
 | _ :: _, [] => by simp [comL]
 | a :: x, b :: y => by
  simp only [comL]
  split
  ·simpa using comL_right x y
  ·simp
theorem ordL_com : ∀ x y : List UInt8, ordL x y = if comL x y = x.length ∧ comL x y = y.length then 0 else if comL x y = x.length then -1 else if comL x y = y.length then 1 else
  if (x[comL x y]?.getD 0) < (y[comL x y]?.getD 0) then -1 else 1
 | [], [] => by simp [comL, ordL_nil]
 | [], b :: y => by simp [comL, ordL_less]
 | a :: x, [] => by simp [comL, ordL_more]
 | a :: x, b :: y => by
  by_cases h : a = b
  ·subst h
   rw [ordL_cons, ordL_com x y]
   simp [comL]
  ·rw [ordL_ne x y h]
   simp [comL, h]
def spOrder : DSpec
 | [.str a, .str b] => some ((a.size : Int) ≤ 9223372036854775807, .int .i64 (ordL a.data.toList b.data.toList))
 | _ => none
set_option maxRecDepth 100000 in
theorem fnOk_refOrder : FnOk Try.prog 38 Try.f38 := ⟨by rfl, by kernel_rfl, by
 show okCode _ _ = true ∧ drawsOk _ = true
 exact ⟨by kernel_rfl, by kernel_rfl⟩⟩
noncomputable def cx2 : Cx := ⟨tb, [], [(45, spCommon)]⟩
theorem specs2 : SpecsOk Try.prog cx2.specs := .cons refCommon_ok .nil
set_option maxRecDepth 100000 in
set_option maxHeartbeats 2000000 in
theorem refOrder_ok : SpecOk Try.prog 38 spOrder := by
  refine spec_body (C := cx2) mixed tbOk specs2 (callN_ok (C := cx2) mixed tbOk specs2 FnsOk.nil 0) fnOk_refOrder ?_
  intro ys p r h hp
  unfold spOrder at h
  split at h
  · rename_i a b
    cases h
    have la : a.data.toList.length = a.size := Array.length_toList
    have lb : b.data.toList.length = b.size := Array.length_toList
    have ca := comL_left a.data.toList b.data.toList
    have cb := comL_right a.data.toList b.data.toList
    have ho := ordL_com a.data.toList b.data.toList
    conv => whnf
    refine need_in hp ?_
    conv => whnf
    repeat' first | ((first | refine auT ?_ | refine auF ?_ | with_reducible first | refine auKt ?_ | refine auKf ?_ | refine auNt ?_ | refine auNf ?_ | refine auEt ?_ | refine auEf ?_); conv => whnf) | ((with_reducible first | refine br_dec ?_ ?_ | refine br_ndec ?_ ?_ | refine br_ne ?_ ?_ | refine br_eq ?_ ?_) <;> intro h <;> first | (exfalso; omega) | conv => whnf) | (refine br_intro ?_ ?_ <;> intro h <;> conv => whnf) | ((first | refine auNd ?_ | refine idx_nat (by omega) (fun x hx => ?_) | refine frz_auto ?_ | refine draw_plain ?_ | refine auIx (fun x hx => ?_)); conv => whnf)
    all_goals refine congrArg (AV.int .i64) ?_
    all_goals first
      | (exfalso; omega)
      | rw [ho, if_pos ⟨by omega, by omega⟩]
      | rw [ho, if_neg (by omega), if_pos (by omega)]
      | rw [ho, if_neg (by omega), if_neg (by omega), if_pos (by omega)]
      | (rename_i c hc
         rw [ho, if_neg (by omega), if_neg (by omega), if_neg (by omega), hc, hx]
         simp only [Option.getD_some]
         first
           | rw [if_pos (UInt8.lt_iff_toNat_lt.2 (by omega))]
           | rw [if_neg (fun e => by have := UInt8.lt_iff_toNat_lt.1 e; omega)])
  · cases h
end Go.Proofs.Ytkjoofinfhdcaaa
namespace Go.Proofs.Ytkjoofinfhdcaaa
open Av Bk

theorem cast_self {t : Ty} (h : t = t) (l : List t.El) : (h ▸ l : List t.El) = l := rfl
theorem sEq_refl (a : ByteArray) : sEq a a = true := by simp [sEq]
theorem eqT_refl (x : entT.El) : eqT entT x x = true := by
 have e : ∀ (a b : ByteArray) (c : Bool) (d : Int), eqT entT (a, b, c, d, ()) (a, b, c, d, ()) = true := fun a b c d => by
  show (sEq a a && (sEq b b && (c == c && d == d))) = true
  rw [sEq_refl, sEq_refl, beq_self_eq_true, beq_self_eq_true]
  rfl
 exact e x.1 x.2.1 x.2.2.1 x.2.2.2.1
def sameL (t : Ty) : List t.El → List t.El → Bool
 | [], [] => true
 | x :: a, y :: b => eqT t x y && sameL t a b
 | _, _ => false
theorem bnt {b : Bool} (h : (!b) = true) : b = false := by simpa using h
theorem bnf {b : Bool} (h : (!b) = false) : b = true := by simpa using h
theorem same_len {t : Ty} : ∀ {a b : List t.El}, a.length ≠ b.length → sameL t a b = false
 | [], [], h => absurd rfl h
 | [], _ :: _, _ => rfl
 | _ :: _, [], _ => rfl
 | x :: a, y :: b, h => by
  rw [sameL, same_len (a := a) (b := b) (fun e => h (by simp [e]))]
  simp
theorem same_step {t : Ty} {x y : t.El} : ∀ {i : Nat} {a b : List t.El}, a[i]? = some x → b[i]? = some y → sameL t (a.drop i) (b.drop i) = (eqT t x y && sameL t (a.drop (i + 1)) (b.drop (i + 1)))
 | 0, u :: a, v :: b, hx, hy => by cases hx; cases hy; rfl
 | i + 1, u :: a, v :: b, hx, hy => same_step (i := i) (a := a) (b := b) (by simpa using hx) (by simpa using hy)
 | _, [], _, hx, _ => by simp at hx
 | _, _ :: _, [], _, hy => by simp at hy
theorem same_end {t : Ty} {a b : List t.El} {i : Nat} (h : a.length ≤ i) (hb : b.length ≤ i) : sameL t (a.drop i) (b.drop i) = true := by
 rw [List.drop_eq_nil_of_le h, List.drop_eq_nil_of_le hb]
 rfl
theorem same_refl : ∀ l : List entT.El, sameL entT l l = true
 | [] => rfl
 | x :: l => by
  rw [sameL, same_refl l, eqT_refl]
  rfl
def falls (pv : Option ByteArray) (x : entT.El) : Bool := match pv with | some p => !sLt p x.1 | none => false
def clGo (pv : Option ByteArray) (i : Int) : List entT.El → Int × Int
 | [] => (0, 0)
 | x :: l => if errX x ≠ 0 then (i, errX x) else if falls pv x = true then (i, 6) else clGo (some x.1) (i + 1) l
def clL (l : List entT.El) : Int × Int := if 5000 < l.length then (-1, 3) else clGo none 0 l
def pvAt (l : List entT.El) : Nat → Option ByteArray
 | 0 => none
 | j + 1 => (l[j]?).map (·.1)
theorem clGo_step {l : List entT.El} {i : Nat} {x : entT.El} (hx : l[i]? = some x) : clGo (pvAt l i) (i : Int) (l.drop i) = if errX x ≠ 0 then ((i : Int), errX x) else if falls (pvAt l i) x = true then ((i : Int), 6) else clGo (pvAt l (i + 1)) ((i + 1 : Nat) : Int) (l.drop (i + 1)) := by
 have hi := (List.getElem?_eq_some_iff.1 hx).1
 have he := (List.getElem?_eq_some_iff.1 hx).2
 rw [List.drop_eq_getElem_cons hi, he]
 show (if errX x ≠ 0 then _ else if falls (pvAt l i) x = true then _ else clGo (some x.1) ((i : Int) + 1) _) = _
 simp only [pvAt, hx, Option.map_some]
 rfl
theorem clL_end {l : List entT.El} {i : Nat} (h5 : ¬ 5000 < l.length) (hc : clL l = clGo (pvAt l i) (i : Int) (l.drop i)) (hi : l.length ≤ i) : clL l = (0, 0) := by
 rw [hc, List.drop_eq_nil_of_le hi]
 rfl
theorem clL_err {l : List entT.El} {i : Nat} {x : entT.El} (hc : clL l = clGo (pvAt l i) (i : Int) (l.drop i)) (hx : l[i]? = some x) (he : errX x ≠ 0) : clL l = ((i : Int), errX x) := by
 rw [hc, clGo_step hx, if_pos he]
theorem clL_form {l : List entT.El} {i : Nat} {x p : entT.El} (hc : clL l = clGo (pvAt l i) (i : Int) (l.drop i)) (hx : l[i]? = some x) (he : errX x = 0) (h0 : 0 < i) (hp : l[i - 1]? = some p) (hl : sLt p.1 x.1 = false) : clL l = ((i : Int), 6) := by
 obtain ⟨j, rfl⟩ : ∃ j, i = j + 1 := ⟨i - 1, by omega⟩
 have hp : l[j]? = some p := hp
 have hf : falls (pvAt l (j + 1)) x = true := by
  show falls ((l[j]?).map (·.1)) x = true
  rw [hp]
  show (!sLt p.1 x.1) = true
  rw [hl]; rfl
 rw [hc, clGo_step hx, if_neg (by simp [he]), if_pos hf]
theorem clL_next {l : List entT.El} {i : Nat} {x : entT.El} (hc : clL l = clGo (pvAt l i) (i : Int) (l.drop i)) (hx : l[i]? = some x) (he : errX x = 0) (hl : i = 0 ∨ ∃ p, l[i - 1]? = some p ∧ sLt p.1 x.1 = true) : clL l = clGo (pvAt l (i + 1)) ((i + 1 : Nat) : Int) (l.drop (i + 1)) := by
 have hf : ¬ falls (pvAt l i) x = true := by
  rcases hl with rfl | ⟨p, hp, hl⟩
  ·simp [pvAt, falls]
  ·cases i with
   | zero => simp [pvAt, falls]
   | succ j =>
    have hp : l[j]? = some p := hp
    show ¬ falls ((l[j]?).map (·.1)) x = true
    rw [hp]
    show ¬ (!sLt p.1 x.1) = true
    rw [hl]; decide
 rw [hc, clGo_step hx, if_neg (by simp [he]), if_neg hf]
theorem errX_key {x : entT.El} (h : errX x = 0) : (x.1.size : Int) ≤ 9223372036854775807 := by
 simp only [errX, errE] at h
 by_cases hk : 32 < (x.1.size : Int)
 ·simp [hk] at h
 ·omega
end Go.Proofs.Ytkjoofinfhdcaaa
