/-
  An abstract reading of values and memory: functions do what is reckoned.
  An abstract reading of values and memory: helps for those who reckon.
  An abstract reading of values and memory: a move that stands first in a region comes first, whatever the order.
-/
import Derived.Test.YtbbklijmnknmhaaAvo
import Derived.Calls
import Derived.Defers
import Derived.Laws.Sem
namespace Av
open Go

section
variable {P : Program} {tb : Tb}
theorem results_list (hT : TbOk P tb) {s : St} (hok : Ok s) {f : Tr} {a : Act} (hf : FR s f.get a) {F : ResultVar → Sem Value} (hF : ∀ t, F (.tmp t) = pure (a.tmps.getD t undef)) (hF2 : ∀ x t, F (.cell x t) = (do loadVar t (← asAddr (a.tmps.getD x undef)))) : ∀ (rs : List ResultVar) (k : List AV → Prop), resAs tb f s.h k rs →
  ∃ vs cvs, (rs.mapM F).run P s.w = .ok cvs s.w ∧ RL s vs cvs ∧ k vs
 | [], k, h => ⟨[], [], by simp, by simp only [RL], h⟩
 | r :: rs, k, h => by
  have one : ∃ v cv, (F r).run P s.w = .ok cv s.w ∧ R s v cv ∧ resAs tb f s.h (fun vs => k (v :: vs)) rs := by
   cases r with
   | tmp t => exact ⟨f.get t, a.tmps.getD t undef, by rw [hF]; rfl, hf t, h⟩
   | cell x T =>
    simp only [resAs, resA] at h
    split at h
    ·rename_i ti id off hl hx
     split at h
     ·rename_i T' cs hc
      split at h
      ·rename_i v hv
       have hr := hf x
       rw [hx] at hr
       simp only [R] at hr
       obtain ⟨_, b, hp, hσ⟩ := hr
       have hσ := hσ _ _ hc
       obtain ⟨b', hσ', hrc⟩ := cells_RC hok hc
       rw [hσ] at hσ'
       cases hσ'
       obtain ⟨cv, hrun, hR⟩ := load_RC (P := P) hT hl hv (RC_drop off hrc)
       exact ⟨v, cv, by rw [hF2]; simp [hp, asAddr, hrun], hR, h⟩
      ·exact h.elim
     ·exact h.elim
    ·exact h.elim
  obtain ⟨v, cv, h1, h2, h3⟩ := one
  obtain ⟨vs, cvs, h4, h5, h6⟩ := results_list hT hok hf hF hF2 rs _ h3
  refine ⟨v :: vs, cv :: cvs, ?_, by simp only [RL]; exact ⟨cv, cvs, rfl, h2, h5⟩, h6⟩
  rw [List.mapM_cons, Sem.run_bind, h1, Result.andThen_ok, Sem.run_bind, h4, Result.andThen_ok]
  rfl
theorem results_ok (hT : TbOk P tb) {s : St} (hok : Ok s) {f : Tr} {a : Act} (hf : FR s f.get a) {fn : Func} {K : AV → Hp → Prop} (h : retA tb fn.results.toList f s.h K) :
  ∃ v cv, (results fn a.tmps).run P s.w = .ok cv s.w ∧ R s v cv ∧ K v s.h := by
 unfold retA at h
 obtain ⟨F, hF, hF2, he⟩ : ∃ F : ResultVar → Sem Value, (∀ t, F (.tmp t) = pure (a.tmps.getD t undef)) ∧ (∀ x t, F (.cell x t) = (do loadVar t (← asAddr (a.tmps.getD x undef)))) ∧
   results fn a.tmps = (do let vs ← fn.results.mapM F; pure (if h : vs.size = 1 then vs[0] else .tuple vs)) := ⟨_, fun _ => rfl, fun _ _ => rfl, rfl⟩
 obtain ⟨vs, cvs, h1, h2, h3⟩ := results_list (P := P) hT hok hf hF hF2 _ _ h
 rw [he, Array.mapM_eq_mapM_toList, Sem.run_bind, map_eq_pure_bind, Sem.run_bind, h1]
 split at h3
 ·rename_i v
  rw [force_eq] at h3
  simp only [RL] at h2
  obtain ⟨cv, l, rfl, h4, rfl⟩ := h2
  exact ⟨v, cv, by simp, h4, h3⟩
 ·rename_i hne
  rw [force_eq] at h3
  refine ⟨.tup vs, .tuple cvs.toArray, ?_, by simp only [R]; exact ⟨cvs, rfl, h2⟩, h3⟩
  have hlen : cvs.length = vs.length := RL_vals h2
  have : cvs.length ≠ 1 := by
   intro h
   rw [hlen] at h
   obtain ⟨v, rfl⟩ := List.length_eq_one_iff.1 h
   exact hne v rfl
  simp [this]

structure FnOk (P : Program) (g : FuncId) (fn : Func) : Prop where
 get : P.funcs[g]? = some fn
 name : (fn.name == "runtime.NumGoroutine") = false
 code : match fn.body with | some c => okCode fn.ntmps c = true ∧ drawsOk c = true | none => False
theorem FnOk.enters {g : FuncId} {fn : Func} (h : FnOk P g fn) : Enters P g := by
 have hc := h.code
 split at hc
 ·rename_i c hb
  exact ⟨fn, c, h.get, h.name, hb⟩
 ·exact hc.elim
theorem init_ok {s : St} {a : Act} : ∀ (vs : List AV) (cs : List Value) (n : Nat) (f : Tr) (k : Tr → Prop), RL s vs cs → FR s f.get a → (∀ i c, cs[i]? = some c → a.tmps.getD (n + i) undef = c) → initK f n vs k → ∃ f', FR s f'.get a ∧ k f'
 | [], cs, n, f, k, _, hf, _, h => ⟨f, hf, h⟩
 | v :: vs, cs, n, f, k, hl, hf, hg, h => by
  simp only [initK, force_eq, Tr.setK_eq] at h
  simp only [RL] at hl
  obtain ⟨c, cs', rfl, h1, h2⟩ := hl
  have h0 := hg 0 c rfl
  rw [Nat.add_zero] at h0
  refine init_ok vs cs' (n + 1) _ k h2 (hf.set (by rw [h0]; exact h1)) (fun i c' hc => ?_) h
  rw [show n + 1 + i = n + (i + 1) by omega]
  exact hg (i + 1) c' (by simpa using hc)
theorem mk_get : ∀ (d n : Nat), (Tr.mk d).get n = .any
 | 0, _ => rfl
 | d + 1, n => by
  cases n with
  | zero => rfl
  | succ n =>
   simp only [Tr.mk, Tr.get]
   split <;> exact mk_get d _
/-! ### A function leaves: marks of loops over iterators, and builtin functions that were put off -/
def LeavesB (P : Program) (fn : Func) (tmps : Array Value) (R : Value → World → Prop) : List Deferred → World → Prop
 | [], w => ∃ v, (results fn tmps).run P w = .ok v w ∧ R v w
 | d :: ds, w => (∃ r w', d.target = .collected r ∧ (Instr.takeDeferred r).run P w = .ok [] w' ∧ LeavesB P fn tmps R ds w') ∨
   (∃ b ts ty cs v w', d.target = .builtin b ts ty cs ∧ (Go.invoke d.target d.args).run P w = .ok (.value v) w' ∧ LeavesB P fn tmps R ds w')
theorem step_builtin {fr : Frame} {cs : List Frame} {w w' : World} {d : Deferred} {ds : List Deferred} {b : Builtin} {ts : Array TypeId} {ty : TypeId} {ks : Array Bool} {v : Value}
  (hm : fr.mode = .returning) (hd : fr.defers = d :: ds) (ht : d.target = .builtin b ts ty ks) (hi : (Go.invoke d.target d.args).run P w = .ok (.value v) w') :
  step P (lone fr cs w) = .next (lone { fr with defers := ds } cs w') := by
 obtain ⟨t, a⟩ := d
 simp only at ht hi
 subst ht
 refine step_lone_go ?_
 simp [stepG, unwind, callDeferred, hm, hd, hi]
theorem leaves_stepsB {fn : Func} {tmps : Array Value} {R : Value → World → Prop} : ∀ (ds : List Deferred) (w : World) (fr : Frame) (cs : List Frame), fr.mode = .returning → fr.defers = ds → fr.tmps = tmps → P.funcs[fr.fn]? = some fn → fr.kind = .normal → LeavesB P fn tmps R ds w →
  ∃ v w' fr', R v w' ∧ Comes P (lone fr cs w) (lone fr' cs w') (.returned v) ∧ fr'.fn = fr.fn ∧ fr'.leaving P w' (.returned v)
 | [], w, fr, cs, hu, hd, ht, hf, hk, h => by
  obtain ⟨v, hr, hR⟩ := h
  exact ⟨v, w, fr, hR, Steps.refl P _, rfl, hu, hd, hk, fn, hf, ht ▸ hr⟩
 | d :: ds, w, fr, cs, hu, hd, ht, hf, hk, h => by
  rcases h with ⟨r, w', htar, htake, hrest⟩ | ⟨b, ts, ty, ks, v, w', htar, hinv, hrest⟩
  ·have h1 := step_collected (P := P) (cs := cs) (by rw [hu]; simp) hd htar htake
   obtain ⟨v, w2, fr', hR, hs, hfn, hl⟩ := leaves_stepsB ds w' { fr with defers := [] ++ ds } cs hu rfl ht hf hk hrest
   exact ⟨v, w2, fr', hR, Comes.of_steps (.one h1) hs, hfn, hl⟩
  ·have h1 := step_builtin (P := P) (cs := cs) hu hd htar hinv
   obtain ⟨v, w2, fr', hR, hs, hfn, hl⟩ := leaves_stepsB ds w' { fr with defers := ds } cs hu rfl ht hf hk hrest
   exact ⟨v, w2, fr', hR, Comes.of_steps (.one h1) hs, hfn, hl⟩
def postB (P : Program) (fn : Func) (R : Value → World → Prop) : Exit → Act → World → Prop
 | .normal, a, w | .ret, a, w => LeavesB P fn a.tmps R a.defers w
 | _, _, _ => False
theorem calls_of_wpB {f : FuncId} {fn : Func} {c : Code} {args : Array Value} {w : World} {R : Value → World → Prop} (hf : P.funcs[f]? = some fn) (hb : fn.body = some c)
  (h : c.wp P (postB P fn R) { tmps := args ++ Array.replicate (fn.ntmps - args.size) undef, defers := [] } w) : Calls P f args w fun e w' => ∃ v, e = .returned v ∧ R v w' := by
 intro cs
 let b : Frame := { (default : Frame) with fn := f, kind := .normal }
 have henter : Frame.enter P f args .normal =
   b.at { tmps := args ++ Array.replicate (fn.ntmps - args.size) undef, defers := [] } [.code c] := by
  simp [Frame.enter, Frame.at, hf, hb, b]
 obtain ⟨e, a', w', hq, harr⟩ := h b [] cs
 rw [← henter] at harr
 cases e with
 | normal =>
  obtain ⟨v, w2, fr', hR, hs, hfn, hl⟩ := leaves_stepsB a'.defers w' { b.at a' [] with mode := .returning } cs rfl rfl rfl hf rfl hq
  exact ⟨.returned v, w2, fr', ⟨v, rfl, hR⟩, Comes.of_steps (Steps.trans harr (.one step_end)) hs, hfn, hl⟩
 | ret =>
  obtain ⟨todo, hs0⟩ := harr
  obtain ⟨v, w2, fr', hR, hs, hfn, hl⟩ := leaves_stepsB a'.defers w' { b.at a' todo with mode := .returning } cs rfl rfl rfl hf rfl hq
  exact ⟨.returned v, w2, fr', ⟨v, rfl, hR⟩, Comes.of_steps hs0 hs, hfn, hl⟩
 | panic chain => exact hq.elim
 | exit id => exact hq.elim
 | goto l => exact hq.elim
 | outgrown => exact hq.elim
theorem noDead_get : ∀ {h : Hp} {id : Nat}, noDead h = true → h[id]? ≠ some .dead
 | [], id, _, e => by simp at e
 | o :: h, id, hn, e => by
  simp only [noDead, Bool.and_eq_true] at hn
  cases id with
  | zero =>
   simp only [List.getElem?_cons_zero, Option.some.injEq] at e
   subst e
   cases hn.1
  | succ id => exact noDead_get hn.2 (by simpa using e)
theorem noDead_set : ∀ {h : Hp} {id : Nat} {o : OObj}, noDead h = true → noDead (h.set id (.oth o)) = true
 | [], id, o, hn => hn
 | x :: h, 0, o, hn => by
  simp only [noDead, Bool.and_eq_true] at hn
  simp only [List.set_cons_zero, noDead, Bool.true_and]
  exact hn.2
 | x :: h, id + 1, o, hn => by
  simp only [noDead, Bool.and_eq_true] at hn
  simp only [List.set_cons_succ, noDead, Bool.and_eq_true]
  exact ⟨hn.1, noDead_set hn.2⟩
theorem clear_map {s : St} (hok : Ok s) {id bm : Nat} {o : OObj} {T ty : TypeId} {ks : Array Bool} {u : TypeDesc} (hu : P.underlying T = some u) (hv : R s (.oth id) (.map (some bm))) (hid : s.h[id]? = some (.oth o)) :
  ∃ s' v, (Go.invoke (.builtin .clear #[T] ty ks) #[.map (some bm)]).run P s.w = .ok (.value v) s'.w ∧ Step s s' ∧ Ok s' ∧ ∃ o', s'.h = s.h.set id (.oth o') := by
 simp only [R] at hv
 have hσ := hv.2.2 o hid
 have core : ∀ (kt vt : Ty) (es : Array MapEntry) (ck : Nat), keyTy kt = true → s.w.heap[bm]? = some (.map es ck) → ∃ s' v, (Go.invoke (.builtin .clear #[T] ty ks) #[.map (some bm)]).run P s.w = .ok (.value v) s'.w ∧ Step s s' ∧ Ok s' ∧ ∃ o', s'.h = s.h.set id (.oth o') := by
  intro kt vt es ck hkt hb
  have hgb : Gb s.w { s.w with heap := s.w.heap.setIfInBounds bm (.map #[] ck) } (blkOf (s.σ id)) := by
   rw [← hσ]
   refine ⟨rfl, rfl, rfl, Nat.le_refl _, by simp, fun q _ hq => ?_⟩
   exact (Go.MapKept.heap_set hb).2 q (fun e => hq (by rw [e]; rfl))
  have hbb : ∀ b, blkOf (s.σ id) = some b → blkOf (s.σ id) = some b ∨ s.w.heap.size ≤ b := fun b h => .inl h
  have hst := St.turn_step hid (.oth _ (.mapD bm kt vt [] [] ck) _) hgb hbb
  have hobj : ObjR (s.turn id (.oth (.mapD bm kt vt [] [] ck)) (s.σ id) { s.w with heap := s.w.heap.setIfInBounds bm (.map #[] ck) }) id (.oth (.mapD bm kt vt [] [] ck)) :=
   ⟨by simp only [St.turn, upd_same]; exact hσ.symm, hkt, #[], (Go.MapKept.heap_set hb).1, rfl, fun i en x hi _ => by simp at hi, by simp, rfl, by simp, by simp⟩
  refine ⟨_, .tuple #[], ?_, hst, St.turn_ok hok hid (.oth _ _ _) hgb hbb hobj, _, rfl⟩
  simp only [Go.invoke, builtin]
  simp [Builtin.clear_, run_underlying hu, Go.MapKept.run_getObj_map hb, Go.MapKept.run_setObj_map _ hb, Result.andThen, St.turn]
 have hob := hok.obj id _ hid
 cases o with
 | map bm' kt vt l =>
  obtain ⟨e, hkt, es, hb, _⟩ := hob
  rw [← hσ] at e
  cases e
  exact core kt vt es _ hkt hb
 | mapD bm' kt vt l bs ck =>
  obtain ⟨e, hkt, es, hb, _⟩ := hob
  rw [← hσ] at e
  cases e
  exact core kt vt es ck hkt hb
 | iter mid bm' n seen =>
  obtain ⟨r, e, _⟩ := hob
  rw [← hσ] at e
  cases e
 | bxs T t m =>
  obtain ⟨e, _⟩ := hob
  rw [← hσ] at e
  cases e
theorem marks_leave {b : Bool} {fn : Func} {R0 : Value → World → Prop} {s0 : St} {f : Tr} {a : Act} {ds : List Deferred} {I : Hp → Prop} (hI : b = true → ∀ h, I h → noDead h = true ∧ ∀ id o o', h[id]? = some (.oth o) → I (h.set id (.oth o')))
  (hds : ∀ s', Step s0 s' → Ok s' → FR s' f.get a → I s'.h → LeavesB P fn a.tmps R0 ds s'.w) :
  ∀ (ms : List Deferred) (s : St), Step s0 s → Ok s → FR s f.get a → I s.h → Mks P b s0.w.heap.size s ms → LeavesB P fn a.tmps R0 (ms ++ ds) s.w
 | [], s, hst, hok, hf, hh, _ => hds s hst hok hf hh
 | d :: ms, s, hst, hok, hf, hh, hm => by
  rcases hm.each d List.mem_cons_self with ⟨D, rfl, hB, hbk⟩ | ⟨hb, id, bm, T, ty, ks, u, rfl, hu, hv, ho⟩
  ·refine .inl ⟨D, _, rfl, run_takeDeferred hbk.at_, ?_⟩
   have hnd : ({ target := .collected D, args := #[] } :: ms.filter fun d => match d.target with | .collected _ => true | _ => false).Nodup := hm.nd
   refine marks_leave hI hds ms (s.world _) (book_step hst hbk hB) (book_ok hok hbk) (fun t => R_sim (book_sim hbk) _ _ (hf t)) hh ⟨fun d' hd' => ?_, (List.nodup_cons.1 hnd).2⟩
   rcases hm.each d' (List.mem_cons_of_mem _ hd') with ⟨D', h1, h2, h3⟩ | ⟨h1, id, bm, T, ty, ks, u, h2, h3, h4, h5⟩
   ·refine .inl ⟨D', h1, h2, book_other h3 ?_⟩
    rintro rfl
    refine (List.nodup_cons.1 hnd).1 (List.mem_filter.2 ⟨h1 ▸ hd', rfl⟩)
   ·exact .inr ⟨h1, id, bm, T, ty, ks, u, h2, h3, R_sim (book_sim hbk) _ _ h4, h5⟩
  ·obtain ⟨hnd, hset⟩ := hI hb _ hh
   obtain ⟨o, ho⟩ : ∃ o, s.h[id]? = some (.oth o) := by
    rcases ho with h1 | h1
    ·exact h1
    ·exact absurd h1 (noDead_get hnd)
   obtain ⟨s', v, hrun, hst2, hok2, o', hh2⟩ := clear_map (P := P) (ty := ty) (ks := ks) hok hu hv ho
   refine .inr ⟨_, _, _, _, v, s'.w, rfl, hrun, ?_⟩
   refine marks_leave hI hds ms s' (hst.trans hst2) hok2 (hf.step hst2) (by rw [hh2]; exact hset id o o' ho) ⟨fun d' hd' => ?_, ?_⟩
   ·have := (hm.step hst2).each d' (List.mem_cons_of_mem _ hd')
    exact this
   ·exact hm.nd
theorem resAs_cells {tb : Tb} {f : Tr} {h h' : Hp} (hc : ∀ (id : Nat) (T : TypeId) (cs : List AV), h[id]? = some (AObj.cells T cs) → h'[id]? = some (AObj.cells T cs)) : ∀ (rs : List ResultVar) {k k' : List AV → Prop}, (∀ vs, k vs → k' vs) → resAs tb f h k rs → resAs tb f h' k' rs
 | [], k, k', hkk, hk => hkk _ hk
 | r :: rs, k, k', hkk, hk => by
  have one : ∀ {k k' : AV → Prop}, (∀ v, k v → k' v) → resA tb f h k r → resA tb f h' k' r := by
   intro k k' hkk hr
   cases r with
   | tmp t => exact hkk _ hr
   | cell x T =>
    simp only [resA] at hr ⊢
    split at hr
    ·rename_i ti id off hl hx
     split at hr
     ·rename_i T' cs hcs
      simp only [hc _ _ _ hcs]
      split at hr
      ·rename_i v hv
       exact hkk _ hr
      ·exact hr.elim
     ·exact hr.elim
    ·exact hr.elim
  exact one (fun v hv => resAs_cells hc rs (fun vs h => hkk _ h) hv) hk
theorem bodyA_ok {C : Cx} (hm : P.follows .mixedOrders = true) (hT : TbOk P C.tb) (hD : SpecsOk P C.specs) {call : CallA} (hcall : CallOk P call) {g : FuncId} {fn : Func} (hf : FnOk P g fn) {args : List AV} {s : St} {K : AV → Hp → Prop} (h : bodyA C call fn args s.h K) (hok : Ok s) {cs : List Value} (hr : RL s args cs) :
  Calls P g cs.toArray s.w fun e w' => ∃ s' v cr, e = .returned cr ∧ s'.w = w' ∧ Step s s' ∧ Ok s' ∧ R s' v cr ∧ K v s'.h := by
 unfold bodyA at h
 split at h
 ·rename_i c hb hle
  have hcode := hf.code
  rw [hb] at hcode
  refine Calls.mono (calls_of_wpB (R := fun cr w' => ∃ s' v, s'.w = w' ∧ Step s s' ∧ Ok s' ∧ R s' v cr ∧ K v s'.h) hf.get hb ?_) (by
   rintro e w' ⟨cr, rfl, s', v, h1, h2, h3, h4, h5⟩
   exact ⟨s', v, cr, rfl, h1, h2, h3, h4, h5⟩)
  have hlen : cs.length = args.length := RL_vals hr
  have hle := Nat.le_of_ble_eq_true hle
  have hget : ∀ i c, cs[i]? = some c → (cs.toArray ++ Array.replicate (fn.ntmps - cs.toArray.size) undef).getD (0 + i) undef = c := by
   intro i c hc
   have hlt := (List.getElem?_eq_some_iff.1 hc).1
   rw [Nat.zero_add, Array.getD_eq_getD_getElem?, Array.getElem?_append_left (by simpa using hlt)]
   simp [hc]
  have walk : ∀ (b : Bool) (Kr : Tr → Hp → Prop) (I : Hp → Hp → Prop), (hasD c = true → b = true) → (∀ f h, Kr f h → I h h) → (b = true → ∀ h0 f, Kr f h0 → ∀ h, I h0 h → noDead h = true ∧ ∀ id o o', h[id]? = some (.oth o) → I h0 (h.set id (.oth o'))) → (∀ f h0, Kr f h0 → ∀ h, I h0 h → retA C.tb fn.results.toList f h K) →
    initK (Tr.mk (depthOf fn.ntmps)) 0 args (fun f => codeA C call c Kr (fun _ _ _ => False) Kr f s.h) →
    c.wp P (postB P fn (fun cr w' => ∃ s' v, s'.w = w' ∧ Step s s' ∧ Ok s' ∧ R s' v cr ∧ K v s'.h)) { tmps := cs.toArray ++ Array.replicate (fn.ntmps - cs.toArray.size) undef, defers := [] } s.w := by
   intro b Kr I hb hI0 hI hret h
   obtain ⟨f', hf', hk⟩ := init_ok (a := { tmps := cs.toArray ++ Array.replicate (fn.ntmps - cs.toArray.size) undef, defers := [] }) args cs 0 _ _ hr (fun t => by rw [mk_get]; simp only [R]) hget h
   refine Code.wp_mono ?_ (codeA_ok hm hT hD hcall c hcode.1 hcode.2 b hb _ _ _ f' s _ hok hf' (by simp; omega) hk)
   intro e a' w' hq
   have fin : ∀ {a' : Act} {w' : World}, PostM P b s fn.ntmps [] Kr a' w' → LeavesB P fn a'.tmps (fun cr w' => ∃ s' v, s'.w = w' ∧ Step s s' ∧ Ok s' ∧ R s' v cr ∧ K v s'.h) a'.defers w' := by
    rintro a' w' ⟨⟨s2, f2, ms, rfl, h2, h3, h4, h5, h6, h7⟩, h8⟩
    rw [h6]
    refine marks_leave (s0 := s) (f := f2) (I := I s2.h) (fun e => hI e s2.h f2 h5) (fun s' q1 q2 q3 q4 => ?_) ms s2 h2 h3 h4 (hI0 _ _ h5) h7
    obtain ⟨v, cv, h8, h9, h10⟩ := results_ok (P := P) hT q2 q3 (hret f2 s2.h h5 s'.h q4)
    exact ⟨cv, h8, s', v, rfl, q1, q2, h9, h10⟩
   cases e with
   | normal => exact fin hq
   | ret => exact fin hq
   | exit i =>
    obtain ⟨⟨_, _, _, _, _, _, _, h5, _⟩, _⟩ := hq
    exact h5.elim
   | goto l => exact hq.elim
   | panic ch => exact hq.elim
   | outgrown => exact hq.elim
  split at h
  ·rename_i hd
   exact walk false _ (fun h0 h => h = h0) (fun e => by rw [hd] at e; cases e) (fun _ _ _ => rfl) (fun e => by cases e) (fun f h0 hk h he => by rw [he]; exact hk) h
  ·rename_i hd
   have hrd : ∀ (f : Tr) (h0 : Hp), retD C.tb fn.results.toList f h0 K → noDead h0 = true ∧ retA C.tb fn.results.toList f h0 (fun v _ => ∀ h', K v h') := by
    intro f h0 hk
    unfold retD at hk
    split at hk
    ·rename_i hn; exact ⟨hn, hk⟩
    ·exact hk.elim
   refine walk true _ (fun h0 h => noDead h = true ∧ ∀ (id : Nat) (T : TypeId) (cs : List AV), h0[id]? = some (AObj.cells T cs) → h[id]? = some (AObj.cells T cs)) (fun _ => rfl) (fun f h0 hk => ⟨(hrd f h0 hk).1, fun _ _ _ e => e⟩) (fun _ h0 f hk h hI => ⟨hI.1, fun id o o' ho => ⟨noDead_set hI.1, fun id' T cs e => ?_⟩⟩) (fun f h0 hk h hI => ?_) h
   ·have e2 := hI.2 id' T cs e
    have hne : id ≠ id' := by
     rintro rfl
     rw [ho] at e2
     cases e2
    rw [List.getElem?_set_ne hne]
    exact e2
   ·have h2 := (hrd f h0 hk).2
    unfold retA at h2 ⊢
    refine resAs_cells hI.2 _ (fun vs hv => ?_) h2
    split at hv <;> (rw [force_eq] at hv; simp only [force_eq]; exact hv _)
 ·exact h.elim
noncomputable def callN (C : Cx) : Nat → CallA
 | 0, _, _, _, _ => False
 | n + 1, g, xs, h, K => match lkf C.fns g with
  | some fn => bodyA C (fun g xs h K => callN C n g xs h K) fn xs h K
  | none => False
def FnsOk (P : Program) (l : List (FuncId × Func)) : Prop := ∀ g fn, lkf l g = some fn → FnOk P g fn
theorem callN_ok {C : Cx} (hm : P.follows .mixedOrders = true) (hT : TbOk P C.tb) (hD : SpecsOk P C.specs) (hF : FnsOk P C.fns) : ∀ n, CallOk P (callN C n)
 | 0 => fun g xs h K hk => hk.elim
 | n + 1 => fun g xs h K hk => by
  simp only [callN] at hk
  split at hk
  ·rename_i fn hl
   have hfn := hF g fn hl
   refine ⟨hfn.enters, fun s hs hok cs hr => ?_⟩
   subst hs
   exact bodyA_ok hm hT hD (callN_ok hm hT hD hF n) hfn hk hok hr
  ·exact hk.elim
theorem FnsOk.nil : FnsOk P [] := fun g fn h => by cases h
theorem FnsOk.cons {g : FuncId} {fn : Func} {l : List (FuncId × Func)} (h : FnOk P g fn) (hl : FnsOk P l) : FnsOk P ((g, fn) :: l) := by
 intro g' fn' h'
 simp only [lkf] at h'
 cases hb : Nat.beq g g' with
 | true =>
  rw [hb] at h'
  have := Nat.eq_of_beq_eq_true hb
  cases h'
  exact this ▸ h
 | false =>
  rw [hb] at h'
  exact hl g' fn' h'
theorem spec_body {C : Cx} (hm : P.follows .mixedOrders = true) (hT : TbOk P C.tb) (hD : SpecsOk P C.specs) {call : CallA} (hcall : CallOk P call) {g : FuncId} {fn : Func} (hf : FnOk P g fn) {sp : DSpec}
  (h : ∀ ys p r, sp ys = some (p, r) → p → bodyA C call fn ys [] (fun v h => (viewR h v fun y => .ok y none).sat fun y _ => y = r)) : SpecOk P g sp := by
 refine ⟨hf.enters, fun ys p r hsp hp s hok hh cs hr => ?_⟩
 have hb := h ys p r hsp hp
 rw [← hh] at hb
 refine Calls.mono (bodyA_ok hm hT hD hcall hf hb hok hr) ?_
 rintro e w' ⟨s', v, cr, rfl, rfl, hst, hok', hv, hK⟩
 obtain ⟨y, ob, his, rfl⟩ := Res.sat_is hK
 have hFo : ∀ b, s'.F b → Own s' b := fun b hb => .inl hb
 obtain ⟨z, hz, hR⟩ := viewR_ok hok' (SubH.refl _) (F := s'.F) hFo v cr _ y ob hv (fun _ b hb => hok'.dis b hb) his
 obtain ⟨rfl, _⟩ := hz
 have hcut : s'.cut 0 = s'.callee s'.F := by
  unfold St.cut St.callee
  rw [List.take_zero]
 refine ⟨s'.cut 0, cr, rfl, rfl, cut_step hst (by rw [hh]; exact Nat.le_refl _), cut_ok hok' (fun id T cs hlt => by omega), by rw [hcut]; rfl, by rw [hcut]; exact hR⟩
theorem fresh_body {C : Cx} (hm : P.follows .mixedOrders = true) (hT : TbOk P C.tb) (hD : SpecsOk P C.specs) {call : CallA} (hcall : CallOk P call) {g : FuncId} {fn : Func} (hf : FnOk P g fn) {sp : FSpec}
  (h : ∀ ys p r, sp ys = some (p, r) → p → bodyA C call fn ys [] (fun v h => ∃ id g f, v = .own id g r.l.length ∧ h[id]? = some (.arr r.T r.t r.l f g))) : FreshOk P g sp := by
 refine ⟨hf.enters, fun ys p r hsp hp s hok hh cs hr => ?_⟩
 have hb := h ys p r hsp hp
 rw [← hh] at hb
 refine Calls.mono (bodyA_ok hm hT hD hcall hf hb hok hr) ?_
 rintro e w' ⟨s', v, cr, rfl, rfl, hst, hok', hv, id, g', f', rfl, hid⟩
 let s2 : St := ⟨fun _ => s'.σ id, [.arr r.T r.t r.l f' g'], s'.w, s'.F⟩
 have hown : ∀ b, OwnI s2 b → OwnI s' b := by
  rintro b ⟨i, o, h1, h2, h3⟩
  have : i = 0 := by
   have := (List.getElem?_eq_some_iff.1 h1).1
   have h4 : s2.h.length = 1 := rfl
   omega
  subst this
  have h5 : (AObj.arr r.T r.t r.l f' g') = o := by simpa [s2] using h1
  subst h5
  exact ⟨id, _, hid, rfl, .inl (h3.one rfl)⟩
 have hro : ∀ b, ¬ Own s' b → ¬ Own s2 b := by
  rintro b hn (h1 | h1)
  ·exact hn (.inl h1)
  ·exact hn (.inr (hown b h1))
 obtain ⟨qs, hrow, hone, hel, hfull⟩ := hok'.obj id _ hid
 refine ⟨s2, cr, g', f', rfl, rfl, ?_, ?_, rfl, ?_⟩
 ·exact {
   os := hst.os
   tape := hst.tape
   output := hst.output
   drawn := hst.drawn
   size := hst.size
   kn := fun i hi => by unfold Av.kn at hi; rw [hh] at hi; simp at hi
   keep := fun b hb hn => ⟨fun h1 => (hst.keep b hb hn).1 (hown b h1), (hst.keep b hb hn).2⟩
   frn := hst.frn
   cells := fun i T cs' hi _ => by unfold Av.kn at hi; rw [hh] at hi; simp at hi
   oth := fun i o' hi _ => by unfold Av.kn at hi; rw [hh] at hi; simp at hi
   arr := fun i T t l' f' g hi _ => by unfold Av.kn at hi; rw [hh] at hi; simp at hi }
 ·have h0 : ∀ {i : Nat} {o : AObj}, s2.h[i]? = some o → i = 0 ∧ o = .arr r.T r.t r.l f' g' := by
   intro i o h1
   have : i = 0 := by
    have := (List.getElem?_eq_some_iff.1 h1).1
    have h4 : s2.h.length = 1 := rfl
    omega
   subst this
   have h5 : (AObj.arr r.T r.t r.l f' g') = o := by simpa [s2] using h1
   exact ⟨rfl, h5.symm⟩
  exact {
   obj := fun i o hi => by
    obtain ⟨rfl, rfl⟩ := h0 hi
    exact ⟨qs, hrow, hone, fun i x hx => RT_pure (s := s') (s2 := s2) rfl hro _ _ _ (hel i x hx), hfull⟩
   inj := fun i j o p b hi hj _ _ _ _ => by rw [(h0 hi).1, (h0 hj).1]
   fb := hok'.fb
   dis := fun b h1 => hok'.dis b (hown b h1) }
 ·simp only [R] at hv ⊢
  obtain ⟨_, base, cap, hcr, hv⟩ := hv
  refine ⟨rfl, base, cap, hcr, fun T t' l' f2 g0 hc => ?_⟩
  have hc : (AObj.arr r.T r.t r.l f' g') = .arr T t' l' f2 g0 := by simpa [s2] using hc
  cases hc
  obtain ⟨_, hv2⟩ := hv _ _ _ _ _ hid
  exact ⟨Nat.le_refl _, fun _ => hv2 rfl⟩
end
end Av
namespace Av
open Go

theorem br_dec {p : Prop} [Decidable p] {x y : Prop} (h1 : p → x) (h2 : ¬ p → y) : br (decide p) x y :=
 br_intro (fun h => h1 (of_decide_eq_true h)) (fun h => h2 (of_decide_eq_false h))
theorem br_ndec {p : Prop} [Decidable p] {x y : Prop} (h1 : ¬ p → x) (h2 : p → y) : br (!decide p) x y :=
 br_intro (fun h => h1 (by simpa using h)) (fun h => h2 (by simpa using h))
theorem br_ne {a b : Int} {x y : Prop} (h1 : a ≠ b → x) (h2 : a = b → y) : br (a != b) x y :=
 br_intro (fun h => h1 (by simpa using h)) (fun h => h2 (by simpa using h))
theorem br_eq {a b : Int} {x y : Prop} (h1 : a = b → x) (h2 : a ≠ b → y) : br (a == b) x y :=
 br_intro (fun h => h1 (by simpa using h)) (fun h => h2 (by simpa using h))
theorem br_kt {p : Prop} {i : Decidable p} {x y : Prop} (hp : p) (h : x) : br (@decide p i) x y := .t (decide_eq_true hp) h
theorem br_kf {p : Prop} {i : Decidable p} {x y : Prop} (hp : ¬ p) (h : y) : br (@decide p i) x y := .f (decide_eq_false hp) h
theorem br_nt {a b : Int} {x y : Prop} (hp : a ≠ b) (h : x) : br (a != b) x y := .t (by simpa using hp) h
theorem br_nf {a b : Int} {x y : Prop} (hp : a = b) (h : y) : br (a != b) x y := .f (by simpa using hp) h
theorem br_et {a b : Int} {x y : Prop} (hp : a = b) (h : x) : br (a == b) x y := .t (by simpa using hp) h
theorem br_ef {a b : Int} {x y : Prop} (hp : a ≠ b) (h : y) : br (a == b) x y := .f (by simpa using hp) h
theorem need_in {p : Prop} {i : Decidable p} {x : Prop} (hp : p) (h : x) : @need p i x := @need.mk p i x hp h
theorem idx_nat {α : Type} {l : List α} {i : Nat} {k : α → Prop} (h1 : i < l.length) (h : ∀ x, l[i]? = some x → k x) : idx l (i : Int) k :=
 idx_intro (by omega) (by omega) (fun x hx => h x (by simpa using hx))
theorem idx_kn {α : Type} {l : List α} {i : Nat} {y : α} {k : α → Prop} (hy : l[i]? = some y) (h : k y) : idx l (i : Int) k :=
 .mk y (by omega) (by simpa using hy) h
theorem idx_ki {α : Type} {l : List α} {i : Int} {y : α} {k : α → Prop} (hy : l[i.toNat]? = some y) (h0 : 0 ≤ i) (h : k y) : idx l i k :=
 .mk y h0 hy h
theorem idx_cl {α : Type} {l : List α} {i : Int} {k : α → Prop} (h : match l[i.toNat]? with | some x => (0 ≤ i ∧ i < l.length) ∧ k x | none => False) : idx l i k := by
 split at h
 ·rename_i x hx
  exact idx_intro h.1.1 h.1.2 (fun y hy => by rw [hx] at hy; cases hy; exact h.2)
 ·exact h.elim
/-! ### The same, with what is asked found by itself -/
theorem auT {b : Bool} {x y : Prop} (h : x) (hb : b = true := by first | with_reducible exact rfl | assumption | decide) : br b x y := .t hb h
theorem auF {b : Bool} {x y : Prop} (h : y) (hb : b = false := by first | with_reducible exact rfl | assumption | decide) : br b x y := .f hb h
theorem auKt {p : Prop} {i : Decidable p} {x y : Prop} (h : x) (hp : p := by assumption) : br (@decide p i) x y := br_kt hp h
theorem auKf {p : Prop} {i : Decidable p} {x y : Prop} (h : y) (hp : ¬ p := by assumption) : br (@decide p i) x y := br_kf hp h
theorem auNt {a b : Int} {x y : Prop} (h : x) (hp : a ≠ b := by assumption) : br (a != b) x y := br_nt hp h
theorem auNf {a b : Int} {x y : Prop} (h : y) (hp : a = b := by assumption) : br (a != b) x y := br_nf hp h
theorem auEt {a b : Int} {x y : Prop} (h : x) (hp : a = b := by assumption) : br (a == b) x y := br_et hp h
theorem auEf {a b : Int} {x y : Prop} (h : y) (hp : a ≠ b := by assumption) : br (a == b) x y := br_ef hp h
theorem auNd {p : Prop} {i : Decidable p} {x : Prop} (h : x) (hp : p := by first | exact trivial | assumption | exact ⟨rfl, Nat.le_refl _⟩ | exact ⟨rfl, rfl⟩ | (simp only [inR]; omega) | omega | (simp only [roomP, true_and, and_true, List.length_take, List.length_drop, List.length_append, List.length_cons, List.length_nil, List.length_set, List.length_replicate]; omega) | (refine ⟨by first | exact trivial | rfl, by first | exact Nat.le_refl _ | omega | (simp; omega), ?_⟩; change roomP _ _ 1; simp only [roomP]; omega) | (change roomP _ _ 1; simp only [roomP]; omega) | (simp; omega) | (simp [inR]; omega) | (simp [inR]; done) | decide | (simp; done) | exact ⟨by first | omega | (simp; omega), by assumption⟩) : @need p i x := need_in hp h
theorem auIx {α : Type} {l : List α} {i : Int} {k : α → Prop} (h : ∀ x, l[i.toNat]? = some x → k x) (h0 : 0 ≤ i := by first | omega | (simp; omega) | (simp; done)) (h1 : i < l.length := by first | omega | (simp; omega) | (simp; done)) : idx l i k := idx_intro h0 h1 h
theorem auIk {α : Type} {l : List α} {i : Nat} {y : α} {k : α → Prop} (h : k y) (hy : l[i]? = some y := by assumption) : idx l (i : Int) k := idx_kn hy h
theorem auIi {α : Type} {l : List α} {i : Int} {y : α} {k : α → Prop} (h : k y) (hy : l[i.toNat]? = some y := by assumption) (h0 : 0 ≤ i := by omega) : idx l i k := idx_ki hy h0 h
theorem loop_inv {ms : List Nat} {body : (Tr → Hp → Prop) → Tr → Hp → Prop} {f : Tr} {h : Hp} (nz : List NZ) (cs : List Nat) (J : List AV → Hp → Prop) (μ : List AV → Hp → Nat) (hh : normK nz f h fun f h => J (cs.map f.get) h ∧
  ∀ vs h', vs.length = cs.length → J vs h' →
   eraseK f ms fun f0 => setsK f0 cs vs fun f1 => body (fun f2 h2 => backP ms cs f0 h.length J μ (μ vs h') f2 h2) f1 h') : loopP ms body f h :=
 .mk (.inr ⟨nz, cs, J, μ, hh⟩)
theorem back_intro {ms cs : List Nat} {f0 : Tr} {L : Nat} {J : List AV → Hp → Prop} {μ : List AV → Hp → Nat} {m : Nat} {f2 : Tr} {h2 : Hp} (h1 : eraseK f2 ms fun f => f = f0) (h3 : cutOk L (cs.map fun c => viewB L h2 (f2.get c)) h2 = true) (hJ : J (cs.map fun c => viewB L h2 (f2.get c)) (h2.take L)) (hm : μ (cs.map fun c => viewB L h2 (f2.get c)) (h2.take L) < m) : backP ms cs f0 L J μ m f2 h2 :=
 .mk [] (show backQ ms cs f0 L J μ m f2 h2 from ⟨by rw [erase_eq] at h1; exact h1, h3, hJ, hm⟩)
theorem bx_intro {α : Type} {m : List (Nat × α)} {P : Nat → Prop} (h : ∀ b, lkB m b = none → P b) : bxP m P := .mk h
theorem bx_idx {α : Type} {m : List (Nat × α)} {b : Nat} {x : α} {k : α → Prop} (hk : k x) (h : lkB m b = some x := by assumption) : idx (bxL m b) 0 k :=
 idx_ki (i := 0) (show (bxL m b)[0]? = some x by unfold bxL; rw [h]; rfl) (Int.le_refl _) hk
theorem frz_auto {xs : List AV} {P : Tr → Hp → Prop} {f : Tr} {h : Hp} (hh : normK (autoNZ xs f h) f h P) : frzP xs P f h := .mk _ hh
theorem draw_plain {P : Tr → Hp → Prop} {f : Tr} {h : Hp} (hh : P f h) : drawP P f h := .mk [] hh
theorem loop_turns {ms : List Nat} {body : (Tr → Hp → Prop) → Tr → Hp → Prop} {f : Tr} {h : Hp} (n : Nat) (hh : turns n body f h) : loopP ms body f h := .mk (.inl ⟨n, hh⟩)
section
variable {P : Program}
theorem SpecsOk.nil : SpecsOk P [] := fun g sp h => by cases h
theorem SpecsOk.consF {g : FuncId} {sp : FSpec} {l : List (FuncId × Spec)} (h : FreshOk P g sp) (hl : SpecsOk P l) : SpecsOk P ((g, .f sp) :: l) := by
 intro g' sp' h'
 simp only [lks] at h'
 cases hb : Nat.beq g g' with
 | true =>
  rw [hb] at h'
  have := Nat.eq_of_beq_eq_true hb
  cases h'
  exact this ▸ h
 | false =>
  rw [hb] at h'
  exact hl g' sp' h'
theorem SpecsOk.cons {g : FuncId} {sp : DSpec} {l : List (FuncId × Spec)} (h : SpecOk P g sp) (hl : SpecsOk P l) : SpecsOk P ((g, .d sp) :: l) := by
 intro g' sp' h'
 simp only [lks] at h'
 cases hb : Nat.beq g g' with
 | true =>
  rw [hb] at h'
  have := Nat.eq_of_beq_eq_true hb
  cases h'
  exact this ▸ h
 | false =>
  rw [hb] at h'
  exact hl g' sp' h'
def nzV : Option Ty → AV → AV
 | some t, .nsl => .lst t []
 | _, v => v
def nzL : List (Option Ty) → List AV → List AV
 | t :: ts, v :: vs => nzV t v :: nzL ts vs
 | _, vs => vs
theorem nzV_R {s : St} {t : Option Ty} {v : AV} {c : Value} (h : R s v c) : R s (nzV t v) c := by
 unfold nzV
 split
 ·simp only [R] at h ⊢
  subst h
  exact ⟨none, 0, rfl, by simp, fun h => absurd rfl h⟩
 ·exact h
theorem nzL_RL {s : St} : ∀ (ts : List (Option Ty)) (vs : List AV) (cs : List Value), RL s vs cs → RL s (nzL ts vs) cs
 | [], vs, cs, h => by simpa only [nzL] using h
 | t :: ts, [], cs, h => by simpa only [nzL] using h
 | t :: ts, v :: vs, cs, h => by
  simp only [nzL, RL] at h ⊢
  obtain ⟨c, cs', rfl, h1, h2⟩ := h
  exact ⟨c, cs', rfl, nzV_R h1, nzL_RL ts vs cs' h2⟩
def nz (ts : List (Option Ty)) (sp : DSpec) : DSpec := fun ys => sp (nzL ts ys)
theorem SpecOk.nz {g : FuncId} {sp : DSpec} (h : SpecOk P g sp) (ts : List (Option Ty)) : SpecOk P g (nz ts sp) :=
 ⟨h.1, fun ys p r hsp hp s hok hh cs hr => h.2 (nzL ts ys) p r hsp hp s hok hh cs (nzL_RL ts ys cs hr)⟩
end
end Av
namespace Av
open Go

def opsL : Op → Option (List Operand)
 | .move x | .assign x | .nilCheck x | .fieldAddr _ x _ | .load _ x | .extract x _ | .unOp _ _ x | .box _ x | .makeInterface _ x => some [x]
 | .store _ x y | .indexAddr _ x y | .binOp _ _ x y _ => some [x, y]
 | .alloc _ => some []
 | .call c => match c.callee with
  | .value f => some (f :: c.args.toList)
  | .builtin _ => some c.args.toList
  | .invoke r _ => some (r :: c.args.toList)
 | .build _ ps | .buildSlice _ _ ps => some (ps.toList.map (·.2))
 | _ => none
theorem opsL_ok {o : Op} {l : List Operand} (h : opsL o = some l) : (∀ x ∈ o.operands.toList, x ∈ l) ∧ ∀ cs b, o ≠ .select cs b := by
 refine ⟨fun x hx => ?_, fun cs b e => by subst e; simp [opsL] at h⟩
 cases o <;> simp only [opsL, Option.some.injEq, reduceCtorEq] at h <;> first
  | (subst h; simp [Op.operands] at hx; done)
  | (subst h; simpa [Op.operands] using hx)
  | skip
 rename_i c
 have hx : x ∈ (Call.operands c).toList := hx
 unfold Call.operands at hx
 split at h <;> rename_i hc <;> rw [hc] at hx <;> cases h <;> simpa using hx
def movX (o : Oper) : Option (Option Nat) := match o.op with
 | .move (.tmp x) => some (some x)
 | .move (.const _) => some none
 | _ => none
def neq (a : Option Nat) (b : Nat) : Bool := match a with | some a => !Nat.beq a b | none => true
theorem neq_ok {a : Option Nat} {b : Nat} (h : neq a b = true) : a ≠ some b := by
 rintro rfl
 simp [neq] at h
def waitsL (d : Nat) (x : Option Nat) (o : Oper) : Bool :=
 (o.after.toList.any fun e => Region.binds .any e && Nat.beq e.on 0) ||
 (match o.guard, opsL o.op with
 | none, some l => (l.all fun y => match y with | .tmp t => !Nat.beq t d | _ => true) && neq o.dst d && (match x with | some x => neq o.dst x | none => true)
 | _, _ => false)
def hoistL (o0 : Oper) (l : List Oper) : Array Oper := (o0 :: l.map fun o => { o with after := o.after.push ⟨0, .data⟩ }).toArray
def hoistO (C : Cx) (ops : Array Oper) : Option (Nat × Array Oper) := match barsOk0 C ops with
 | true => none
 | false => match ops.toList with
  | [] => none
  | o0 :: l => match movX o0, o0.guard, o0.dst, o0.after.toList with
   | some x, none, some d, [] => match (l.all fun o => waitsL d x o && (opsL o.op).isSome) && (match x with | some x => !Nat.beq x d | none => true) && (drawOk (hoistL o0 l) || manyS (hoistL o0 l)) with
    | true => some (d, hoistL o0 l)
    | false => none
   | _, _, _, _ => none
section
variable {P : Program}
theorem hoist_get {o0 : Oper} {l : List Oper} {ops : Array Oper} (hl : ops.toList = o0 :: l) (i : Nat) : (hoistL o0 l)[i]? = (ops[i]?).map fun o => match i with | 0 => o | _ => { o with after := o.after.push ⟨0, .data⟩ } := by
 have : ops[i]? = (o0 :: l)[i]? := by rw [← hl]; simp
 rw [this]
 unfold hoistL
 rw [List.getElem?_toArray]
 cases i with
 | zero => rfl
 | succ i => simp only [List.getElem?_cons_succ, List.getElem?_map]
theorem hoist_ready {o0 : Oper} {l : List Oper} {ops : Array Oper} (hl : ops.toList = o0 :: l) {listed : Array Bool} (h0 : listed.getD 0 false = true) (i : Nat) : i ∈ Region.ready .any (hoistL o0 l) listed ↔ i ∈ Region.ready .any ops listed := by
 rw [mem_ready, mem_ready, hoist_get hl]
 cases ho : ops[i]? with
 | none => simp
 | some o =>
  cases i with
  | zero => simp
  | succ i =>
   simp only [Option.map_some, Option.some.injEq, exists_eq_left']
   refine and_congr_right (fun _ => ⟨fun h e he hb => h e (by simp [he]) hb, fun h e he hb => ?_⟩)
   rcases Array.mem_push.1 he with he | rfl
   ·exact h e he hb
   ·exact h0
theorem hoist_op {o0 : Oper} {l : List Oper} {ops : Array Oper} (hl : ops.toList = o0 :: l) {Q : Exit → Act → World → Prop} {i : Nat} {K : Act → World → Prop} {a : Act} {w : World} (h : wpOp P (hoistL o0 l) Q i K a w) : wpOp P ops Q i K a w := by
 have hy : ∀ (t : Array Value) (g : Nat), yielded (hoistL o0 l) t g = yielded ops t g := by
  intro t g
  unfold yielded
  rw [hoist_get hl]
  cases ops[g]? with
  | none => rfl
  | some o => cases g <;> rfl
 unfold wpOp at *
 rw [hoist_get hl] at h
 cases ho : ops[i]? with
 | none => rw [ho] at h; exact h
 | some o =>
  rw [ho] at h
  have hw : ∀ o : Oper, Region.wanted o (yielded (hoistL o0 l) a.tmps) = Region.wanted o (yielded ops a.tmps) := by
   intro o
   unfold Region.wanted
   cases o.guard with
   | none => rfl
   | some g => simp only [hy]
  cases i with
  | zero =>
   simp only [Option.map_some, hw] at h
   exact h
  | succ i =>
   simp only [Option.map_some, hw] at h
   exact h
theorem hoist_any {o0 : Oper} {l : List Oper} {ops : Array Oper} (hl : ops.toList = o0 :: l) {Q : Exit → Act → World → Prop} : ∀ (fuel : Nat) (listed : Array Bool) (a : Act) (w : World), listed.getD 0 false = true → wpAny P .any (hoistL o0 l) Q fuel listed a w → wpAny P .any ops Q fuel listed a w
 | 0, listed, a, w, h0, h => by
  refine ⟨?_, h.2⟩
  rw [List.eq_nil_iff_forall_not_mem] at *
  exact fun i hi => (List.eq_nil_iff_forall_not_mem.1 h.1) i ((hoist_ready hl h0 i).2 hi)
 | fuel + 1, listed, a, w, h0, h => by
  refine ⟨fun hr => h.1 ?_, fun i hi => ?_⟩
  ·rw [List.eq_nil_iff_forall_not_mem] at *
   exact fun i hi => hr i ((hoist_ready hl h0 i).1 hi)
  ·exact wpOp_mono (fun a' w' h' => hoist_any hl fuel _ a' w' (getD_set_true h0) h') (hoist_op hl (h.2 i ((hoist_ready hl h0 i).2 hi)))
theorem put_putd (a : Act) (d : Nat) (u v : Value) : (a.put (some d) u).put (some d) v = a.put (some d) v := by
 simp [Act.put]
theorem put_self (a : Act) (d : Nat) : ∃ u, a.put (some d) u = a := by
 refine ⟨a.tmps.getD d undef, ?_⟩
 unfold Act.put
 simp only
 congr 1
 apply Array.ext_getElem?
 intro i
 rw [Array.getElem?_setIfInBounds]
 split
 ·rename_i h
  subst h
  split
  ·rename_i h; simp [Array.getD_eq_getD_getElem?, Array.getElem?_eq_getElem h]
  ·rename_i h; simp [Array.getElem?_eq_none (Nat.le_of_not_lt h)]
 ·rfl
theorem hoist_ok {C : Cx} {ops ops' : Array Oper} {d : Nat} (hh : hoistO C ops = some (d, ops')) {Q : Exit → Act → World → Prop} {a : Act} {w : World}
  (h : wpAny P .any ops' (fun e a w => match e with | .panic c => ∀ u, Q (.panic c) (a.put (some d) u) w | e => Q e a w) ops'.size (Array.replicate ops'.size false) a w) : wpAny P .any ops Q ops.size (Array.replicate ops.size false) a w := by
 unfold hoistO at hh
 split at hh
 ·cases hh
 ·split at hh
  ·cases hh
  ·rename_i o0 l hl
   split at hh
   ·rename_i x d' hx hg hd haf
    split at hh
    ·rename_i hc
     cases hh
     simp only [Bool.and_eq_true, List.all_eq_true] at hc
     obtain ⟨⟨hc1, hc2⟩, _⟩ := hc
     have hsz : (hoistL o0 l).size = ops.size := by
      rw [← Array.length_toList (xs := ops), hl]
      simp [hoistL]
     have h1 : 0 < ops.size := by rw [← Array.length_toList (xs := ops), hl]; simp
     have h00 : ops[0]? = some o0 := by
      have : ops[0]? = (o0 :: l)[0]? := by rw [← hl]; simp
      rw [this]; rfl
     obtain ⟨n, hn⟩ : ∃ n, ops.size = n + 1 := ⟨ops.size - 1, by omega⟩
     rw [hsz] at h
     let Q2 : Exit → Act → World → Prop := fun e a w => match e with | .panic c => ∀ u, Q (.panic c) (a.put (some d) u) w | e => Q e a w
     refine wpAny_monoQ (Q := Q2) (Q' := Q) (fun _ _ h => h) (fun c a w h => by obtain ⟨u, hu⟩ := put_self a d; have := h u; rw [hu] at this; exact this) (fun h => h) _ _ _ _ ?_
     have h : wpAny P .any (hoistL o0 l) Q2 ops.size (Array.replicate ops.size false) a w := h
     have hr : ∀ op : Array Oper, op[0]? = some o0 → 0 ∈ Region.ready .any op (Array.replicate ops.size false) := by
      intro op ho
      rw [mem_ready]
      refine ⟨?_, o0, ho, fun e he => ?_⟩
      ·rw [Array.getD_eq_getD_getElem?, Array.getElem?_replicate, if_pos h1]; rfl
      ·rw [← Array.mem_toList_iff, haf] at he; cases he
     obtain ⟨v, hv, hxv⟩ : ∃ v, (∀ (w : World) , (execOp a.eval o0).run P w = .ok (.value v) w) ∧ (∀ w, ((execOp a.eval o0).runT P w #[]).2 = #[]) := by
      unfold movX at hx
      split at hx
      ·rename_i y ho; exact ⟨a.eval (.tmp y), fun w => by unfold execOp; rw [ho]; rfl, fun w => by unfold execOp; rw [ho]; rfl⟩
      ·rename_i y ho; exact ⟨a.eval (.const y), fun w => by unfold execOp; rw [ho]; rfl, fun w => by unfold execOp; rw [ho]; rfl⟩
      ·cases hx
     have hw0 : ∀ op : Array Oper, Region.wanted o0 (yielded op a.tmps) = true := fun op => by simp [Region.wanted, hg]
     rw [hn] at h ⊢
     have h2 := h.2 0 (by rw [← hn]; exact hr _ (by rw [hoist_get hl, h00]; rfl))
     unfold wpOp at h2
     rw [hoist_get hl, h00] at h2
     simp only [Option.map_some, hw0, if_true] at h2
     have h3 : wpAny P .any (hoistL o0 l) Q2 n ((Array.replicate (n + 1) false).setIfInBounds 0 true) (a.put o0.dst v) w := by
      rcases h2 with h2 | ⟨h2, _⟩
      ·unfold Oper.wp at h2
       rw [hv, Oper.upon_value] at h2
       exact h2
      ·unfold Oper.asks at h2
       rw [hxv] at h2
       simp at h2
     have h4 := hoist_any hl n _ _ _ (by simp) h3
     refine wpAny_first h00 (fun j o cs b hj => ?_) (fun c a w hq u => ?_) n _ a w (fun j oj hj hne _ hno => ?_) (by rw [← hn]; exact hr _ h00) (.inl ⟨hw0 _, hv⟩) h4
     ·have hj' : (o0 :: l)[j]? = some o := by rw [← hl]; simpa using hj
      cases j with
      | zero =>
       cases hj'
       unfold movX at hx
       intro e
       rw [e] at hx
       cases hx
      | succ j =>
       have := (hc1 o (List.mem_of_getElem? (by simpa using hj'))).2
       obtain ⟨lo, hlo⟩ := Option.isSome_iff_exists.1 this
       exact (opsL_ok hlo).2 cs b
     ·have := hq u
      rw [hd, put_putd] at this
      exact this
     ·have hj' : (o0 :: l)[j]? = some oj := by rw [← hl]; simpa using hj
      obtain ⟨j, rfl⟩ : ∃ k, j = k + 1 := ⟨j - 1, by omega⟩
      have hw := (hc1 oj (List.mem_of_getElem? (by simpa using hj'))).1
      unfold waitsL at hw
      rw [Bool.or_eq_true] at hw
      rcases hw with hw | hw
      ·obtain ⟨e, he, hb⟩ := List.any_eq_true.1 hw
       rw [Bool.and_eq_true] at hb
       exact absurd (Nat.eq_of_beq_eq_true hb.2) (hno e (Array.mem_toList_iff.1 he) hb.1)
      ·split at hw
       ·rename_i lo hgj hlo
        simp only [Bool.and_eq_true, List.all_eq_true] at hw
        obtain ⟨⟨h5, h6⟩, h7⟩ := hw
        have h6 := neq_ok h6
        have h8 : d ∉ oj.looksAt ops := by
         unfold Oper.looksAt
         rw [hgj]
         simp only [List.append_nil, List.mem_filterMap, not_exists, not_and]
         intro y hy
         have h9 := h5 y ((opsL_ok hlo).1 y hy)
         cases y with
         | tmp t =>
          simp only [Bool.not_eq_true', Option.some.injEq] at h9 ⊢
          rintro rfl
          simp at h9
         | _ => simp
        have h10 : ∀ e, oj.dst = some e → e ∉ o0.looksAt ops := by
         intro e he
         unfold Oper.looksAt
         rw [hg]
         simp only [List.append_nil, List.mem_filterMap, not_exists, not_and]
         intro y hy
         unfold movX at hx
         split at hx
         ·rename_i z hz
          cases hx
          rw [hz] at hy
          simp [Op.operands] at hy
          subst hy
          simp only [Option.some.injEq]
          rintro rfl
          exact neq_ok h7 he
         ·rename_i z hz
          rw [hz] at hy
          simp [Op.operands] at hy
          subst hy
          simp
         ·cases hx
        unfold Oper.apart
        rw [hd]
        simp only [Bool.and_eq_true, Bool.not_eq_true', List.contains_eq_mem, decide_eq_false_iff_not, bne_iff_ne, ne_eq]
        refine ⟨⟨h8, h6⟩, ?_⟩
        cases hdj : oj.dst with
        | none => rfl
        | some e => simp only [Bool.not_eq_true', decide_eq_false_iff_not]; exact h10 e hdj
       ·cases hw
    ·cases hh
   ·cases hh
theorem hoist_ops {C : Cx} {ops ops' : Array Oper} {d N : Nat} (hh : hoistO C ops = some (d, ops')) (hN : ∀ o ∈ ops.toList, dstOk N o = true) : (drawOk ops' || manyS ops') = true ∧ (∀ o ∈ ops'.toList, dstOk N o = true) ∧ d < N := by
 unfold hoistO at hh
 split at hh
 ·cases hh
 ·split at hh
  ·cases hh
  ·rename_i o0 l hl
   split at hh
   ·rename_i x d' hx hg hd haf
    split at hh
    ·rename_i hc
     cases hh
     simp only [Bool.and_eq_true] at hc
     rw [hl] at hN
     refine ⟨hc.2, fun o ho => ?_, ?_⟩
     ·unfold hoistL at ho
      rw [List.toList_toArray] at ho
      rcases List.mem_cons.1 ho with rfl | ho
      ·exact hN o List.mem_cons_self
      ·obtain ⟨o', ho', rfl⟩ := List.mem_map.1 ho
       exact hN o' (List.mem_cons_of_mem _ ho')
     ·have := hN o0 List.mem_cons_self
      unfold dstOk at this
      rw [hd] at this
      simpa using this
    ·cases hh
   ·cases hh
end
end Av
