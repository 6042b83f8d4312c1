/-
  An abstract reading of values and memory: functions do what is reckoned.
-/
import Derived.Test.YtjlfkgffgnkflaaAvo
import Derived.Calls
import Derived.Laws.Sem
namespace Av
open Go

section
variable {P : Program} {tb : Tb}
theorem results_list (hT : TbOk P tb) {s : St} (hok : Ok s) {f : Tr} {a : Act} (hf : FR s f.get a) {F : ResultVar → Sem Value} (hF : ∀ t, F (.tmp t) = pure (a.tmps.getD t undef)) (hF2 : ∀ x t, F (.cell x t) = (do loadVar t (← asAddr (a.tmps.getD x undef)))) : ∀ (rs : List ResultVar) (k : List AV → Prop), resAs tb f s.h k rs →
    ∃ vs cvs, (rs.mapM F).run P s.w = .ok cvs s.w ∧ RL s vs cvs ∧ k vs
  | [], k, h => ⟨[], [], by simp, by simp only [RL], h⟩
  | r :: rs, k, h => by
    have one : ∃ v cv, (F r).run P s.w = .ok cv s.w ∧ R s v cv ∧ resAs tb f s.h (fun vs => k (v :: vs)) rs := by
      cases r with
      | tmp t => exact ⟨f.get t, a.tmps.getD t undef, by rw [hF]; rfl, hf t, h⟩
      | cell x T =>
        simp only [resAs, resA] at h
        split at h
        · rename_i ti id off hl hx
          split at h
          · rename_i T' cs hc
            split at h
            · rename_i v hv
              have hr := hf x
              rw [hx] at hr
              simp only [R] at hr
              obtain ⟨_, b, hp, hσ⟩ := hr
              have hσ := hσ _ _ hc
              obtain ⟨b', hσ', hrc⟩ := cells_RC hok hc
              rw [hσ] at hσ'
              cases hσ'
              obtain ⟨cv, hrun, hR⟩ := load_RC (P := P) hT hl hv (RC_drop off hrc)
              exact ⟨v, cv, by rw [hF2]; simp [hp, asAddr, hrun], hR, h⟩
            · exact h.elim
          · exact h.elim
        · exact h.elim
    obtain ⟨v, cv, h1, h2, h3⟩ := one
    obtain ⟨vs, cvs, h4, h5, h6⟩ := results_list hT hok hf hF hF2 rs _ h3
    refine ⟨v :: vs, cv :: cvs, ?_, by simp only [RL]; exact ⟨cv, cvs, rfl, h2, h5⟩, h6⟩
    rw [List.mapM_cons, Sem.run_bind, h1, Result.andThen_ok, Sem.run_bind, h4, Result.andThen_ok]
    rfl
theorem results_ok (hT : TbOk P tb) {s : St} (hok : Ok s) {f : Tr} {a : Act} (hf : FR s f.get a) {fn : Func} {K : AV → Hp → Prop} (h : retA tb fn.results.toList f s.h K) :
    ∃ v cv, (results fn a.tmps).run P s.w = .ok cv s.w ∧ R s v cv ∧ K v s.h := by
  unfold retA at h
  obtain ⟨F, hF, hF2, he⟩ : ∃ F : ResultVar → Sem Value, (∀ t, F (.tmp t) = pure (a.tmps.getD t undef)) ∧ (∀ x t, F (.cell x t) = (do loadVar t (← asAddr (a.tmps.getD x undef)))) ∧
      results fn a.tmps = (do let vs ← fn.results.mapM F; pure (if h : vs.size = 1 then vs[0] else .tuple vs)) := ⟨_, fun _ => rfl, fun _ _ => rfl, rfl⟩
  obtain ⟨vs, cvs, h1, h2, h3⟩ := results_list (P := P) hT hok hf hF hF2 _ _ h
  rw [he, Array.mapM_eq_mapM_toList, Sem.run_bind, map_eq_pure_bind, Sem.run_bind, h1]
  split at h3
  · rename_i v
    rw [force_eq] at h3
    simp only [RL] at h2
    obtain ⟨cv, l, rfl, h4, rfl⟩ := h2
    exact ⟨v, cv, by simp, h4, h3⟩
  · rename_i hne
    rw [force_eq] at h3
    refine ⟨.tup vs, .tuple cvs.toArray, ?_, by simp only [R]; exact ⟨cvs, rfl, h2⟩, h3⟩
    have hlen : cvs.length = vs.length := RL_vals h2
    have : cvs.length ≠ 1 := by
      intro h
      rw [hlen] at h
      obtain ⟨v, rfl⟩ := List.length_eq_one_iff.1 h
      exact hne v rfl
    simp [this]

/-- A function's code is as the reckoning needs it. -/
structure FnOk (P : Program) (g : FuncId) (fn : Func) : Prop where
  get : P.funcs[g]? = some fn
  name : (fn.name == "runtime.NumGoroutine") = false
  code : match fn.body with | some c => okCode fn.ntmps c = true ∧ drawsOk c = true | none => False
theorem FnOk.enters {g : FuncId} {fn : Func} (h : FnOk P g fn) : Enters P g := by
  have hc := h.code
  split at hc
  · rename_i c hb
    exact ⟨fn, c, h.get, h.name, hb⟩
  · exact hc.elim
theorem init_ok {s : St} {a : Act} : ∀ (vs : List AV) (cs : List Value) (n : Nat) (f : Tr) (k : Tr → Prop), RL s vs cs → FR s f.get a → (∀ i c, cs[i]? = some c → a.tmps.getD (n + i) undef = c) → initK f n vs k → ∃ f', FR s f'.get a ∧ k f'
  | [], cs, n, f, k, _, hf, _, h => ⟨f, hf, h⟩
  | v :: vs, cs, n, f, k, hl, hf, hg, h => by
    simp only [initK, force_eq, Tr.setK_eq] at h
    simp only [RL] at hl
    obtain ⟨c, cs', rfl, h1, h2⟩ := hl
    have h0 := hg 0 c rfl
    rw [Nat.add_zero] at h0
    refine init_ok vs cs' (n + 1) _ k h2 (hf.set (by rw [h0]; exact h1)) (fun i c' hc => ?_) h
    rw [show n + 1 + i = n + (i + 1) by omega]
    exact hg (i + 1) c' (by simpa using hc)
theorem mk_get : ∀ (d n : Nat), (Tr.mk d).get n = .any
  | 0, _ => rfl
  | d + 1, n => by
    cases n with
    | zero => rfl
    | succ n =>
      simp only [Tr.mk, Tr.get]
      split <;> exact mk_get d _
theorem bodyA_ok {C : Cx} (hm : P.follows .mixedOrders = true) (hT : TbOk P C.tb) (hD : SpecsOk P C.specs) {call : CallA} (hcall : CallOk P call) {g : FuncId} {fn : Func} (hf : FnOk P g fn) {args : List AV} {s : St} {K : AV → Hp → Prop} (h : bodyA C call fn args s.h K) (hok : Ok s) {cs : List Value} (hr : RL s args cs) :
    Calls P g cs.toArray s.w fun e w' => ∃ s' v cr, e = .returned cr ∧ s'.w = w' ∧ Step s s' ∧ Ok s' ∧ R s' v cr ∧ K v s'.h := by
  unfold bodyA at h
  split at h
  · rename_i c hb hle
    have hcode := hf.code
    rw [hb] at hcode
    refine calls_of_wp hf.get hb ?_
    have hlen : cs.length = args.length := RL_vals hr
    have hle := Nat.le_of_ble_eq_true hle
    have hget : ∀ i c, cs[i]? = some c → (cs.toArray ++ Array.replicate (fn.ntmps - cs.toArray.size) undef).getD (0 + i) undef = c := by
      intro i c hc
      have hlt := (List.getElem?_eq_some_iff.1 hc).1
      rw [Nat.zero_add, Array.getD_eq_getD_getElem?, Array.getElem?_append_left (by simpa using hlt)]
      simp [hc]
    obtain ⟨f', hf', hk⟩ := init_ok (a := { tmps := cs.toArray ++ Array.replicate (fn.ntmps - cs.toArray.size) undef, defers := [] }) args cs 0 _ _ hr (fun t => by rw [mk_get]; simp only [R]) hget h
    refine Code.wp_mono ?_ (codeA_ok hm hT hD hcall c hcode.1 hcode.2 _ _ _ f' s _ hok hf' (by simp; omega) hk)
    intro e a' w' hq
    have fin : ∀ {a' : Act} {w' : World}, Post s fn.ntmps [] (fun f h => retA C.tb fn.results.toList f h K) a' w' → a'.defers = [] ∧ ∃ v, (results fn a'.tmps).run P w' = .ok v w' ∧ ∃ s' v1 cr, Ending.returned v = .returned cr ∧ s'.w = w' ∧ Step s s' ∧ Ok s' ∧ R s' v1 cr ∧ K v1 s'.h := by
      rintro a' w' ⟨⟨s2, f2, rfl, h2, h3, h4, h5⟩, h6, h7⟩
      obtain ⟨v, cv, h8, h9, h10⟩ := results_ok (P := P) hT h3 h4 h5
      exact ⟨h6, cv, h8, s2, v, cv, rfl, rfl, h2, h3, h9, h10⟩
    cases e with
    | normal => exact fin hq
    | ret => exact fin hq
    | exit i =>
      obtain ⟨⟨s2, f2, _, _, _, _, h5⟩, _⟩ := hq
      exact h5.elim
    | goto l => exact hq.elim
    | panic ch => exact hq.elim
    | outgrown => exact hq.elim
  · exact h.elim
/-- Functions that are walked through, to a depth. -/
noncomputable def callN (C : Cx) : Nat → CallA
  | 0, _, _, _, _ => False
  | n + 1, g, xs, h, K => match lkf C.fns g with
    | some fn => bodyA C (fun g xs h K => callN C n g xs h K) fn xs h K
    | none => False
def FnsOk (P : Program) (l : List (FuncId × Func)) : Prop := ∀ g fn, lkf l g = some fn → FnOk P g fn
theorem callN_ok {C : Cx} (hm : P.follows .mixedOrders = true) (hT : TbOk P C.tb) (hD : SpecsOk P C.specs) (hF : FnsOk P C.fns) : ∀ n, CallOk P (callN C n)
  | 0 => fun g xs h K hk => hk.elim
  | n + 1 => fun g xs h K hk => by
    simp only [callN] at hk
    split at hk
    · rename_i fn hl
      have hfn := hF g fn hl
      refine ⟨hfn.enters, fun s hs hok cs hr => ?_⟩
      subst hs
      exact bodyA_ok hm hT hD (callN_ok hm hT hD hF n) hfn hk hok hr
    · exact hk.elim
theorem FnsOk.nil : FnsOk P [] := fun g fn h => by cases h
theorem FnsOk.cons {g : FuncId} {fn : Func} {l : List (FuncId × Func)} (h : FnOk P g fn) (hl : FnsOk P l) : FnsOk P ((g, fn) :: l) := by
  intro g' fn' h'
  simp only [lkf] at h'
  cases hb : Nat.beq g g' with
  | true =>
    rw [hb] at h'
    have := Nat.eq_of_beq_eq_true hb
    cases h'
    exact this ▸ h
  | false =>
    rw [hb] at h'
    exact hl g' fn' h'
/-- What a function returns, by its body. -/
theorem spec_body {C : Cx} (hm : P.follows .mixedOrders = true) (hT : TbOk P C.tb) (hD : SpecsOk P C.specs) {call : CallA} (hcall : CallOk P call) {g : FuncId} {fn : Func} (hf : FnOk P g fn) {sp : DSpec}
    (h : ∀ ys p r, sp ys = some (p, r) → p → bodyA C call fn ys [] (fun v h => (viewR h v fun y => .ok y none).sat fun y _ => y = r)) : SpecOk P g sp := by
  refine ⟨hf.enters, fun ys p r hsp hp s hok hh cs hr => ?_⟩
  have hb := h ys p r hsp hp
  rw [← hh] at hb
  refine Calls.mono (bodyA_ok hm hT hD hcall hf hb hok hr) ?_
  rintro e w' ⟨s', v, cr, rfl, rfl, hst, hok', hv, hK⟩
  obtain ⟨y, ob, his, rfl⟩ := Res.sat_is hK
  have hFo : ∀ b, s'.F b → Own s' b := fun b hb => .inl hb
  obtain ⟨z, hz, hR⟩ := viewR_ok hok' (SubH.refl _) (F := s'.F) hFo v cr _ y ob hv (fun _ b hb => hok'.dis b hb) his
  obtain ⟨rfl, _⟩ := hz
  have hcut : s'.cut 0 = s'.callee s'.F := by
    unfold St.cut St.callee
    rw [List.take_zero]
  refine ⟨s'.cut 0, cr, rfl, rfl, cut_step hst (by rw [hh]; exact Nat.le_refl _), cut_ok hok' (fun id T cs hlt => by omega), by rw [hcut]; rfl, by rw [hcut]; exact hR⟩
/-- A function that gives an array that it has made. -/
theorem fresh_body {C : Cx} (hm : P.follows .mixedOrders = true) (hT : TbOk P C.tb) (hD : SpecsOk P C.specs) {call : CallA} (hcall : CallOk P call) {g : FuncId} {fn : Func} (hf : FnOk P g fn) {sp : FSpec}
    (h : ∀ ys p r, sp ys = some (p, r) → p → bodyA C call fn ys [] (fun v h => ∃ id g f, v = .own id g r.l.length ∧ h[id]? = some (.arr r.T r.t r.l f g))) : FreshOk P g sp := by
  refine ⟨hf.enters, fun ys p r hsp hp s hok hh cs hr => ?_⟩
  have hb := h ys p r hsp hp
  rw [← hh] at hb
  refine Calls.mono (bodyA_ok hm hT hD hcall hf hb hok hr) ?_
  rintro e w' ⟨s', v, cr, rfl, rfl, hst, hok', hv, id, g', f', rfl, hid⟩
  let s2 : St := ⟨fun _ => s'.σ id, [.arr r.T r.t r.l f' g'], s'.w, s'.F⟩
  have hown : ∀ b, OwnI s2 b → OwnI s' b := by
    rintro b ⟨i, o, h1, h2, h3⟩
    have : i = 0 := by
      have := (List.getElem?_eq_some_iff.1 h1).1
      have h4 : s2.h.length = 1 := rfl
      omega
    subst this
    have h5 : (AObj.arr r.T r.t r.l f' g') = o := by simpa [s2] using h1
    subst h5
    exact ⟨id, _, hid, rfl, h3⟩
  have hro : ∀ b, ¬ Own s' b → ¬ Own s2 b := by
    rintro b hn (h1 | h1)
    · exact hn (.inl h1)
    · exact hn (.inr (hown b h1))
  obtain ⟨qs, hrow, hone, hel, hfull⟩ := hok'.obj id _ hid
  refine ⟨s2, cr, g', f', rfl, rfl, ?_, ?_, rfl, ?_⟩
  · exact {
      os := hst.os
      tape := hst.tape
      output := hst.output
      drawn := hst.drawn
      size := hst.size
      kn := fun i hi => by unfold Av.kn at hi; rw [hh] at hi; simp at hi
      keep := fun b hb hn => ⟨fun h1 => (hst.keep b hb hn).1 (hown b h1), (hst.keep b hb hn).2⟩
      frn := hst.frn
      cells := fun i T cs' hi _ => by unfold Av.kn at hi; rw [hh] at hi; simp at hi
      arr := fun i T t l' f' g hi _ => by unfold Av.kn at hi; rw [hh] at hi; simp at hi }
  · have h0 : ∀ {i : Nat} {o : AObj}, s2.h[i]? = some o → i = 0 ∧ o = .arr r.T r.t r.l f' g' := by
      intro i o h1
      have : i = 0 := by
        have := (List.getElem?_eq_some_iff.1 h1).1
        have h4 : s2.h.length = 1 := rfl
        omega
      subst this
      have h5 : (AObj.arr r.T r.t r.l f' g') = o := by simpa [s2] using h1
      exact ⟨rfl, h5.symm⟩
    exact {
      obj := fun i o hi => by
        obtain ⟨rfl, rfl⟩ := h0 hi
        exact ⟨qs, hrow, hone, fun i x hx => RT_pure (s := s') (s2 := s2) rfl hro _ _ _ (hel i x hx), hfull⟩
      inj := fun i j o p b hi hj _ _ _ _ => by rw [(h0 hi).1, (h0 hj).1]
      fb := hok'.fb
      dis := fun b h1 => hok'.dis b (hown b h1) }
  · simp only [R] at hv ⊢
    obtain ⟨_, base, cap, hcr, hv⟩ := hv
    refine ⟨rfl, base, cap, hcr, fun T t' l' f2 g0 hc => ?_⟩
    have hc : (AObj.arr r.T r.t r.l f' g') = .arr T t' l' f2 g0 := by simpa [s2] using hc
    cases hc
    obtain ⟨_, hv2⟩ := hv _ _ _ _ _ hid
    exact ⟨Nat.le_refl _, fun _ => hv2 rfl⟩
end
end Av
