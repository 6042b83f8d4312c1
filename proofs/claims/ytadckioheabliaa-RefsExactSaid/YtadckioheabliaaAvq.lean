/-
  An abstract reading of values and memory: code and functions do what is reckoned.
  An abstract reading of values and memory: functions do what is reckoned.
  An abstract reading of values and memory: helps for those who reckon.
-/
import Derived.Test.YtadckioheabliaaAvn
import Derived.Calls
import Derived.Laws.Sem
namespace Av
open Go

def drawsOk : Code → Bool
  | .region _ ops d => match d with | true => drawOk ops || manyS ops | false => true
  | .seq a b => drawsOk a && drawsOk b
  | .cond _ a b => drawsOk a && drawsOk b
  | .block _ c => drawsOk c
  | .loop c => drawsOk c
  | .scope c => drawsOk c
  | _ => true
def PostQ (s : St) (N : Nat) (ds : List Deferred) (K : Tr → Hp → Prop) (X : Nat → Tr → Hp → Prop) (Rt : Tr → Hp → Prop) : Exit → Act → World → Prop
  | .normal, a, w => Post s N ds K a w
  | .exit i, a, w => Post s N ds (X i) a w
  | .ret, a, w => Post s N ds Rt a w
  | _, _, _ => False
theorem Post.weaken {s : St} {N : Nat} {ds : List Deferred} {K K' : Tr → Hp → Prop} {a : Act} {w : World} (h : Post s N ds K a w) (hk : ∀ f h, K f h → K' f h) : Post s N ds K' a w := by
  obtain ⟨⟨s2, f, h1, h2, h3, h4, h5⟩, h6, h7⟩ := h
  exact ⟨⟨s2, f, h1, h2, h3, h4, hk _ _ h5⟩, h6, h7⟩
section
variable {P : Program}
theorem codeA_ok {C : Cx} (hm : P.follows .mixedOrders = true) (hT : TbOk P C.tb) (hD : SpecsOk P C.specs) {call : CallA} (hcall : CallOk P call) {N : Nat} :
    ∀ (c : Code), okCode N c = true → drawsOk c = true → ∀ (K : Tr → Hp → Prop) (X : Nat → Tr → Hp → Prop) (Rt : Tr → Hp → Prop) (f : Tr) (s : St) (a : Act), Ok s → FR s f.get a → a.tmps.size = N →
      codeA C call c K X Rt f s.h → c.wp P (PostQ s N a.defers K X Rt) a s.w
  | .skip, _, _, K, X, Rt, f, s, a, hok, hf, hN, h => wp_skip ⟨⟨s, f, rfl, Step.refl s, hok, hf, h⟩, rfl, hN⟩
  | .region id ops d, hs, hd, K, X, Rt, f, s, a, hok, hf, hN, h => by
    have hops : ∀ o ∈ ops.toList, dstOk N o = true := by
      unfold okCode at hs
      exact List.all_eq_true.1 hs
    cases d with
    | false => exact wp_region_list (opsA_ok hT hD hcall hops ops.toList hops s f a K hok hf hN h (fun a' w' hp => hp))
    | true => exact drawA_ok hm hT hD hcall hd hops hok hf hN h (fun a' w' hp => hp)
  | .seq x y, hs, hd, K, X, Rt, f, s, a, hok, hf, hN, h => by
    simp only [okCode, drawsOk, Bool.and_eq_true] at hs hd
    refine wp_seq (Code.wp_mono ?_ (codeA_ok hm hT hD hcall x hs.1 hd.1 _ X Rt f s a hok hf hN h))
    intro e a' w' hq
    cases e with
    | normal =>
      obtain ⟨⟨s2, f2, h1, h2, h3, h4, h5⟩, h6, h7⟩ := hq
      subst h1
      refine Code.wp_mono ?_ (codeA_ok hm hT hD hcall y hs.2 hd.2 K X Rt f2 s2 a' h3 h4 h7 h5)
      intro e a2 w2 hq2
      rw [h6] at hq2
      cases e with
      | normal => exact Post.trans h2 hq2
      | exit i => exact Post.trans h2 hq2
      | ret => exact Post.trans h2 hq2
      | goto l => exact hq2
      | panic ch => exact hq2
      | outgrown => exact hq2
    | exit i => exact hq
    | ret => exact hq
    | goto l => exact hq
    | panic ch => exact hq
    | outgrown => exact hq
  | .cond c x y, hs, hd, K, X, Rt, f, s, a, hok, hf, hN, h => by
    simp only [okCode, drawsOk, Bool.and_eq_true] at hs hd
    rw [codeA_cond] at h
    split at h
    · rename_i t ht
      have hr := ev_R hf c
      rw [ht] at hr
      simp only [R] at hr
      rcases br_elim h with ⟨rfl, hk⟩ | ⟨rfl, hk⟩
      · exact wp_cond_true hr (codeA_ok hm hT hD hcall x hs.1 hd.1 K X Rt f s a hok hf hN hk)
      · exact wp_cond_false hr (codeA_ok hm hT hD hcall y hs.2 hd.2 K X Rt f s a hok hf hN hk)
    · exact h.elim
  | .block id c, hs, hd, K, X, Rt, f, s, a, hok, hf, hN, h => by
    simp only [okCode, drawsOk] at hs hd
    rw [codeA_block] at h
    refine wp_block (Code.wp_mono ?_ (codeA_ok hm hT hD hcall c hs hd K _ Rt f s a hok hf hN h))
    intro e a' w' hq
    cases e with
    | normal => exact hq
    | exit i =>
      simp only [Exit.inBlock]
      by_cases hi : i = id
      · rw [if_pos hi]
        refine Post.weaken hq (fun f h hk => ?_)
        subst hi
        simpa using hk
      · rw [if_neg hi]
        refine Post.weaken hq (fun f h hk => ?_)
        have hb : Nat.beq i id = false := by
          cases hb : Nat.beq i id with
          | true => exact absurd (Nat.eq_of_beq_eq_true hb) hi
          | false => rfl
        have hk : (match Nat.beq i id with | true => K | false => X i) f h := hk
        rw [hb] at hk
        exact hk
    | ret => exact hq
    | goto l => exact hq
    | panic ch => exact hq
    | outgrown => exact hq
  | .loop c, hs, hd, K, X, Rt, f, s, a, hok, hf, hN, h => by
    simp only [okCode, drawsOk] at hs hd
    rw [codeA_loop] at h
    obtain ⟨h⟩ := h
    have pass : ∀ (e : Exit) (a' a2 : Act) (w2 : World) (s2 : St) (K2 : Tr → Hp → Prop), Step s s2 → a'.defers = a.defers → e ≠ .normal → PostQ s2 N a'.defers K2 X Rt e a2 w2 → PostQ s N a.defers K X Rt e a2 w2 := by
      intro e a' a2 w2 s2 K2 hst hde hne hq
      rw [hde] at hq
      cases e with
      | normal => exact absurd rfl hne
      | exit i => exact Post.trans hst hq
      | ret => exact Post.trans hst hq
      | goto l => exact hq
      | panic ch => exact hq
      | outgrown => exact hq
    rcases h with ⟨n, hn⟩ | ⟨nz, cs, J, μ, hnz⟩
    · refine wp_loop_rounds n ?_
      have key : ∀ (n : Nat) (f2 : Tr) (s2 : St) (a2 : Act), Step s s2 → Ok s2 → FR s2 f2.get a2 → a2.tmps.size = N → a2.defers = a.defers → turns n (fun K f h => codeA C call c K X Rt f h) f2 s2.h → Code.rounds P c (PostQ s N a.defers K X Rt) n a2 s2.w := by
        intro n
        induction n with
        | zero => intro f2 s2 a2 _ _ _ _ _ ht; exact ht.elim
        | succ n ih =>
          intro f2 s2 a2 hst hok2 hf2 hN2 hd2 ht
          simp only [turns] at ht
          simp only [Code.rounds]
          refine Code.wp_mono ?_ (codeA_ok hm hT hD hcall c hs hd _ X Rt f2 s2 a2 hok2 hf2 hN2 ht)
          intro e a3 w3 hq
          by_cases he : e = .normal
          · subst he
            obtain ⟨⟨s3, f3, h1, h2, h3, h4, h5⟩, h6, h7⟩ := hq
            subst h1
            exact ih f3 s3 a3 (hst.trans h2) h3 h4 h7 (h6.trans hd2) h5
          · have := pass e a2 a3 w3 s2 _ hst hd2 he hq
            cases e <;> first | exact absurd rfl he | exact this
      exact key n f s a (Step.refl s) hok hf hN rfl hn
    · obtain ⟨s0, f0, hst0, hok0, hf0, hw0, hJ0, hround⟩ := normK_ok nz f s _ hok hf hnz
      have key : ∀ (m n : Nat), n < m → ∀ (vs : List AV) (s2 : St) (a2 : Act), Step s0 s2 → Ok s2 → FR s2 (sets (erase f0 (asg c)) cs vs).get a2 → a2.tmps.size = N → a2.defers = a.defers → vs.length = cs.length → J vs s2.h → μ vs s2.h = n → Code.rounds P c (PostQ s N a.defers K X Rt) m a2 s2.w := by
        intro m
        induction m with
        | zero => intro n hn; omega
        | succ m ih =>
          intro n hn vs s2 a2 hst hok2 hf2 hN2 hd2 hlen hJ hμ
          have hb := hround vs s2.h hlen hJ
          rw [erase_eq, sets_eq] at hb
          simp only [Code.rounds]
          refine Code.wp_mono ?_ (codeA_ok hm hT hD hcall c hs hd _ X Rt _ s2 a2 hok2 hf2 hN2 hb)
          intro e a3 w3 hq
          by_cases he : e = .normal
          · subst he
            obtain ⟨⟨s1, f1, h1, h2, h3, h4, ⟨nzb, hbk⟩⟩, h9, h10⟩ := hq
            subst h1
            obtain ⟨s3, f3, hst1, h3, h4, hw1, ⟨h5, h6, h7, h8⟩⟩ := normK_ok nzb f1 s1 _ h3 h4 hbk
            rw [← hw1]
            replace h2 := h2.trans hst1
            obtain ⟨hc1, hc2⟩ := cutOk_spec h6
            have hst3 : Step s0 s3 := hst.trans h2
            have hfr : FR (s3.cut s0.h.length) (erase f0 (asg c)).get a3 := by
              intro t
              rw [erase_get]
              by_cases ht : t ∈ asg c
              · rw [if_pos ht]; simp only [R]
              · rw [if_neg ht]
                have e1 := congrArg (fun f => f.get t) h5
                simp only [erase_get, if_neg ht] at e1
                have hr := h4 t
                rw [e1] at hr
                refine R_cut _ _ hr (fun id hid => kn_lt ?_)
                exact ids_kn _ _ id (hf0 t) hid
            refine ih (μ (cs.map fun c => viewB s0.h.length s3.h (f3.get c)) (s3.h.take s0.h.length)) (by omega) (cs.map fun c => viewB s0.h.length s3.h (f3.get c)) (s3.cut s0.h.length) a3 (cut_step hst3 (Nat.le_refl _)) (cut_ok h3 hc2) ?_ h10 (h9.trans hd2) (by simp) h7 rfl
            refine FR.sets cs _ _ hfr (fun i c v hc hv => ?_)
            rw [List.getElem?_map, hc] at hv
            cases hv
            refine viewB_R h3 (h4 c) (fun id hid => hc1 id (idsVs_mem (c := viewB s0.h.length s3.h (f3.get c)) (List.mem_map.2 ⟨c, List.mem_of_getElem? hc, rfl⟩) hid))
          · have := pass e a2 a3 w3 s2 _ (hst0.trans hst) hd2 he hq
            cases e <;> first | exact absurd rfl he | exact this
      have hfr0 : FR s0 (sets (erase f0 (asg c)) cs (cs.map f0.get)).get a := by
        refine FR.sets cs _ _ (fun t => ?_) (fun i c v hc hv => ?_)
        · rw [erase_get]
          by_cases ht : t ∈ asg c
          · rw [if_pos ht]; simp only [R]
          · rw [if_neg ht]; exact hf0 t
        · rw [List.getElem?_map, hc] at hv
          cases hv
          exact hf0 c
      rw [← hw0]
      exact wp_loop_rounds (μ (cs.map f0.get) s0.h + 1) (key _ _ (Nat.lt_succ_self _) (cs.map f0.get) s0 a (Step.refl s0) hok0 hfr0 hN rfl (by simp) hJ0 rfl)
  | .exit id, _, _, K, X, Rt, f, s, a, hok, hf, hN, h => wp_exit (show Post s N a.defers (X id) a s.w from ⟨⟨s, f, rfl, Step.refl s, hok, hf, h⟩, rfl, hN⟩)
  | .scope c, hs, hd, K, X, Rt, f, s, a, hok, hf, hN, h => by
    simp only [okCode, drawsOk] at hs hd
    rw [codeA_scope] at h
    refine wp_scope_straight (Code.wp_mono ?_ (codeA_ok hm hT hD hcall c hs hd K X Rt f s a hok hf hN h))
    intro e a' w' hq
    cases e <;> exact hq
  | .label l, _, _, K, X, Rt, f, s, a, hok, hf, hN, h => wp_label (show Post s N a.defers K a s.w from ⟨⟨s, f, rfl, Step.refl s, hok, hf, h⟩, rfl, hN⟩)
  | .ret, _, _, K, X, Rt, f, s, a, hok, hf, hN, h => wp_ret (show Post s N a.defers Rt a s.w from ⟨⟨s, f, rfl, Step.refl s, hok, hf, h⟩, rfl, hN⟩)
  | .rangeFunc .., _, _, _, _, _, _, _, _, _, _, _, h => False.elim h
  | .goto _, _, _, _, _, _, _, _, _, _, _, _, h => False.elim h
  | .refuse _, _, _, _, _, _, _, _, _, _, _, _, h => False.elim h
end
end Av
namespace Av
open Go

section
variable {P : Program} {tb : Tb}
theorem results_list (hT : TbOk P tb) {s : St} (hok : Ok s) {f : Tr} {a : Act} (hf : FR s f.get a) {F : ResultVar → Sem Value} (hF : ∀ t, F (.tmp t) = pure (a.tmps.getD t undef)) (hF2 : ∀ x t, F (.cell x t) = (do loadVar t (← asAddr (a.tmps.getD x undef)))) : ∀ (rs : List ResultVar) (k : List AV → Prop), resAs tb f s.h k rs →
    ∃ vs cvs, (rs.mapM F).run P s.w = .ok cvs s.w ∧ RL s vs cvs ∧ k vs
  | [], k, h => ⟨[], [], by simp, by simp only [RL], h⟩
  | r :: rs, k, h => by
    have one : ∃ v cv, (F r).run P s.w = .ok cv s.w ∧ R s v cv ∧ resAs tb f s.h (fun vs => k (v :: vs)) rs := by
      cases r with
      | tmp t => exact ⟨f.get t, a.tmps.getD t undef, by rw [hF]; rfl, hf t, h⟩
      | cell x T =>
        simp only [resAs, resA] at h
        split at h
        · rename_i ti id off hl hx
          split at h
          · rename_i T' cs hc
            split at h
            · rename_i v hv
              have hr := hf x
              rw [hx] at hr
              simp only [R] at hr
              obtain ⟨_, b, hp, hσ⟩ := hr
              have hσ := hσ _ _ hc
              obtain ⟨b', hσ', hrc⟩ := cells_RC hok hc
              rw [hσ] at hσ'
              cases hσ'
              obtain ⟨cv, hrun, hR⟩ := load_RC (P := P) hT hl hv (RC_drop off hrc)
              exact ⟨v, cv, by rw [hF2]; simp [hp, asAddr, hrun], hR, h⟩
            · exact h.elim
          · exact h.elim
        · exact h.elim
    obtain ⟨v, cv, h1, h2, h3⟩ := one
    obtain ⟨vs, cvs, h4, h5, h6⟩ := results_list hT hok hf hF hF2 rs _ h3
    refine ⟨v :: vs, cv :: cvs, ?_, by simp only [RL]; exact ⟨cv, cvs, rfl, h2, h5⟩, h6⟩
    rw [List.mapM_cons, Sem.run_bind, h1, Result.andThen_ok, Sem.run_bind, h4, Result.andThen_ok]
    rfl
theorem results_ok (hT : TbOk P tb) {s : St} (hok : Ok s) {f : Tr} {a : Act} (hf : FR s f.get a) {fn : Func} {K : AV → Hp → Prop} (h : retA tb fn.results.toList f s.h K) :
    ∃ v cv, (results fn a.tmps).run P s.w = .ok cv s.w ∧ R s v cv ∧ K v s.h := by
  unfold retA at h
  obtain ⟨F, hF, hF2, he⟩ : ∃ F : ResultVar → Sem Value, (∀ t, F (.tmp t) = pure (a.tmps.getD t undef)) ∧ (∀ x t, F (.cell x t) = (do loadVar t (← asAddr (a.tmps.getD x undef)))) ∧
      results fn a.tmps = (do let vs ← fn.results.mapM F; pure (if h : vs.size = 1 then vs[0] else .tuple vs)) := ⟨_, fun _ => rfl, fun _ _ => rfl, rfl⟩
  obtain ⟨vs, cvs, h1, h2, h3⟩ := results_list (P := P) hT hok hf hF hF2 _ _ h
  rw [he, Array.mapM_eq_mapM_toList, Sem.run_bind, map_eq_pure_bind, Sem.run_bind, h1]
  split at h3
  · rename_i v
    rw [force_eq] at h3
    simp only [RL] at h2
    obtain ⟨cv, l, rfl, h4, rfl⟩ := h2
    exact ⟨v, cv, by simp, h4, h3⟩
  · rename_i hne
    rw [force_eq] at h3
    refine ⟨.tup vs, .tuple cvs.toArray, ?_, by simp only [R]; exact ⟨cvs, rfl, h2⟩, h3⟩
    have hlen : cvs.length = vs.length := RL_vals h2
    have : cvs.length ≠ 1 := by
      intro h
      rw [hlen] at h
      obtain ⟨v, rfl⟩ := List.length_eq_one_iff.1 h
      exact hne v rfl
    simp [this]

/-- A function's code is as the reckoning needs it. -/
structure FnOk (P : Program) (g : FuncId) (fn : Func) : Prop where
  get : P.funcs[g]? = some fn
  name : (fn.name == "runtime.NumGoroutine") = false
  code : match fn.body with | some c => okCode fn.ntmps c = true ∧ drawsOk c = true | none => False
theorem FnOk.enters {g : FuncId} {fn : Func} (h : FnOk P g fn) : Enters P g := by
  have hc := h.code
  split at hc
  · rename_i c hb
    exact ⟨fn, c, h.get, h.name, hb⟩
  · exact hc.elim
theorem init_ok {s : St} {a : Act} : ∀ (vs : List AV) (cs : List Value) (n : Nat) (f : Tr) (k : Tr → Prop), RL s vs cs → FR s f.get a → (∀ i c, cs[i]? = some c → a.tmps.getD (n + i) undef = c) → initK f n vs k → ∃ f', FR s f'.get a ∧ k f'
  | [], cs, n, f, k, _, hf, _, h => ⟨f, hf, h⟩
  | v :: vs, cs, n, f, k, hl, hf, hg, h => by
    simp only [initK, force_eq, Tr.setK_eq] at h
    simp only [RL] at hl
    obtain ⟨c, cs', rfl, h1, h2⟩ := hl
    have h0 := hg 0 c rfl
    rw [Nat.add_zero] at h0
    refine init_ok vs cs' (n + 1) _ k h2 (hf.set (by rw [h0]; exact h1)) (fun i c' hc => ?_) h
    rw [show n + 1 + i = n + (i + 1) by omega]
    exact hg (i + 1) c' (by simpa using hc)
theorem mk_get : ∀ (d n : Nat), (Tr.mk d).get n = .any
  | 0, _ => rfl
  | d + 1, n => by
    cases n with
    | zero => rfl
    | succ n =>
      simp only [Tr.mk, Tr.get]
      split <;> exact mk_get d _
theorem bodyA_ok {C : Cx} (hm : P.follows .mixedOrders = true) (hT : TbOk P C.tb) (hD : SpecsOk P C.specs) {call : CallA} (hcall : CallOk P call) {g : FuncId} {fn : Func} (hf : FnOk P g fn) {args : List AV} {s : St} {K : AV → Hp → Prop} (h : bodyA C call fn args s.h K) (hok : Ok s) {cs : List Value} (hr : RL s args cs) :
    Calls P g cs.toArray s.w fun e w' => ∃ s' v cr, e = .returned cr ∧ s'.w = w' ∧ Step s s' ∧ Ok s' ∧ R s' v cr ∧ K v s'.h := by
  unfold bodyA at h
  split at h
  · rename_i c hb hle
    have hcode := hf.code
    rw [hb] at hcode
    refine calls_of_wp hf.get hb ?_
    have hlen : cs.length = args.length := RL_vals hr
    have hle := Nat.le_of_ble_eq_true hle
    have hget : ∀ i c, cs[i]? = some c → (cs.toArray ++ Array.replicate (fn.ntmps - cs.toArray.size) undef).getD (0 + i) undef = c := by
      intro i c hc
      have hlt := (List.getElem?_eq_some_iff.1 hc).1
      rw [Nat.zero_add, Array.getD_eq_getD_getElem?, Array.getElem?_append_left (by simpa using hlt)]
      simp [hc]
    obtain ⟨f', hf', hk⟩ := init_ok (a := { tmps := cs.toArray ++ Array.replicate (fn.ntmps - cs.toArray.size) undef, defers := [] }) args cs 0 _ _ hr (fun t => by rw [mk_get]; simp only [R]) hget h
    refine Code.wp_mono ?_ (codeA_ok hm hT hD hcall c hcode.1 hcode.2 _ _ _ f' s _ hok hf' (by simp; omega) hk)
    intro e a' w' hq
    have fin : ∀ {a' : Act} {w' : World}, Post s fn.ntmps [] (fun f h => retA C.tb fn.results.toList f h K) a' w' → a'.defers = [] ∧ ∃ v, (results fn a'.tmps).run P w' = .ok v w' ∧ ∃ s' v1 cr, Ending.returned v = .returned cr ∧ s'.w = w' ∧ Step s s' ∧ Ok s' ∧ R s' v1 cr ∧ K v1 s'.h := by
      rintro a' w' ⟨⟨s2, f2, rfl, h2, h3, h4, h5⟩, h6, h7⟩
      obtain ⟨v, cv, h8, h9, h10⟩ := results_ok (P := P) hT h3 h4 h5
      exact ⟨h6, cv, h8, s2, v, cv, rfl, rfl, h2, h3, h9, h10⟩
    cases e with
    | normal => exact fin hq
    | ret => exact fin hq
    | exit i =>
      obtain ⟨⟨s2, f2, _, _, _, _, h5⟩, _⟩ := hq
      exact h5.elim
    | goto l => exact hq.elim
    | panic ch => exact hq.elim
    | outgrown => exact hq.elim
  · exact h.elim
/-- Functions that are walked through, to a depth. -/
noncomputable def callN (C : Cx) : Nat → CallA
  | 0, _, _, _, _ => False
  | n + 1, g, xs, h, K => match lkf C.fns g with
    | some fn => bodyA C (fun g xs h K => callN C n g xs h K) fn xs h K
    | none => False
def FnsOk (P : Program) (l : List (FuncId × Func)) : Prop := ∀ g fn, lkf l g = some fn → FnOk P g fn
theorem callN_ok {C : Cx} (hm : P.follows .mixedOrders = true) (hT : TbOk P C.tb) (hD : SpecsOk P C.specs) (hF : FnsOk P C.fns) : ∀ n, CallOk P (callN C n)
  | 0 => fun g xs h K hk => hk.elim
  | n + 1 => fun g xs h K hk => by
    simp only [callN] at hk
    split at hk
    · rename_i fn hl
      have hfn := hF g fn hl
      refine ⟨hfn.enters, fun s hs hok cs hr => ?_⟩
      subst hs
      exact bodyA_ok hm hT hD (callN_ok hm hT hD hF n) hfn hk hok hr
    · exact hk.elim
theorem FnsOk.nil : FnsOk P [] := fun g fn h => by cases h
theorem FnsOk.cons {g : FuncId} {fn : Func} {l : List (FuncId × Func)} (h : FnOk P g fn) (hl : FnsOk P l) : FnsOk P ((g, fn) :: l) := by
  intro g' fn' h'
  simp only [lkf] at h'
  cases hb : Nat.beq g g' with
  | true =>
    rw [hb] at h'
    have := Nat.eq_of_beq_eq_true hb
    cases h'
    exact this ▸ h
  | false =>
    rw [hb] at h'
    exact hl g' fn' h'
/-- What a function returns, by its body. -/
theorem spec_body {C : Cx} (hm : P.follows .mixedOrders = true) (hT : TbOk P C.tb) (hD : SpecsOk P C.specs) {call : CallA} (hcall : CallOk P call) {g : FuncId} {fn : Func} (hf : FnOk P g fn) {sp : DSpec}
    (h : ∀ ys p r, sp ys = some (p, r) → p → bodyA C call fn ys [] (fun v h => (viewR h v fun y => .ok y none).sat fun y _ => y = r)) : SpecOk P g sp := by
  refine ⟨hf.enters, fun ys p r hsp hp s hok hh cs hr => ?_⟩
  have hb := h ys p r hsp hp
  rw [← hh] at hb
  refine Calls.mono (bodyA_ok hm hT hD hcall hf hb hok hr) ?_
  rintro e w' ⟨s', v, cr, rfl, rfl, hst, hok', hv, hK⟩
  obtain ⟨y, ob, his, rfl⟩ := Res.sat_is hK
  have hFo : ∀ b, s'.F b → Own s' b := fun b hb => .inl hb
  obtain ⟨z, hz, hR⟩ := viewR_ok hok' (SubH.refl _) (F := s'.F) hFo v cr _ y ob hv (fun _ b hb => hok'.dis b hb) his
  obtain ⟨rfl, _⟩ := hz
  have hcut : s'.cut 0 = s'.callee s'.F := by
    unfold St.cut St.callee
    rw [List.take_zero]
  refine ⟨s'.cut 0, cr, rfl, rfl, cut_step hst (by rw [hh]; exact Nat.le_refl _), cut_ok hok' (fun id T cs hlt => by omega), by rw [hcut]; rfl, by rw [hcut]; exact hR⟩
end
end Av
namespace Av
open Go

theorem br_dec {p : Prop} [Decidable p] {x y : Prop} (h1 : p → x) (h2 : ¬ p → y) : br (decide p) x y :=
  br_intro (fun h => h1 (of_decide_eq_true h)) (fun h => h2 (of_decide_eq_false h))
theorem br_ndec {p : Prop} [Decidable p] {x y : Prop} (h1 : ¬ p → x) (h2 : p → y) : br (!decide p) x y :=
  br_intro (fun h => h1 (by simpa using h)) (fun h => h2 (by simpa using h))
theorem br_ne {a b : Int} {x y : Prop} (h1 : a ≠ b → x) (h2 : a = b → y) : br (a != b) x y :=
  br_intro (fun h => h1 (by simpa using h)) (fun h => h2 (by simpa using h))
theorem br_eq {a b : Int} {x y : Prop} (h1 : a = b → x) (h2 : a ≠ b → y) : br (a == b) x y :=
  br_intro (fun h => h1 (by simpa using h)) (fun h => h2 (by simpa using h))
theorem br_kt {p : Prop} {i : Decidable p} {x y : Prop} (hp : p) (h : x) : br (@decide p i) x y := .t (decide_eq_true hp) h
theorem br_kf {p : Prop} {i : Decidable p} {x y : Prop} (hp : ¬ p) (h : y) : br (@decide p i) x y := .f (decide_eq_false hp) h
theorem br_nt {a b : Int} {x y : Prop} (hp : a ≠ b) (h : x) : br (a != b) x y := .t (by simpa using hp) h
theorem br_nf {a b : Int} {x y : Prop} (hp : a = b) (h : y) : br (a != b) x y := .f (by simpa using hp) h
theorem br_et {a b : Int} {x y : Prop} (hp : a = b) (h : x) : br (a == b) x y := .t (by simpa using hp) h
theorem br_ef {a b : Int} {x y : Prop} (hp : a ≠ b) (h : y) : br (a == b) x y := .f (by simpa using hp) h
theorem need_in {p : Prop} {i : Decidable p} {x : Prop} (hp : p) (h : x) : @need p i x := @need.mk p i x hp h
theorem idx_nat {α : Type} {l : List α} {i : Nat} {k : α → Prop} (h1 : i < l.length) (h : ∀ x, l[i]? = some x → k x) : idx l (i : Int) k :=
  idx_intro (by omega) (by omega) (fun x hx => h x (by simpa using hx))
theorem idx_kn {α : Type} {l : List α} {i : Nat} {y : α} {k : α → Prop} (hy : l[i]? = some y) (h : k y) : idx l (i : Int) k :=
  .mk y (by omega) (by simpa using hy) h
theorem idx_ki {α : Type} {l : List α} {i : Int} {y : α} {k : α → Prop} (hy : l[i.toNat]? = some y) (h0 : 0 ≤ i) (h : k y) : idx l i k :=
  .mk y h0 hy h
theorem idx_cl {α : Type} {l : List α} {i : Int} {k : α → Prop} (h : match l[i.toNat]? with | some x => (0 ≤ i ∧ i < l.length) ∧ k x | none => False) : idx l i k := by
  split at h
  · rename_i x hx
    exact idx_intro h.1.1 h.1.2 (fun y hy => by rw [hx] at hy; cases hy; exact h.2)
  · exact h.elim
theorem loop_inv {ms : List Nat} {body : (Tr → Hp → Prop) → Tr → Hp → Prop} {f : Tr} {h : Hp} (nz : List NZ) (cs : List Nat) (J : List AV → Hp → Prop) (μ : List AV → Hp → Nat) (hh : normK nz f h fun f h => J (cs.map f.get) h ∧
    ∀ vs h', vs.length = cs.length → J vs h' →
      eraseK f ms fun f0 => setsK f0 cs vs fun f1 => body (fun f2 h2 => backP ms cs f0 h.length J μ (μ vs h') f2 h2) f1 h') : loopP ms body f h :=
  .mk (.inr ⟨nz, cs, J, μ, hh⟩)
theorem back_intro {ms cs : List Nat} {f0 : Tr} {L : Nat} {J : List AV → Hp → Prop} {μ : List AV → Hp → Nat} {m : Nat} {f2 : Tr} {h2 : Hp} (h1 : eraseK f2 ms fun f => f = f0) (h3 : cutOk L (cs.map fun c => viewB L h2 (f2.get c)) h2 = true) (hJ : J (cs.map fun c => viewB L h2 (f2.get c)) (h2.take L)) (hm : μ (cs.map fun c => viewB L h2 (f2.get c)) (h2.take L) < m) : backP ms cs f0 L J μ m f2 h2 :=
  .mk [] (show backQ ms cs f0 L J μ m f2 h2 from ⟨by rw [erase_eq] at h1; exact h1, h3, hJ, hm⟩)
theorem backQ_in {ms cs : List Nat} {f0 : Tr} {L : Nat} {J : List AV → Hp → Prop} {μ : List AV → Hp → Nat} {m : Nat} {f2 : Tr} {h2 : Hp} (h1 : eraseK f2 ms fun f => f = f0) (h3 : cutOk L (cs.map fun c => viewB L h2 (f2.get c)) h2 = true) (hJ : J (cs.map fun c => viewB L h2 (f2.get c)) (h2.take L)) (hm : μ (cs.map fun c => viewB L h2 (f2.get c)) (h2.take L) < m) : backQ ms cs f0 L J μ m f2 h2 :=
  ⟨by rw [erase_eq] at h1; exact h1, h3, hJ, hm⟩
theorem frz_auto {xs : List AV} {P : Tr → Hp → Prop} {f : Tr} {h : Hp} (hh : normK (autoNZ xs f h) f h P) : frzP xs P f h := .mk _ hh
theorem draw_plain {P : Tr → Hp → Prop} {f : Tr} {h : Hp} (hh : P f h) : drawP P f h := .mk [] hh
section
variable {P : Program}
theorem SpecsOk.nil : SpecsOk P [] := fun g sp h => by cases h
theorem SpecsOk.consF {g : FuncId} {sp : FSpec} {l : List (FuncId × Spec)} (h : FreshOk P g sp) (hl : SpecsOk P l) : SpecsOk P ((g, .f sp) :: l) := by
  intro g' sp' h'
  simp only [lks] at h'
  cases hb : Nat.beq g g' with
  | true =>
    rw [hb] at h'
    have := Nat.eq_of_beq_eq_true hb
    cases h'
    exact this ▸ h
  | false =>
    rw [hb] at h'
    exact hl g' sp' h'
theorem SpecsOk.cons {g : FuncId} {sp : DSpec} {l : List (FuncId × Spec)} (h : SpecOk P g sp) (hl : SpecsOk P l) : SpecsOk P ((g, .d sp) :: l) := by
  intro g' sp' h'
  simp only [lks] at h'
  cases hb : Nat.beq g g' with
  | true =>
    rw [hb] at h'
    have := Nat.eq_of_beq_eq_true hb
    cases h'
    exact this ▸ h
  | false =>
    rw [hb] at h'
    exact hl g' sp' h'
/-- A nil slice reads as an empty list. -/
def nzV : Option Ty → AV → AV
  | some t, .nsl => .lst t []
  | _, v => v
def nzL : List (Option Ty) → List AV → List AV
  | t :: ts, v :: vs => nzV t v :: nzL ts vs
  | _, vs => vs
theorem nzV_R {s : St} {t : Option Ty} {v : AV} {c : Value} (h : R s v c) : R s (nzV t v) c := by
  unfold nzV
  split
  · simp only [R] at h ⊢
    subst h
    exact ⟨none, 0, rfl, by simp, fun h => absurd rfl h⟩
  · exact h
theorem nzL_RL {s : St} : ∀ (ts : List (Option Ty)) (vs : List AV) (cs : List Value), RL s vs cs → RL s (nzL ts vs) cs
  | [], vs, cs, h => by simpa only [nzL] using h
  | t :: ts, [], cs, h => by simpa only [nzL] using h
  | t :: ts, v :: vs, cs, h => by
    simp only [nzL, RL] at h ⊢
    obtain ⟨c, cs', rfl, h1, h2⟩ := h
    exact ⟨c, cs', rfl, nzV_R h1, nzL_RL ts vs cs' h2⟩
def nz (ts : List (Option Ty)) (sp : DSpec) : DSpec := fun ys => sp (nzL ts ys)
theorem SpecOk.nz {g : FuncId} {sp : DSpec} (h : SpecOk P g sp) (ts : List (Option Ty)) : SpecOk P g (nz ts sp) :=
  ⟨h.1, fun ys p r hsp hp s hok hh cs hr => h.2 (nzL ts ys) p r hsp hp s hok hh cs (nzL_RL ts ys cs hr)⟩
end
end Av
