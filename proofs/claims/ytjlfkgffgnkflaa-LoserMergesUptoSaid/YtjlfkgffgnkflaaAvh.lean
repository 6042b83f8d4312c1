/-
  An abstract reading of values and memory: code does what is reckoned.
-/
import Derived.Test.YtjlfkgffgnkflaaAvr
import Derived.Scope
import Derived.Orders
namespace Av
open Go

/-! ### What is known behind a piece of code -/
structure Post (s : St) (N : Nat) (ds : List Deferred) (K : Tr → Hp → Prop) (a : Act) (w : World) : Prop where
  get : ∃ s' f, s'.w = w ∧ Step s s' ∧ Ok s' ∧ FR s' f.get a ∧ K f s'.h
  dfr : a.defers = ds
  size : a.tmps.size = N
theorem put_size (a : Act) (d : Option Tmp) (v : Value) : (a.put d v).tmps.size = a.tmps.size := by cases d <;> simp [Act.put]
theorem put_defers (a : Act) (d : Option Tmp) (v : Value) : (a.put d v).defers = a.defers := by cases d <;> rfl
def dstOk (N : Nat) (o : Oper) : Bool := match o.dst with | some d => Nat.blt d N | none => true
def okCode (N : Nat) : Code → Bool
  | .region _ ops _ => ops.toList.all (dstOk N)
  | .seq a b => okCode N a && okCode N b
  | .cond _ a b => okCode N a && okCode N b
  | .block _ c => okCode N c
  | .loop c => okCode N c
  | .scope c => okCode N c
  | _ => true
section
variable {P : Program}
def CallOk (P : Program) (call : CallA) : Prop :=
  ∀ g xs h K, call g xs h K → Enters P g ∧ ∀ s, s.h = h → Ok s → ∀ cs, RL s xs cs →
    Calls P g cs.toArray s.w fun e w' => ∃ s' v cr, e = .returned cr ∧ s'.w = w' ∧ Step s s' ∧ Ok s' ∧ R s' v cr ∧ K v s'.h

theorem fin_ok {s s' : St} {N : Nat} {f : Tr} {a : Act} (hf : FR s f.get a) (hst : Step s s') (hok : Ok s') (hN : a.tmps.size = N) {o : Oper} (hd : dstOk N o = true) {v : AV} {cv : Value} (hv : R s' v cv) {K : Tr → Hp → Prop}
    (h : (match o.dst with | some d => force v fun v => f.setK d v fun f => K f s'.h | none => K f s'.h)) : Post s N a.defers K (a.put o.dst cv) s'.w := by
  refine ⟨?_, put_defers _ _ _, by rw [put_size]; exact hN⟩
  cases hdst : o.dst with
  | none =>
    rw [hdst] at h
    exact ⟨s', f, rfl, hst, hok, hf.step hst, h⟩
  | some d =>
    rw [hdst] at h
    simp only [force_eq, Tr.setK_eq] at h
    have hlt : d < a.tmps.size := by
      unfold dstOk at hd
      rw [hdst] at hd
      rw [hN]
      simpa using hd
    exact ⟨s', f.set d v, rfl, hst, hok, hf.put hst hlt hv, h⟩
theorem Post.trans {s s' : St} {N : Nat} {ds : List Deferred} {K : Tr → Hp → Prop} {a : Act} {w : World} (hst : Step s s') (h : Post s' N ds K a w) : Post s N ds K a w := by
  obtain ⟨⟨s2, f, h1, h2, h3, h4, h5⟩, h6, h7⟩ := h
  exact ⟨⟨s2, f, h1, hst.trans h2, h3, h4, h5⟩, h6, h7⟩
theorem plainA_ok {C : Cx} (hT : TbOk P C.tb) (hD : SpecsOk P C.specs) {s : St} (hok : Ok s) {N : Nat} {f : Tr} {a : Act} (hf : FR s f.get a) (hN : a.tmps.size = N) {o : Oper} (hd : dstOk N o = true) {K : Tr → Hp → Prop}
    (h : plainA C o (fun f v h => match o.dst with
    | some d => force v fun v => f.setK d v fun f => K f h
    | none => K f h) f s.h) {next : Act → World → Prop} {Q : Exit → Act → World → Prop} (hnext : ∀ a' w', Post s N a.defers K a' w' → next a' w') : o.wp P a s.w next Q := by
  unfold plainA at h
  rw [lenK_eq] at h
  obtain ⟨v, ob, his, hk⟩ := Res.sat_is h
  refine opR_ok hT hD hok (SubH.refl _) (.inl rfl) (ev_R hf) his next Q ?_
  intro cv s' hst hok' hv hh
  refine hnext _ _ (fin_ok hf hst hok' hN hd hv ?_)
  cases ob with
  | none =>
    rw [hh]
    exact hk
  | some ob =>
    rw [hh]
    simp only [forceO_eq, putK_eq] at hk
    exact hk
theorem stepA_ok {C : Cx} (hT : TbOk P C.tb) (hD : SpecsOk P C.specs) {call : CallA} (hcall : CallOk P call) {s : St} (hok : Ok s) {N : Nat} {f : Tr} {a : Act} (hf : FR s f.get a) (hN : a.tmps.size = N) {o : Oper} (hd : dstOk N o = true) {K : Tr → Hp → Prop}
    (h : stepA C call o f s.h K) {next : Act → World → Prop} {Q : Exit → Act → World → Prop} (hnext : ∀ a' w', Post s N a.defers K a' w' → next a' w') : o.wp P a s.w next Q := by
  unfold stepA at h
  simp only at h
  split at h
  · rename_i g xs hraw
    rw [fl2_eq] at h
    obtain ⟨hg, hc⟩ := hcall g xs s.h _ h
    unfold rawCall at hraw
    split at hraw
    · rename_i c ho
      split at hraw
      · cases hraw
      · split at hraw
        · rename_i g' first caps hca
          split at hraw
          · cases hraw
          · cases hraw
            obtain ⟨us, ys, h1, h2, hcw⟩ := callee_wp hT (ev_R hf) ho hca hg
            have hall : RL s (first ++ (c.args.toList.map (ev f.get) ++ caps)) (us ++ (c.args.toList.map a.eval ++ ys)) := RL_append h1 (RL_append (RL_map (ev_R hf) _) h2)
            refine hcw _ next Q ?_
            refine Calls.mono (hc s rfl hok _ hall) ?_
            rintro e w' ⟨s', v, cr, rfl, rfl, hst, hok', hv, hK⟩
            exact hnext _ _ (fin_ok hf hst hok' hN hd hv hK)
        · cases hraw
    · cases hraw
  · split at h
    · obtain ⟨nz, hh⟩ := h
      obtain ⟨s1, f1, h1, h2, h3, h4, h5⟩ := normK_ok nz f s _ hok hf hh
      have := plainA_ok hT hD h2 h3 hN hd h5 (next := next) (Q := Q) (fun a' w' hp => hnext a' w' (hp.trans h1))
      rw [h4] at this
      exact this
    · exact plainA_ok hT hD hok hf hN hd h hnext
theorem yielded_get {ops : Array Oper} {j t : Nat} (ht : (ops[j]?).bind (·.dst) = some t) {a : Act} (hlt : t < a.tmps.size) : yielded ops a.tmps j = match a.tmps.getD t undef with | .bool b => some b | _ => none := by
  unfold yielded
  rw [ht]
  simp only [Option.bind_some, Array.getD_eq_getD_getElem?, Array.getElem?_eq_getElem hlt, Option.getD_some]
  cases a.tmps[t] <;> rfl
theorem opsA_ok {C : Cx} (hT : TbOk P C.tb) (hD : SpecsOk P C.specs) {call : CallA} (hcall : CallOk P call) {ops : Array Oper} {N : Nat} (hops : ∀ o ∈ ops.toList, dstOk N o = true) {Q : Exit → Act → World → Prop} :
    ∀ (l : List Oper), (∀ o ∈ l, dstOk N o = true) → ∀ (s : St) (f : Tr) (a : Act) (K : Tr → Hp → Prop), Ok s → FR s f.get a → a.tmps.size = N → opsA C call ops l f s.h K → (∀ a' w', Post s N a.defers K a' w' → Q .normal a' w') → wpList P ops Q l a s.w
  | [], _, s, f, a, K, hok, hf, hN, h, hQ => hQ _ _ ⟨⟨s, f, rfl, Step.refl s, hok, hf, h⟩, rfl, hN⟩
  | o :: rest, hl, s, f, a, K, hok, hf, hN, h, hQ => by
    have hrest : ∀ (s' : St) (f' : Tr) (a' : Act), Step s s' → Ok s' → FR s' f'.get a' → a'.defers = a.defers → a'.tmps.size = N → opsA C call ops rest f' s'.h K → wpList P ops Q rest a' s'.w := fun s' f' a' hst hok' hf' hd hN' hk =>
      opsA_ok hT hD hcall hops rest (fun o ho => hl o (List.mem_cons_of_mem _ ho)) s' f' a' K hok' hf' hN' hk (fun a2 w2 hp => hQ a2 w2 (by rw [hd] at hp; exact hp.trans hst))
    have hd := hl o List.mem_cons_self
    have hrun : ∀ f', FR s f'.get a → stepA C call o f' s.h (fun f h => opsA C call ops rest f h K) → o.wp P a s.w (wpList P ops Q rest) Q := fun f' hf' hs =>
      stepA_ok hT hD hcall hok hf' hN hd hs (fun a' w' hp => by
        obtain ⟨⟨s', f2, rfl, h2, h3, h4, h5⟩, h6, h7⟩ := hp
        exact hrest s' f2 a' h2 h3 h4 h6 h7 h5)
    have hskip : ∀ f', FR s f'.get a → (match o.dst with | some d => f'.setK d .und fun f => opsA C call ops rest f s.h K | none => opsA C call ops rest f' s.h K) → wpList P ops Q rest (a.put o.dst undef) s.w := fun f' hf' hs => by
      cases hdst : o.dst with
      | none =>
        rw [hdst] at hs
        exact hrest s f' a (Step.refl s) hok hf' rfl hN hs
      | some d =>
        rw [hdst] at hs
        simp only [Tr.setK_eq] at hs
        have hlt : d < a.tmps.size := by
          unfold dstOk at hd
          rw [hdst] at hd
          rw [hN]
          simpa using hd
        exact hrest s (f'.set d .und) _ (Step.refl s) hok (hf'.put (Step.refl s) hlt (by simp only [R])) rfl (by rw [put_size]; exact hN) hs
    rw [opsA_cons] at h
    unfold wpList
    split at h
    · rename_i hg
      rw [if_pos (by simp [Region.wanted, hg])]
      exact .inl (hrun f hf h)
    · rename_i j want hg
      split at h
      · exact h.elim
      · rename_i t ht
        have hlt : t < a.tmps.size := by
          cases hj : ops[j]? with
          | none => rw [hj] at ht; cases ht
          | some oj =>
            rw [hj] at ht
            have hm : oj ∈ ops.toList := by
              obtain ⟨hl, he⟩ := Array.getElem?_eq_some_iff.1 hj
              rw [← he]
              exact Array.mem_toList_iff.2 (Array.getElem_mem hl)
            have := hops oj hm
            unfold dstOk at this
            simp only [Option.bind_some] at ht
            rw [ht] at this
            rw [hN]
            simpa using this
        have hy := yielded_get ht hlt
        have hw : Region.wanted o (yielded ops a.tmps) = (yielded ops a.tmps j == some want) := by simp [Region.wanted, hg]
        simp only at h
        split at h
        · rename_i b hb
          have hrt := hf t
          rw [hb] at hrt
          simp only [R] at hrt
          rw [hrt] at hy
          simp only at hy
          have hset : ∀ b', b' = b → FR s (f.set t (.bool b')).get a := by
            intro b' e u
            subst e
            by_cases hu : u = t
            · subst hu
              rcases Tr.get_set_eq f u (.bool b') with e | e <;> rw [e]
              · simp only [R]; exact hrt
              · simp only [R]
            · rw [Tr.get_set_ne f t u _ hu]
              exact hf u
          cases want with
          | true =>
            simp only [Tr.setK_eq] at h
            rcases br_elim h with ⟨rfl, hk⟩ | ⟨rfl, hk⟩
            · rw [if_pos (by rw [hw, hy]; rfl)]
              exact .inl (hrun _ (hset true rfl) hk)
            · rw [if_neg (by rw [hw, hy]; decide)]
              exact hskip _ (hset false rfl) (by cases hq : o.dst <;> rw [hq] at hk <;> simpa only [Tr.setK_eq] using hk)
          | false =>
            simp only [Tr.setK_eq] at h
            rcases br_elim h with ⟨rfl, hk⟩ | ⟨rfl, hk⟩
            · rw [if_neg (by rw [hw, hy]; decide)]
              exact hskip _ (hset true rfl) (by cases hq : o.dst <;> rw [hq] at hk <;> simpa only [Tr.setK_eq] using hk)
            · rw [if_pos (by rw [hw, hy]; rfl)]
              exact .inl (hrun _ (hset false rfl) hk)
        · rename_i hb
          have hrt := hf t
          rw [hb] at hrt
          simp only [R] at hrt
          rw [hrt] at hy
          rw [if_neg (by rw [hw, hy]; simp [undef])]
          exact hskip f hf h
        · exact h.elim
theorem opA1_ok {C : Cx} (hT : TbOk P C.tb) (hD : SpecsOk P C.specs) {call : CallA} (hcall : CallOk P call) {ops : Array Oper} {N : Nat} (hops : ∀ o ∈ ops.toList, dstOk N o = true) {Q : Exit → Act → World → Prop}
    {j : Nat} {o : Oper} (hoj : ops[j]? = some o) (hd : dstOk N o = true) {s : St} {f : Tr} {a : Act} {K : Tr → Hp → Prop} (hok : Ok s) (hf : FR s f.get a) (hN : a.tmps.size = N) (h : opsA C call ops [o] f s.h K) {next : Act → World → Prop} (hnext : ∀ a' w', Post s N a.defers K a' w' → next a' w') : wpOp P ops Q j next a s.w := by
  have hrun : ∀ f', FR s f'.get a → stepA C call o f' s.h (fun f h => opsA C call ops [] f h K) → o.wp P a s.w next Q := fun f' hf' hs =>
    stepA_ok hT hD hcall hok hf' hN hd hs (fun a' w' hp => hnext a' w' hp)
  have hskip : ∀ f', FR s f'.get a → (match o.dst with | some d => f'.setK d .und fun f => opsA C call ops [] f s.h K | none => opsA C call ops [] f' s.h K) → next (a.put o.dst undef) s.w := fun f' hf' hs => by
    cases hdst : o.dst with
    | none =>
      rw [hdst] at hs
      exact hnext _ _ ⟨⟨s, f', rfl, Step.refl s, hok, hf', hs⟩, rfl, hN⟩
    | some d =>
      rw [hdst] at hs
      simp only [Tr.setK_eq] at hs
      have hlt : d < a.tmps.size := by
        unfold dstOk at hd
        rw [hdst] at hd
        rw [hN]
        simpa using hd
      exact hnext _ _ ⟨⟨s, f'.set d .und, rfl, Step.refl s, hok, hf'.put (Step.refl s) hlt (by simp only [R]), hs⟩, rfl, by rw [put_size]; exact hN⟩
  rw [opsA_cons] at h
  unfold wpOp
  rw [hoj]
  simp only
  split at h
  · rename_i hg
    rw [if_pos (by simp [Region.wanted, hg])]
    exact .inl (hrun f hf h)
  · rename_i j want hg
    split at h
    · exact h.elim
    · rename_i t ht
      have hlt : t < a.tmps.size := by
        cases hj : ops[j]? with
        | none => rw [hj] at ht; cases ht
        | some oj =>
          rw [hj] at ht
          have hm : oj ∈ ops.toList := by
            obtain ⟨hl, he⟩ := Array.getElem?_eq_some_iff.1 hj
            rw [← he]
            exact Array.mem_toList_iff.2 (Array.getElem_mem hl)
          have := hops oj hm
          unfold dstOk at this
          simp only [Option.bind_some] at ht
          rw [ht] at this
          rw [hN]
          simpa using this
      have hy := yielded_get ht hlt
      have hw : Region.wanted o (yielded ops a.tmps) = (yielded ops a.tmps j == some want) := by simp [Region.wanted, hg]
      simp only at h
      split at h
      · rename_i b hb
        have hrt := hf t
        rw [hb] at hrt
        simp only [R] at hrt
        rw [hrt] at hy
        simp only at hy
        have hset : ∀ b', b' = b → FR s (f.set t (.bool b')).get a := by
          intro b' e u
          subst e
          by_cases hu : u = t
          · subst hu
            rcases Tr.get_set_eq f u (.bool b') with e | e <;> rw [e]
            · simp only [R]; exact hrt
            · simp only [R]
          · rw [Tr.get_set_ne f t u _ hu]
            exact hf u
        cases want with
        | true =>
          simp only [Tr.setK_eq] at h
          rcases br_elim h with ⟨rfl, hk⟩ | ⟨rfl, hk⟩
          · rw [if_pos (by rw [hw, hy]; rfl)]
            exact .inl (hrun _ (hset true rfl) hk)
          · rw [if_neg (by rw [hw, hy]; decide)]
            exact hskip _ (hset false rfl) (by cases hq : o.dst <;> rw [hq] at hk <;> simpa only [Tr.setK_eq] using hk)
        | false =>
          simp only [Tr.setK_eq] at h
          rcases br_elim h with ⟨rfl, hk⟩ | ⟨rfl, hk⟩
          · rw [if_neg (by rw [hw, hy]; decide)]
            exact hskip _ (hset true rfl) (by cases hq : o.dst <;> rw [hq] at hk <;> simpa only [Tr.setK_eq] using hk)
          · rw [if_pos (by rw [hw, hy]; rfl)]
            exact .inl (hrun _ (hset false rfl) hk)
      · rename_i hb
        have hrt := hf t
        rw [hb] at hrt
        simp only [R] at hrt
        rw [hrt] at hy
        rw [if_neg (by rw [hw, hy]; simp [undef])]
        exact hskip f hf h
      · exact h.elim
end
end Av
