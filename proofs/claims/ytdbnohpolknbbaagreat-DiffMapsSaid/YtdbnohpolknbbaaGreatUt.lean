/-
  An abstract reading of values and memory: functions that raise errors, catch them, and put calls off.
  Differences: errors that are raised and caught.
  Differences: the first fault of a list, by the code and by the reference.
  Differences: the first fault of a list, by the reference; the first fault of a map, by the code and by the reference.
  Differences of two maps, by the reference and by the code.
  Maps and items that are more than is looked at; items turned round.
-/
import Derived.Test.YtdbnohpolknbbaaGreatAw1
import Derived.Test.YtdbnohpolknbbaaGreatE5
import Derived.Test.YtdbnohpolknbbaaGreatE4
import Derived.Test.YtdbnohpolknbbaaGreatLg
import Derived.Test.YtdbnohpolknbbaaGreatAw0
namespace Av
open Go

section
variable {P : Program}
/-- Whether the function returns, or an error is on its way. -/
def RM (s : St) : Option AV → FrameMode → Prop
  | none, u => u = .returning
  | some p, u => ∃ v, u = .panicking [{ v := v, recovered := false }] ∧ R s p v
theorem RM.run {s : St} {m : Option AV} {u : FrameMode} (h : RM s m u) : u ≠ .run := by
  cases m with
  | none => simp only [RM] at h; subst h; simp
  | some p => obtain ⟨v, rfl, _⟩ := h; simp
theorem RM.step {s s' : St} (hst : Step s s') {m : Option AV} {u : FrameMode} (h : RM s m u) : RM s' m u := by
  cases m with
  | none => exact h
  | some p => obtain ⟨v, rfl, hr⟩ := h; exact ⟨v, rfl, R_mono hst _ _ hr⟩
theorem RM.settle {s : St} {m : Option AV} {u : FrameMode} (h : RM s m u) : Go.settle u = u := by
  cases m with
  | none => simp only [RM] at h; subst h; rfl
  | some p => obtain ⟨v, rfl, _⟩ := h; rfl
def CallDOk (P : Program) (cd : CallDA) : Prop :=
  ∀ g xs h m K, cd g xs h m K → Enters P g ∧ ∀ s, s.h = h → Ok s → ∀ cs u, RL s xs cs → RM s m u →
    CallsD P g cs.toArray u s.w fun e u' w' => ∃ s' v m', e = .returned v ∧ s'.w = w' ∧ Step s s' ∧ Ok s' ∧ RM s' m' (Go.settle u') ∧ K m' s'.h
theorem endE_ok {tb : Tb} (hT : TbOk P tb) {cd : CallDA} (hcd : CallDOk P cd) {fn : Func} {K : AV → Hp → Prop} {f : Tr} {a : Act} {s0 : St} : ∀ (D : List DA) (ds : List Deferred) (m : Option AV) (u : FrameMode) (s : St), Step s0 s → Ok s → FR s f.get a → RDs s D ds → RM s m u → endE tb cd fn K m f s.h D →
    Leaves P fn a.tmps (fun e w' => ∃ s' v cr, e = .returned cr ∧ s'.w = w' ∧ Step s0 s' ∧ Ok s' ∧ R s' v cr ∧ K v s'.h) ds u s.w
  | [], ds, m, u, s, hst, hok, hf, hRD, hm, h => by
    simp only [RDs] at hRD
    subst hRD
    cases m with
    | none =>
      simp only [RM] at hm
      subst hm
      have h : retA tb fn.results.toList f s.h K := h
      obtain ⟨v, cv, h1, h2, h3⟩ := results_ok (P := P) hT hok hf h
      exact ⟨cv, h1, s, v, cv, rfl, rfl, hst, hok, h2, h3⟩
    | some p => exact False.elim h
  | d :: D, ds, m, u, s, hst, hok, hf, hRD, hm, h => by
    obtain ⟨x, ds', rfl, ⟨cap, htar, hrl⟩, hRD'⟩ := hRD
    have h : cd d.1 d.2 s.h m fun m h => endE tb cd fn K m f h D := h
    obtain ⟨hen, hc⟩ := hcd _ _ _ _ _ h
    have hc := hc s rfl hok _ u hrl hm
    refine ⟨hm.run, _, _, d.1, (x.args.toList ++ cap).toArray, htar, ?_, ?_⟩
    · rw [htar]
      have : (x.args.toList ++ cap).toArray = x.args ++ cap.toArray := by simp
      rw [this]
      exact enter_run hen _ _
    · refine CallsD.mono hc ?_
      rintro e u' w' ⟨s', v, m', rfl, rfl, hst', hok', hm', hk⟩
      exact endE_ok hT hcd D ds' m' _ s' (hst.trans hst') hok' (hf.step hst') (hRD'.step hst') hm' hk
theorem bodyE_ok {C : Cx} (hm : P.follows .mixedOrders = true) (hT : TbOk P C.tb) (hD : SpecsOk P C.specs) {call : CallA} (hcall : CallOk P call) {ps : List (FuncId × PSpec)} (hp : PSpecsOk P ps) {cd : CallDA} (hcd : CallDOk P cd) {g : FuncId} {fn : Func} (hf : FnOk P g fn) {args : List AV} {s : St} {K : AV → Hp → Prop} (h : bodyE C call ps cd fn args s.h K) (hok : Ok s) {cs : List Value} (hr : RL s args cs) :
    Calls P g cs.toArray s.w fun e w' => ∃ s' v cr, e = .returned cr ∧ s'.w = w' ∧ Step s s' ∧ Ok s' ∧ R s' v cr ∧ K v s'.h := by
  unfold bodyE at h
  split at h
  · rename_i c hb hle
    have hcode := hf.code
    rw [hb] at hcode
    refine calls_of_wp_defers hf.get hb ?_
    have hlen : cs.length = args.length := RL_vals hr
    have hle := Nat.le_of_ble_eq_true hle
    have hget : ∀ i c, cs[i]? = some c → (cs.toArray ++ Array.replicate (fn.ntmps - cs.toArray.size) undef).getD (0 + i) undef = c := by
      intro i c hc
      have hlt := (List.getElem?_eq_some_iff.1 hc).1
      rw [Nat.zero_add, Array.getD_eq_getD_getElem?, Array.getElem?_append_left (by simpa using hlt)]
      simp [hc]
    obtain ⟨f', hf', hk⟩ := init_ok (a := { tmps := cs.toArray ++ Array.replicate (fn.ntmps - cs.toArray.size) undef, defers := [] }) args cs 0 _ _ hr (fun t => by rw [mk_get]; simp only [R]) hget h
    refine Code.wp_mono ?_ (codeE_ok hm hT hD hcall hp c hcode.1 hcode.2 _ _ _ _ f' s _ [] hok hf' (by simp; omega) rfl hk)
    intro e a' w' hq
    cases e with
    | normal =>
      obtain ⟨⟨s2, f2, D, rfl, h2, h3, h4, h5, h6⟩, _⟩ := hq
      exact endE_ok hT hcd D _ none _ s2 h2 h3 h4 h5 rfl h6
    | ret =>
      obtain ⟨⟨s2, f2, D, rfl, h2, h3, h4, h5, h6⟩, _⟩ := hq
      exact endE_ok hT hcd D _ none _ s2 h2 h3 h4 h5 rfl h6
    | panic ch =>
      obtain ⟨⟨s2, f2, D, p, v, rfl, rfl, h2, h3, h4, h5, h6, h7⟩, _⟩ := hq
      exact endE_ok hT hcd D _ (some p) _ s2 h2 h3 h4 h5 ⟨v, rfl, h6⟩ h7
    | exit i =>
      obtain ⟨⟨_, _, _, _, _, _, _, _, h5⟩, _⟩ := hq
      exact h5.elim
    | goto l => exact hq.elim
    | outgrown => exact hq.elim
  · exact h.elim
/-- A function that may raise, by its body: it neither looks at memory nor puts calls off. -/
noncomputable def bodyR (C : Cx) (call : CallA) (fn : Func) (args : List AV) (b : Bool) (r p : AV) : Prop :=
  match fn.body, Nat.ble args.length fn.ntmps with
  | some c, true => initK (Tr.mk (depthOf fn.ntmps)) 0 args fun f => codeE C call [] c (fun f h D => D = [] ∧ retA C.tb fn.results.toList f h (fun v _ => b = true ∧ v = r)) (fun _ _ _ _ => False) (fun f h D => D = [] ∧ retA C.tb fn.results.toList f h (fun v _ => b = true ∧ v = r)) (fun _ q _ D => D = [] ∧ b = false ∧ q = p) f [] []
  | _, _ => False
theorem PSpecsOk.nil : PSpecsOk P [] := fun g sp h => by cases h
theorem pspec_body {C : Cx} (hm : P.follows .mixedOrders = true) (hT : TbOk P C.tb) (hD : SpecsOk P C.specs) {call : CallA} (hcall : CallOk P call) {g : FuncId} {fn : Func} (hf : FnOk P g fn) {sp : PSpec}
    (h : ∀ ys b r p, sp ys = some (b, r, p) → flatVs ys = true ∧ flatV r = true ∧ flatV p = true ∧ bodyR C call fn ys b r p) : PSpecOk P g sp := by
  refine ⟨hf.enters, fun ys b r p hsp s hok cs hr => ?_⟩
  obtain ⟨hfy, hfr, hfp, hb0⟩ := h ys b r p hsp
  unfold bodyR at hb0
  split at hb0
  · rename_i c hb hle
    have hcode := hf.code
    rw [hb] at hcode
    have hlen : cs.length = ys.length := RL_vals hr
    have hle := Nat.le_of_ble_eq_true hle
    have hget : ∀ i c, cs[i]? = some c → (cs.toArray ++ Array.replicate (fn.ntmps - cs.toArray.size) undef).getD (0 + i) undef = c := by
      intro i c hc
      have hlt := (List.getElem?_eq_some_iff.1 hc).1
      rw [Nat.zero_add, Array.getD_eq_getD_getElem?, Array.getElem?_append_left (by simpa using hlt)]
      simp [hc]
    let s0 : St := s.callee (fun _ => False)
    have hok0 : Ok s0 := callee_ok hok (fun b hb => hb.elim)
    have hr0 : RL s0 ys cs := flat_RL ys cs hfy hr
    obtain ⟨f', hf', hk⟩ := init_ok (s := s0) (a := { tmps := cs.toArray ++ Array.replicate (fn.ntmps - cs.toArray.size) undef, defers := [] }) ys cs 0 _ _ hr0 (fun t => by rw [mk_get]; simp only [R]) hget hb0
    have grew : ∀ s' : St, Step s0 s' → Grew s.w s'.w := fun s' hst => ⟨hst.os, hst.tape, hst.output, hst.drawn, hst.size, fun b hb => (hst.keep b hb (fun ⟨i, o, h1, _⟩ => by simp [s0, St.callee] at h1)).2⟩
    refine calls_of_wp hf.get hb (Code.wp_mono ?_ (codeE_ok hm hT hD hcall PSpecsOk.nil c hcode.1 hcode.2 _ _ _ _ f' s0 _ [] hok0 hf' (by simp; omega) rfl hk))
    have fin : ∀ {a' : Act} {w' : World}, PostP s0 fn.ntmps (fun f h D => D = [] ∧ retA C.tb fn.results.toList f h (fun v _ => b = true ∧ v = r)) a' w' → a'.defers = [] ∧ ∃ v, (results fn a'.tmps).run P w' = .ok v w' ∧ ∃ s', s'.w = w' ∧ Step s s' ∧ Ok s' ∧ s'.h = s.h ∧ match (generalizing := false) b with
      | true => ∃ cr, Ending.returned v = .returned cr ∧ R s' r cr
      | false => ∃ v', Ending.returned v = .panicked [{ v := v', recovered := false }] ∧ R s' p v' := by
      rintro a' w' ⟨⟨s2, f2, D, rfl, h2, h3, h4, h5, ⟨rfl, h6⟩⟩, _⟩
      obtain ⟨v, cv, h7, h8, ⟨rfl, rfl⟩⟩ := results_ok (P := P) hT h3 h4 h6
      exact ⟨h5, cv, h7, s.world s2.w, rfl, St.world_step (grew s2 h2), St.world_ok hok (grew s2 h2), rfl, cv, rfl, flat_R _ _ hfr h8⟩
    intro e a' w' hq
    cases e with
    | normal => exact fin hq
    | ret => exact fin hq
    | exit i =>
      obtain ⟨⟨_, _, _, _, _, _, _, _, h5⟩, _⟩ := hq
      exact h5.elim
    | panic ch =>
      obtain ⟨⟨s2, f2, D, q, v, rfl, rfl, h2, h3, h4, h5, h6, ⟨rfl, rfl, rfl⟩⟩, _⟩ := hq
      exact ⟨h5, s.world s2.w, rfl, St.world_step (grew s2 h2), St.world_ok hok (grew s2 h2), rfl, v, rfl, flat_R _ _ hfp h6⟩
    | goto l => exact hq.elim
    | outgrown => exact hq.elim
  · exact hb0.elim
/-! ### Calls that were put off -/
/-- A function that is walked through, and catches nothing. -/
noncomputable def plainD (C : Cx) (call : CallA) (fn : Func) (xs : List AV) (h : Hp) (K : Hp → Prop) : Prop :=
  match fn.body, Nat.ble xs.length fn.ntmps with
  | some c, true => initK (Tr.mk (depthOf fn.ntmps)) 0 xs fun f => codeE C call [] c (fun f h D => match D with | [] => retA C.tb fn.results.toList f h (fun _ h => K h) | _ :: _ => False) (fun _ _ _ _ => False) (fun f h D => match D with | [] => retA C.tb fn.results.toList f h (fun _ h => K h) | _ :: _ => False) (fun _ _ _ _ => False) f h []
  | _, _ => False
theorem PSpecsOk.cons {g : FuncId} {sp : PSpec} {l : List (FuncId × PSpec)} (h : PSpecOk P g sp) (hl : PSpecsOk P l) : PSpecsOk P ((g, sp) :: l) := by
  intro g' sp' h'
  simp only [lkp] at h'
  cases hb : Nat.beq g g' with
  | true =>
    rw [hb] at h'
    have := Nat.eq_of_beq_eq_true hb
    cases h'
    exact this ▸ h
  | false =>
    rw [hb] at h'
    exact hl g' sp' h'
theorem plainD_ok {C : Cx} (hm : P.follows .mixedOrders = true) (hT : TbOk P C.tb) (hD : SpecsOk P C.specs) {call : CallA} (hcall : CallOk P call) {g : FuncId} {fn : Func} (hf : FnOk P g fn) {xs : List AV} {s : St} {K : Hp → Prop} (h : plainD C call fn xs s.h K) (hok : Ok s) {cs : List Value} (hr : RL s xs cs) {m : Option AV} {u : FrameMode} (hmu : RM s m u) :
    CallsD P g cs.toArray u s.w fun e u' w' => ∃ s' v m', e = .returned v ∧ s'.w = w' ∧ Step s s' ∧ Ok s' ∧ RM s' m' (Go.settle u') ∧ m' = m ∧ K s'.h := by
  unfold plainD at h
  split at h
  · rename_i c hb hle
    have hcode := hf.code
    rw [hb] at hcode
    refine CallsD.mono (callsD_of_wp (R := fun e w' => ∃ s' v, e = .returned v ∧ s'.w = w' ∧ Step s s' ∧ Ok s' ∧ K s'.h) hf.get hb ?_) (by
      rintro e u' w' ⟨rfl, s', v, rfl, rfl, h1, h2, h3⟩
      have h4 := hmu.step h1
      exact ⟨s', v, m, rfl, rfl, h1, h2, by rw [h4.settle]; exact h4, rfl, h3⟩)
    have hlen : cs.length = xs.length := RL_vals hr
    have hle := Nat.le_of_ble_eq_true hle
    have hget : ∀ i c, cs[i]? = some c → (cs.toArray ++ Array.replicate (fn.ntmps - cs.toArray.size) undef).getD (0 + i) undef = c := by
      intro i c hc
      have hlt := (List.getElem?_eq_some_iff.1 hc).1
      rw [Nat.zero_add, Array.getD_eq_getD_getElem?, Array.getElem?_append_left (by simpa using hlt)]
      simp [hc]
    obtain ⟨f', hf', hk⟩ := init_ok (a := { tmps := cs.toArray ++ Array.replicate (fn.ntmps - cs.toArray.size) undef, defers := [] }) xs cs 0 _ _ hr (fun t => by rw [mk_get]; simp only [R]) hget h
    refine Code.wp_mono ?_ (codeE_ok hm hT hD hcall PSpecsOk.nil c hcode.1 hcode.2 _ _ _ _ f' s _ [] hok hf' (by simp; omega) rfl hk)
    have fin : ∀ {a' : Act} {w' : World}, PostP s fn.ntmps (fun f h D => match D with | [] => retA C.tb fn.results.toList f h (fun _ h => K h) | _ :: _ => False) a' w' → a'.defers = [] ∧ ∃ v, (results fn a'.tmps).run P w' = .ok v w' ∧ ∃ s' v', Ending.returned v = .returned v' ∧ s'.w = w' ∧ Step s s' ∧ Ok s' ∧ K s'.h := by
      rintro a' w' ⟨⟨s2, f2, D, rfl, h2, h3, h4, h5, h6⟩, _⟩
      cases D with
      | nil =>
        obtain ⟨v, cv, h7, h8, h9⟩ := results_ok (P := P) hT h3 h4 h6
        exact ⟨h5, cv, h7, s2, cv, rfl, rfl, h2, h3, h9⟩
      | cons d D => exact h6.elim
    intro e a' w' hq
    cases e with
    | normal => exact fin hq
    | ret => exact fin hq
    | exit i =>
      obtain ⟨⟨_, _, _, _, _, _, _, _, h5⟩, _⟩ := hq
      exact h5.elim
    | panic ch =>
      obtain ⟨⟨_, _, _, _, _, _, _, _, _, _, _, _, h5⟩, _⟩ := hq
      exact h5.elim
    | goto l => exact hq.elim
    | outgrown => exact hq.elim
  · exact h.elim
/-- A function that begins with recover: its first operation, and what comes behind it. -/
def recO (c : Code) : Option (Nat × Code) := match c with
  | .seq (.region _ ops false) rest => match ops.toList with
    | [o] => match o.op, o.guard, o.dst with
      | .call cl, none, some d => match cl.callee, cl.args.toList, cl.argTypes.toList with
        | .builtin .recover, [], [] => some (d, rest)
        | _, _, _ => none
      | _, _, _ => none
    | _ => none
  | _ => none
noncomputable def recD (C : Cx) (call : CallA) (fn : Func) (xs : List AV) (p : AV) (h : Hp) (K : Hp → Prop) : Prop :=
  match fn.body, Nat.ble xs.length fn.ntmps with
  | some c, true => (match recO c with
    | some (d, rest) => initK (Tr.mk (depthOf fn.ntmps)) 0 xs fun f => f.setK d p fun f => codeE C call [] rest (fun f h D => match D with | [] => retA C.tb fn.results.toList f h (fun _ h => K h) | _ :: _ => False) (fun _ _ _ _ => False) (fun f h D => match D with | [] => retA C.tb fn.results.toList f h (fun _ h => K h) | _ :: _ => False) (fun _ _ _ _ => False) f h []
    | none => False)
  | _, _ => False
theorem recD_ok {C : Cx} (hm : P.follows .mixedOrders = true) (hT : TbOk P C.tb) (hD : SpecsOk P C.specs) {call : CallA} (hcall : CallOk P call) {g : FuncId} {fn : Func} (hf : FnOk P g fn) {xs : List AV} {s : St} {K : Hp → Prop} {p : AV} {m : Option AV} (h : recD C call fn xs p s.h K) (hok : Ok s) {cs : List Value} (hr : RL s xs cs) {u : FrameMode} (hmu : RM s m u) (hmp : m = some p ∨ m = none ∧ p = .nili) :
    CallsD P g cs.toArray u s.w fun e u' w' => ∃ s' v m', e = .returned v ∧ s'.w = w' ∧ Step s s' ∧ Ok s' ∧ RM s' m' (Go.settle u') ∧ m' = none ∧ K s'.h := by
  unfold recD at h
  split at h
  · rename_i c hb hle
    split at h
    · rename_i d rest hrec
      have hcode := hf.code
      rw [hb] at hcode
      unfold recO at hrec
      split at hrec
      · rename_i id ops rest'
        split at hrec
        · rename_i o hops
          split at hrec
          · rename_i cl d' hop hg hdst
            split at hrec
            · rename_i hcal hargs htys
              cases hrec
              have hopsA : ops = #[o] := by have := congrArg List.toArray hops; simpa using this
              have ha : cl.args = #[] := by have := congrArg List.toArray hargs; simpa using this
              have ht : cl.argTypes = #[] := by have := congrArg List.toArray htys; simpa using this
              subst hopsA
              have hlen : cs.length = xs.length := RL_vals hr
              have hle := Nat.le_of_ble_eq_true hle
              have hget : ∀ i c, cs[i]? = some c → (cs.toArray ++ Array.replicate (fn.ntmps - cs.toArray.size) undef).getD (0 + i) undef = c := by
                intro i c hc
                have hlt := (List.getElem?_eq_some_iff.1 hc).1
                rw [Nat.zero_add, Array.getD_eq_getD_getElem?, Array.getElem?_append_left (by simpa using hlt)]
                simp [hc]
              obtain ⟨f', hf', hk⟩ := init_ok (a := { tmps := cs.toArray ++ Array.replicate (fn.ntmps - cs.toArray.size) undef, defers := [] }) xs cs 0 _ _ hr (fun t => by rw [mk_get]; simp only [R]) hget h
              rw [Tr.setK_eq] at hk
              have hdN : d < fn.ntmps := by
                have h1 := hcode.1
                simp only [okCode, Bool.and_eq_true] at h1
                have h2 := List.all_eq_true.1 h1.1 o (by simp)
                unfold dstOk at h2
                rw [hdst] at h2
                simpa using h2
              have hcode2 : okCode fn.ntmps rest = true ∧ drawsOk rest = true := by
                have h1 := hcode.1
                have h2 := hcode.2
                simp only [okCode, drawsOk, Bool.and_eq_true] at h1 h2
                exact ⟨h1.2, h2.2⟩
              refine callsD_of_wpS (R := fun e u' w' => ∃ s' v m', e = .returned v ∧ s'.w = w' ∧ Step s s' ∧ Ok s' ∧ RM s' m' (Go.settle u') ∧ m' = none ∧ K s'.h) hf.get hb (fun c0 fs hc0 => ?_)
              refine wpS_seq (wpS_region ?_)
              have hw : Region.wanted o (yielded #[o] (cs.toArray ++ Array.replicate (fn.ntmps - cs.toArray.size) undef)) = true := by simp [Region.wanted, hg]
              have hrun : ∀ (ρ : Operand → Value), (execOp ρ o).run P s.w = .ok .recover s.w := by
                intro ρ
                unfold execOp
                simp only [hop, resolve, hcal, ha, ht, Sem.run_bind, Sem.run_pure, Result.andThen_ok, invoke, builtin]
              obtain ⟨pv, u', hpv, hu', hstep⟩ : ∃ pv u', R s p pv ∧ Go.settle u' = .returning ∧ ∀ (Q : Exit → Act → List Frame → World → Prop) (a0 : Act), Q .normal (a0.put o.dst pv) ({ c0 with mode := u' } :: fs) s.w → (match recoverD (c0 :: fs) with | some (v, cs') => Q .normal (a0.put o.dst v) cs' s.w | none => Q .normal (a0.put o.dst .nilIface) (c0 :: fs) s.w) := by
                rcases hmp with rfl | ⟨rfl, rfl⟩
                · obtain ⟨pv, rfl, hpv⟩ := hmu
                  refine ⟨pv, .panicking [{ v := pv, recovered := true }], hpv, rfl, fun Q a0 hq => ?_⟩
                  have hrd : recoverD (c0 :: fs) = some (pv, { c0 with mode := .panicking [{ v := pv, recovered := true }] } :: fs) := by
                    simp only [recoverD, hc0]
                  rw [hrd]
                  exact hq
                · simp only [RM] at hmu
                  subst hmu
                  refine ⟨.nilIface, .returning, by simp only [R], rfl, fun Q a0 hq => ?_⟩
                  have hrd : recoverD (c0 :: fs) = none := by simp only [recoverD, hc0]
                  rw [hrd]
                  have : ({ c0 with mode := .returning } : Frame) = c0 := by rw [← hc0]
                  rw [this] at hq
                  exact hq
              show wpOpsS P #[o] _ [0] _ _ _
              simp only [wpOpsS]
              simp only [List.getElem?_toArray, List.getElem?_cons_zero, hw, if_true, hrun]
              refine hstep _ _ ?_
              show Exit.thenS _ _ .normal _ _ _
              have hfr : FR s (f'.set d p).get ({ tmps := cs.toArray ++ Array.replicate (fn.ntmps - cs.toArray.size) undef, defers := [] : Act }.put o.dst pv) := by
                rw [hdst]
                exact hf'.put (Step.refl s) (by simp; omega) hpv
              refine wpS_of_wp (Code.wp_mono ?_ (codeE_ok hm hT hD hcall PSpecsOk.nil rest hcode2.1 hcode2.2 _ _ _ _ (f'.set d p) s _ [] hok hfr (by rw [put_size]; simp; omega) (by rw [put_defers]; rfl) hk))
              have fin : ∀ {a' : Act} {w' : World}, PostP s fn.ntmps (fun f h D => match D with | [] => retA C.tb fn.results.toList f h (fun _ h => K h) | _ :: _ => False) a' w' → bodyPostS P fn c0 fs (fun e u' w' => ∃ s' v m', e = .returned v ∧ s'.w = w' ∧ Step s s' ∧ Ok s' ∧ RM s' m' (Go.settle u') ∧ m' = none ∧ K s'.h) .normal a' ({ c0 with mode := u' } :: fs) w' := by
                rintro a' w' ⟨⟨s2, f2, D, rfl, h2, h3, h4, h5, h6⟩, _⟩
                cases D with
                | nil =>
                  obtain ⟨v, cv, h7, h8, h9⟩ := results_ok (P := P) hT h3 h4 h6
                  exact ⟨h5, _, rfl, cv, h7, s2, cv, none, rfl, rfl, h2, h3, hu', rfl, h9⟩
                | cons d D => exact h6.elim
              intro e a' w' hq
              cases e with
              | normal => exact fin hq
              | ret => exact fin hq
              | exit i =>
                obtain ⟨⟨_, _, _, _, _, _, _, _, h5⟩, _⟩ := hq
                exact h5.elim
              | panic ch =>
                obtain ⟨⟨_, _, _, _, _, _, _, _, _, _, _, _, h5⟩, _⟩ := hq
                exact h5.elim
              | goto l => exact hq.elim
              | outgrown => exact hq.elim
            · cases hrec
          · cases hrec
        · cases hrec
      · cases hrec
    · exact h.elim
  · exact h.elim
/-- Calls that were put off: functions that catch an error, others that are walked through. -/
noncomputable def callDf (C : Cx) (call : CallA) (rs : List FuncId) : CallDA := fun g xs h m K =>
  match lkf C.fns g with
  | none => False
  | some fn => match rs.any (fun r => Nat.beq r g), m with
    | true, none => recD C call fn xs .nili h fun h => K none h
    | true, some p => recD C call fn xs p h fun h => K none h
    | false, m => plainD C call fn xs h fun h => K m h
theorem callDf_ok {C : Cx} (hm : P.follows .mixedOrders = true) (hT : TbOk P C.tb) (hD : SpecsOk P C.specs) (hF : FnsOk P C.fns) {call : CallA} (hcall : CallOk P call) (rs : List FuncId) : CallDOk P (callDf C call rs) := by
  intro g xs h m K hk
  unfold callDf at hk
  split at hk
  · exact hk.elim
  · rename_i fn hl
    have hfn := hF g fn hl
    refine ⟨hfn.enters, fun s hs hok cs u hr hmu => ?_⟩
    subst hs
    split at hk
    · refine CallsD.mono (recD_ok hm hT hD hcall hfn hk hok hr hmu (.inr ⟨rfl, rfl⟩)) ?_
      rintro e u' w' ⟨s', v, m', h1, h2, h3, h4, h5, rfl, h7⟩
      exact ⟨s', v, _, h1, h2, h3, h4, h5, h7⟩
    · refine CallsD.mono (recD_ok hm hT hD hcall hfn hk hok hr hmu (.inl rfl)) ?_
      rintro e u' w' ⟨s', v, m', h1, h2, h3, h4, h5, rfl, h7⟩
      exact ⟨s', v, _, h1, h2, h3, h4, h5, h7⟩
    · refine CallsD.mono (plainD_ok hm hT hD hcall hfn hk hok hr hmu) ?_
      rintro e u' w' ⟨s', v, m', h1, h2, h3, h4, h5, rfl, h7⟩
      exact ⟨s', v, _, h1, h2, h3, h4, h5, h7⟩
/-- What a function returns, by its body; errors are raised in it, and caught. -/
theorem spec_bodyE {C : Cx} (hm : P.follows .mixedOrders = true) (hT : TbOk P C.tb) (hD : SpecsOk P C.specs) {call : CallA} (hcall : CallOk P call) {ps : List (FuncId × PSpec)} (hp : PSpecsOk P ps) {cd : CallDA} (hcd : CallDOk P cd) {g : FuncId} {fn : Func} (hf : FnOk P g fn) {sp : DSpec}
    (h : ∀ ys p r, sp ys = some (p, r) → p → bodyE C call ps cd fn ys [] (fun v h => (viewR h v fun y => .ok y none).sat fun y _ => y = r)) : SpecOk P g sp := by
  refine ⟨hf.enters, fun ys p r hsp hpp s hok hh cs hr => ?_⟩
  have hb := h ys p r hsp hpp
  rw [← hh] at hb
  refine Calls.mono (bodyE_ok hm hT hD hcall hp hcd hf hb hok hr) ?_
  rintro e w' ⟨s', v, cr, rfl, rfl, hst, hok', hv, hK⟩
  obtain ⟨y, ob, his, rfl⟩ := Res.sat_is hK
  have hFo : ∀ b, s'.F b → Own s' b := fun b hb => .inl hb
  obtain ⟨z, hz, hR⟩ := viewR_ok hok' (SubH.refl _) (F := s'.F) hFo v cr _ y ob hv (fun _ b hb => hok'.dis b hb) his
  obtain ⟨rfl, _⟩ := hz
  have hcut : s'.cut 0 = s'.callee s'.F := by
    unfold St.cut St.callee
    rw [List.take_zero]
  refine ⟨s'.cut 0, cr, rfl, rfl, cut_step hst (by rw [hh]; exact Nat.le_refl _), cut_ok hok' (fun id T cs hlt => by omega), by rw [hcut]; rfl, by rw [hcut]; exact hR⟩
end
end Av
namespace Go.Proofs.YtdbnohpolknbbaaGreat
open Av Bk

/-- What is raised: an error at an item. -/
abbrev wrongA (i e : Int) : AV := .iface 111 (.agg [.int .i64 i, .int .i64 e])
def spMust : PSpec
  | [.int .i64 i, .int .i64 e] => some (decide (e = 0), .tup [], wrongA i e)
  | _ => none
set_option maxRecDepth 100000 in
theorem fnOk_must : FnOk Tryz.prog 41 Tryz.f41 := ⟨by rfl, by kernel_rfl, by
  show okCode _ _ = true ∧ drawsOk _ = true
  exact ⟨by kernel_rfl, by kernel_rfl⟩⟩
theorem must_ok : PSpecOk Tryz.prog 41 spMust := by
  refine pspec_body (C := cx0) mixed tbOk SpecsOk.nil (callN_ok (C := cx0) mixed tbOk SpecsOk.nil FnsOk.nil 0) fnOk_must ?_
  intro ys b r p hsp
  unfold spMust at hsp
  split at hsp
  · rename_i i e
    cases hsp
    refine ⟨rfl, rfl, rfl, ?_⟩
    conv => whnf
    repeat' first
      | ((first | refine auT ?_ | refine auF ?_ | with_reducible first | refine auKt ?_ | refine auKf ?_ | refine auNt ?_ | refine auNf ?_ | refine auEt ?_ | refine auEf ?_); conv => whnf)
      | ((with_reducible first | refine br_dec (fun h => ?_) (fun h => ?_) | refine br_ndec (fun h => ?_) (fun h => ?_) | refine br_ne (fun h => ?_) (fun h => ?_) | refine br_eq (fun h => ?_) (fun h => ?_)) <;> first | (exfalso; omega) | conv => whnf)
      | (refine br_intro (fun h => ?_) (fun h => ?_) <;> conv => whnf)
      | ((first | refine auNd ?_ | refine idx_nat (by omega) (fun x hx => ?_) | refine frz_auto ?_ | refine draw_plain ?_ | refine auIx (fun x hx => ?_)); conv => whnf)
    · exact ⟨rfl, by simpa using h, rfl⟩
    · refine ⟨rfl, ?_⟩
      conv => whnf
      exact ⟨by simpa using h, rfl⟩
  · cases hsp
set_option maxRecDepth 100000 in
theorem fnOk_caught : FnOk Tryz.prog 40 Tryz.f40 := ⟨by rfl, by kernel_rfl, by
  show okCode _ _ = true ∧ drawsOk _ = true
  exact ⟨by kernel_rfl, by kernel_rfl⟩⟩
end Go.Proofs.YtdbnohpolknbbaaGreat
namespace Go.Proofs.YtdbnohpolknbbaaGreat
open Av Bk

def spIC : DSpec
  | [.lst (.st [.int .i64, .str, .str, .str]) l] => some (l.length ≤ 4611686018427387904, .tup [.int .i64 (icL l).1, .int .i64 (icL l).2])
  | _ => none
set_option maxRecDepth 100000 in
theorem fnOk_diffCheck : FnOk Tryz.prog 14 Tryz.f14 := ⟨by rfl, by kernel_rfl, by
  show okCode _ _ = true ∧ drawsOk _ = true
  exact ⟨by kernel_rfl, by kernel_rfl⟩⟩
noncomputable def cxub : Cx := ⟨tb, [(40, Tryz.f40)], []⟩
theorem fnsub : FnsOk Tryz.prog cxub.fns := .cons fnOk_caught .nil
theorem callub (n : Nat) : CallOk Tryz.prog (callN cxub n) := callN_ok (C := cxub) mixed tbOk SpecsOk.nil fnsub n
def psub : List (FuncId × PSpec) := [(41, spMust)]
theorem psub_ok : PSpecsOk Tryz.prog psub := .cons must_ok .nil
noncomputable def cdub : CallDA := callDf cxub (callN cxub 2) [40]
theorem cdub_ok : CallDOk Tryz.prog cdub := callDf_ok (C := cxub) mixed tbOk SpecsOk.nil fnsub (callub 2) _
set_option maxRecDepth 100000 in
set_option maxHeartbeats 4000000 in
theorem diffCheck_ok : SpecOk Tryz.prog 14 spIC := by
  refine spec_bodyE (C := cxub) mixed tbOk SpecsOk.nil (callub 3) psub_ok cdub_ok fnOk_diffCheck ?_
  intro ys p r h hp
  unfold spIC at h
  split at h
  · rename_i l
    cases h
    conv => whnf
    repeat' first
      | ((first | refine auIk ?_ | refine auIi ?_ | refine auT ?_ | refine auF ?_ | with_reducible first | refine auKt ?_ | refine auKf ?_ | refine auNt ?_ | refine auNf ?_ | refine auEt ?_ | refine auEf ?_); conv => whnf)
      | ((with_reducible first | refine br_dec (fun h => ?_) (fun h => ?_) | refine br_ndec (fun h => ?_) (fun h => ?_) | refine br_ne (fun h => ?_) (fun h => ?_) | refine br_eq (fun h => ?_) (fun h => ?_)) <;> first | (exfalso; omega) | conv => whnf)
      | (refine br_intro (fun h => ?_) (fun h => ?_) <;> conv => whnf)
      | ((first | refine auNd ?_ | refine idx_nat (by omega) (fun x hx => ?_) | refine frz_auto ?_ | refine draw_plain ?_ | refine auIx (fun x hx => ?_)); conv => whnf)
    · rw [icL, if_pos h]
    · have hcl : icL l = ckGo itE itK (pvK itK l 0) ((0 : Nat) : Int) (l.drop 0) := by rw [icL, if_neg h]; rfl
      refine loop_inv [] [12] (fun vs h => ∃ i : Nat, vs = [.int .i64 (i : Int)] ∧ h = [.cells 3 [.int .i64 0], .cells 29 [.int .i64 0]] ∧ i ≤ l.length ∧ icL l = ckGo itE itK (pvK itK l i) (i : Int) (l.drop i)) (fun vs _ => match vs with | [.int _ k] => l.length - k.toNat | _ => 0) ?_
      conv => whnf
      refine ⟨⟨0, rfl, rfl, Nat.zero_le _, hcl⟩, ?_⟩
      clear hcl
      rintro vs h' - ⟨i, rfl, rfl, hi, hcl⟩
      by_cases hil : i < l.length
      · obtain ⟨y, hy⟩ : ∃ y, l[i]? = some y := ⟨_, List.getElem?_eq_getElem hil⟩
        have hi1 : ((i : Int) - 1).toNat = i - 1 := by omega
        conv => whnf
        repeat' first
          | ((first | refine auIk ?_ | refine auIi ?_ | refine auT ?_ | refine auF ?_ | with_reducible first | refine auKt ?_ | refine auKf ?_ | refine auNt ?_ | refine auNf ?_ | refine auEt ?_ | refine auEf ?_); conv => whnf)
          | ((with_reducible first | refine br_dec (fun h => ?_) (fun h => ?_) | refine br_ndec (fun h => ?_) (fun h => ?_) | refine br_ne (fun h => ?_) (fun h => ?_) | refine br_eq (fun h => ?_) (fun h => ?_)) <;> first | (exfalso; omega) | conv => whnf)
          | (refine br_intro (fun h => ?_) (fun h => ?_) <;> conv => whnf)
          | ((first | refine auNd ?_ | refine idx_nat (by omega) (fun x hx => ?_) | refine frz_auto ?_ | refine draw_plain ?_ | refine auIx (fun x hx => ?_)); conv => whnf)
        all_goals try (rw [hi1] at hx)
        all_goals first
          | (refine (fun hE : itE y = 6 => ?_) ?_
             · exact tup_eq (by rw [ck_err hcl hy (by rw [hE]; decide), hE])
             · first | (simp [itE, *]; done) | (simp only [Bool.not_eq_true'] at h; simp [itE, *]; done))
          | (refine (fun hE : itE y = 3 => ?_) ?_
             · exact tup_eq (by rw [ck_err hcl hy (by rw [hE]; decide), hE])
             · (simp [itE, *]; done))
          | (refine (fun hE : itE y = 0 => ?_) ?_
             · exact tup_eq (ck_form hcl hy hE (by omega) hx (by simpa using h))
             · (simp_all [itE]; done))
          | (refine (fun hE : itE y = 0 => ?_) ?_
             · refine ⟨rfl, back_intro (by conv => whnf) rfl ⟨i + 1, rfl, rfl, by omega, ck_next hcl hy hE (by first | exact .inl (by omega) | exact .inr ⟨x, hx, by simpa using h⟩)⟩ ?_⟩
               show l.length - ((i : Int) + 1).toNat < l.length - (i : Int).toNat
               omega
             · (simp_all [itE]; done))
      · conv => whnf
        repeat' first
          | ((first | refine auIk ?_ | refine auIi ?_ | refine auT ?_ | refine auF ?_ | with_reducible first | refine auKt ?_ | refine auKf ?_ | refine auNt ?_ | refine auNf ?_ | refine auEt ?_ | refine auEf ?_); conv => whnf)
          | ((with_reducible first | refine br_dec (fun h => ?_) (fun h => ?_) | refine br_ndec (fun h => ?_) (fun h => ?_) | refine br_ne (fun h => ?_) (fun h => ?_) | refine br_eq (fun h => ?_) (fun h => ?_)) <;> first | (exfalso; omega) | conv => whnf)
          | (refine br_intro (fun h => ?_) (fun h => ?_) <;> conv => whnf)
          | ((first | refine auNd ?_ | refine idx_nat (by omega) (fun x hx => ?_) | refine frz_auto ?_ | refine draw_plain ?_ | refine auIx (fun x hx => ?_)); conv => whnf)
        rw [ck_end hcl (by omega)]
  · cases h
end Go.Proofs.YtdbnohpolknbbaaGreat
namespace Go.Proofs.YtdbnohpolknbbaaGreat
open Av Bk

def spMC : DSpec
  | [.lst (.st [.str, .str]) l] => some (l.length ≤ 4611686018427387904, .tup [.int .i64 (mcL l).1, .int .i64 (mcL l).2])
  | _ => none
set_option maxRecDepth 100000 in
theorem fnOk_modelCheck : FnOk Tryz.prog 46 Tryz.f46 := ⟨by rfl, by kernel_rfl, by
  show okCode _ _ = true ∧ drawsOk _ = true
  exact ⟨by kernel_rfl, by kernel_rfl⟩⟩
set_option maxRecDepth 100000 in
set_option maxHeartbeats 4000000 in
theorem modelCheck_ok : SpecOk Tryz.prog 46 spMC := by
  refine spec_body (C := cx0) mixed tbOk SpecsOk.nil (callN_ok (C := cx0) mixed tbOk SpecsOk.nil FnsOk.nil 0) fnOk_modelCheck ?_
  intro ys p r h hp
  unfold spMC at h
  split at h
  · rename_i l
    cases h
    conv => whnf
    repeat' first
      | ((first | refine auIk ?_ | refine auIi ?_ | refine auT ?_ | refine auF ?_ | with_reducible first | refine auKt ?_ | refine auKf ?_ | refine auNt ?_ | refine auNf ?_ | refine auEt ?_ | refine auEf ?_); conv => whnf)
      | ((with_reducible first | refine br_dec (fun h => ?_) (fun h => ?_) | refine br_ndec (fun h => ?_) (fun h => ?_) | refine br_ne (fun h => ?_) (fun h => ?_) | refine br_eq (fun h => ?_) (fun h => ?_)) <;> first | (exfalso; omega) | conv => whnf)
      | (refine br_intro (fun h => ?_) (fun h => ?_) <;> conv => whnf)
      | ((first | refine auNd ?_ | refine idx_nat (by omega) (fun x hx => ?_) | refine frz_auto ?_ | refine draw_plain ?_ | refine auIx (fun x hx => ?_)); conv => whnf)
    · rw [mcL, if_pos h]
    · have hcl : mcL l = ckGo prE prK (pvK prK l 0) ((0 : Nat) : Int) (l.drop 0) := by rw [mcL, if_neg h]; rfl
      refine loop_inv [] [11] (fun vs h => ∃ i : Nat, vs = [.int .i64 (i : Int)] ∧ h = [] ∧ i ≤ l.length ∧ mcL l = ckGo prE prK (pvK prK l i) (i : Int) (l.drop i)) (fun vs _ => match vs with | [.int _ k] => l.length - k.toNat | _ => 0) ?_
      conv => whnf
      refine ⟨⟨0, rfl, rfl, Nat.zero_le _, hcl⟩, ?_⟩
      clear hcl
      rintro vs h' - ⟨i, rfl, rfl, hi, hcl⟩
      by_cases hil : i < l.length
      · obtain ⟨y, hy⟩ : ∃ y, l[i]? = some y := ⟨_, List.getElem?_eq_getElem hil⟩
        have hi1 : ((i : Int) - 1).toNat = i - 1 := by omega
        conv => whnf
        repeat' first
          | ((first | refine auIk ?_ | refine auIi ?_ | refine auT ?_ | refine auF ?_ | with_reducible first | refine auKt ?_ | refine auKf ?_ | refine auNt ?_ | refine auNf ?_ | refine auEt ?_ | refine auEf ?_); conv => whnf)
          | ((with_reducible first | refine br_dec (fun h => ?_) (fun h => ?_) | refine br_ndec (fun h => ?_) (fun h => ?_) | refine br_ne (fun h => ?_) (fun h => ?_) | refine br_eq (fun h => ?_) (fun h => ?_)) <;> first | (exfalso; omega) | conv => whnf)
          | (refine br_intro (fun h => ?_) (fun h => ?_) <;> conv => whnf)
          | ((first | refine auNd ?_ | refine idx_nat (by omega) (fun x hx => ?_) | refine frz_auto ?_ | refine draw_plain ?_ | refine auIx (fun x hx => ?_)); conv => whnf)
        all_goals try (rw [hi1] at hx)
        all_goals first
          | (refine (fun hE : prE y = 3 => ?_) ?_
             · exact tup_eq (by rw [ck_err hcl hy (by rw [hE]; decide), hE])
             · (simp [prE, *]; done))
          | (refine (fun hE : prE y = 0 => ?_) ?_
             · exact tup_eq (ck_form hcl hy hE (by omega) hx (by simpa using h))
             · (simp [prE, *]; done))
          | (refine (fun hE : prE y = 0 => ?_) ?_
             · refine back_intro (by conv => whnf) rfl ⟨i + 1, rfl, rfl, by omega, ck_next hcl hy hE (by first | exact .inl (by omega) | exact .inr ⟨x, hx, by simpa using h⟩)⟩ ?_
               show l.length - ((i : Int) + 1).toNat < l.length - (i : Int).toNat
               omega
             · (simp [prE, *]; done))
      · conv => whnf
        repeat' first
          | ((first | refine auIk ?_ | refine auIi ?_ | refine auT ?_ | refine auF ?_ | with_reducible first | refine auKt ?_ | refine auKf ?_ | refine auNt ?_ | refine auNf ?_ | refine auEt ?_ | refine auEf ?_); conv => whnf)
          | ((with_reducible first | refine br_dec (fun h => ?_) (fun h => ?_) | refine br_ndec (fun h => ?_) (fun h => ?_) | refine br_ne (fun h => ?_) (fun h => ?_) | refine br_eq (fun h => ?_) (fun h => ?_)) <;> first | (exfalso; omega) | conv => whnf)
          | (refine br_intro (fun h => ?_) (fun h => ?_) <;> conv => whnf)
          | ((first | refine auNd ?_ | refine idx_nat (by omega) (fun x hx => ?_) | refine frz_auto ?_ | refine draw_plain ?_ | refine auIx (fun x hx => ?_)); conv => whnf)
        rw [ck_end hcl (by omega)]
  · cases h
set_option maxRecDepth 100000 in
theorem fnOk_r05Check : FnOk Tryz.prog 35 Tryz.f35 := ⟨by rfl, by kernel_rfl, by
  show okCode _ _ = true ∧ drawsOk _ = true
  exact ⟨by kernel_rfl, by kernel_rfl⟩⟩
set_option maxRecDepth 100000 in
set_option maxHeartbeats 4000000 in
theorem r05Check_ok : SpecOk Tryz.prog 35 spMC := by
  refine spec_body (C := cx0) mixed tbOk SpecsOk.nil (callN_ok (C := cx0) mixed tbOk SpecsOk.nil FnsOk.nil 0) fnOk_r05Check ?_
  intro ys p r h hp
  unfold spMC at h
  split at h
  · rename_i l
    cases h
    conv => whnf
    repeat' first
      | ((first | refine auIk ?_ | refine auIi ?_ | refine auT ?_ | refine auF ?_ | with_reducible first | refine auKt ?_ | refine auKf ?_ | refine auNt ?_ | refine auNf ?_ | refine auEt ?_ | refine auEf ?_); conv => whnf)
      | ((with_reducible first | refine br_dec (fun h => ?_) (fun h => ?_) | refine br_ndec (fun h => ?_) (fun h => ?_) | refine br_ne (fun h => ?_) (fun h => ?_) | refine br_eq (fun h => ?_) (fun h => ?_)) <;> first | (exfalso; omega) | conv => whnf)
      | (refine br_intro (fun h => ?_) (fun h => ?_) <;> conv => whnf)
      | ((first | refine auNd ?_ | refine idx_nat (by omega) (fun x hx => ?_) | refine frz_auto ?_ | refine draw_plain ?_ | refine auIx (fun x hx => ?_)); conv => whnf)
    · rw [mcL, if_pos h]
    · have hcl : mcL l = ckGo prE prK (pvK prK l 0) ((0 : Nat) : Int) (l.drop 0) := by rw [mcL, if_neg h]; rfl
      refine loop_inv [] [4] (fun vs h => ∃ i : Nat, vs = [.int .i64 (i : Int)] ∧ h = [] ∧ i ≤ l.length ∧ mcL l = ckGo prE prK (pvK prK l i) (i : Int) (l.drop i)) (fun vs _ => match vs with | [.int _ k] => l.length - k.toNat | _ => 0) ?_
      conv => whnf
      refine ⟨⟨0, rfl, rfl, Nat.zero_le _, hcl⟩, ?_⟩
      clear hcl
      rintro vs h' - ⟨i, rfl, rfl, hi, hcl⟩
      by_cases hil : i < l.length
      · obtain ⟨y, hy⟩ : ∃ y, l[i]? = some y := ⟨_, List.getElem?_eq_getElem hil⟩
        have hi1 : ((i : Int) - 1).toNat = i - 1 := by omega
        conv => whnf
        repeat' first
          | ((first | refine auIk ?_ | refine auIi ?_ | refine auT ?_ | refine auF ?_ | with_reducible first | refine auKt ?_ | refine auKf ?_ | refine auNt ?_ | refine auNf ?_ | refine auEt ?_ | refine auEf ?_); conv => whnf)
          | ((with_reducible first | refine br_dec (fun h => ?_) (fun h => ?_) | refine br_ndec (fun h => ?_) (fun h => ?_) | refine br_ne (fun h => ?_) (fun h => ?_) | refine br_eq (fun h => ?_) (fun h => ?_)) <;> first | (exfalso; omega) | conv => whnf)
          | (refine br_intro (fun h => ?_) (fun h => ?_) <;> conv => whnf)
          | ((first | refine auNd ?_ | refine idx_nat (by omega) (fun x hx => ?_) | refine frz_auto ?_ | refine draw_plain ?_ | refine auIx (fun x hx => ?_)); conv => whnf)
        all_goals try (rw [hi1] at hx)
        all_goals first
          | (refine (fun hE : prE y = 3 => ?_) ?_
             · exact tup_eq (by rw [ck_err hcl hy (by rw [hE]; decide), hE])
             · (simp [prE, *]; done))
          | (refine (fun hE : prE y = 0 => ?_) ?_
             · exact tup_eq (ck_form hcl hy hE (by omega) hx (by simpa using h))
             · (simp [prE, *]; done))
          | (refine (fun hE : prE y = 0 => ?_) ?_
             · refine back_intro (by conv => whnf) rfl ⟨i + 1, rfl, rfl, by omega, ck_next hcl hy hE (by first | exact .inl (by omega) | exact .inr ⟨x, hx, by simpa using h⟩)⟩ ?_
               show l.length - ((i : Int) + 1).toNat < l.length - (i : Int).toNat
               omega
             · (simp [prE, *]; done))
      · conv => whnf
        repeat' first
          | ((first | refine auIk ?_ | refine auIi ?_ | refine auT ?_ | refine auF ?_ | with_reducible first | refine auKt ?_ | refine auKf ?_ | refine auNt ?_ | refine auNf ?_ | refine auEt ?_ | refine auEf ?_); conv => whnf)
          | ((with_reducible first | refine br_dec (fun h => ?_) (fun h => ?_) | refine br_ndec (fun h => ?_) (fun h => ?_) | refine br_ne (fun h => ?_) (fun h => ?_) | refine br_eq (fun h => ?_) (fun h => ?_)) <;> first | (exfalso; omega) | conv => whnf)
          | (refine br_intro (fun h => ?_) (fun h => ?_) <;> conv => whnf)
          | ((first | refine auNd ?_ | refine idx_nat (by omega) (fun x hx => ?_) | refine frz_auto ?_ | refine draw_plain ?_ | refine auIx (fun x hx => ?_)); conv => whnf)
        rw [ck_end hcl (by omega)]
  · cases h
end Go.Proofs.YtdbnohpolknbbaaGreat
namespace Go.Proofs.YtdbnohpolknbbaaGreat
open Av Bk

theorem own_u3 {id g n m : Nat} {c c' d d' : List pairT.El} (h : n = m) (hc : c = c') (hd : d = d') : [AV.lst pairT c, .lst pairT d, AV.own id g n] = [.lst pairT c', .lst pairT d', AV.own id g m] := by rw [h, hc, hd]
theorem tail_take {α : Type} {x : α} {l : List α} : List.take (((x :: l).length : Int).toNat - Int.toNat 1) (List.drop (Int.toNat 1) (x :: l)) = l := by simp
theorem heap_u2 {b : AObj} {T : TypeId} {t : Ty} {g : Nat} {l m : List t.El} (hl : l = m) : [b, .arr T t l false g] = [b, AObj.arr T t m false g] := by rw [hl]
set_option maxRecDepth 100000 in
theorem fnOk_r05Diff : FnOk Tryz.prog 12 Tryz.f12 := ⟨by rfl, by kernel_rfl, by
  show okCode _ _ = true ∧ drawsOk _ = true
  exact ⟨by kernel_rfl, by kernel_rfl⟩⟩
set_option maxRecDepth 100000 in
theorem fnOk_mDiff : FnOk Tryz.prog 31 Tryz.f31 := ⟨by rfl, by kernel_rfl, by
  show okCode _ _ = true ∧ drawsOk _ = true
  exact ⟨by kernel_rfl, by kernel_rfl⟩⟩
noncomputable def cxue : Cx := ⟨tb, [], [(35, spMC)]⟩
theorem specsue : SpecsOk Tryz.prog cxue.specs := .cons r05Check_ok .nil
noncomputable def cxue2 : Cx := ⟨tb, [], [(46, spMC), (60, spCmp)]⟩
theorem specsue2 : SpecsOk Tryz.prog cxue2.specs := .cons modelCheck_ok (.cons cmpStr_ok .nil)
set_option maxRecDepth 100000 in
set_option maxHeartbeats 4000000 in
theorem r05Diff_ok : SpecOk Tryz.prog 12 spDiff := by
  refine spec_body (C := cxue) mixed tbOk specsue (callN_ok (C := cxue) mixed tbOk specsue FnsOk.nil 0) fnOk_r05Diff ?_
  intro ys p r h hp
  unfold spDiff at h
  split at h
  · rename_i a b
    cases h
    obtain ⟨hp1, hp2⟩ := hp
    by_cases ha : (mcL a).2 = 0
    · by_cases hb : (mcL b).2 = 0
      · have hal := mcL_len ha
        have hbl := mcL_len hb
        rw [show dfR a b = (diffL a b, 0) by rw [dfR, if_neg (by simp [ha]), if_neg (by simp [hb])]]
        conv => whnf
        repeat' first
          | ((first | refine auIk ?_ | refine auIi ?_ | refine auT ?_ | refine auF ?_ | with_reducible first | refine auKt ?_ | refine auKf ?_ | refine auNt ?_ | refine auNf ?_ | refine auEt ?_ | refine auEf ?_); conv => whnf)
          | ((with_reducible first | refine br_dec (fun h => ?_) (fun h => ?_) | refine br_ndec (fun h => ?_) (fun h => ?_) | refine br_ne (fun h => ?_) (fun h => ?_) | refine br_eq (fun h => ?_) (fun h => ?_)) <;> first | (exfalso; omega) | conv => whnf)
          | (refine br_intro (fun h => ?_) (fun h => ?_) <;> conv => whnf)
          | ((first | refine auNd ?_ | refine idx_nat (by omega) (fun x hx => ?_) | refine frz_auto ?_ | refine draw_plain ?_ | refine auIx (fun x hx => ?_)); conv => whnf)
        refine loop_inv [] [0, 1, 8] (fun vs h => ∃ (a' b' : List pairT.El) (g : Nat) (out : List itemT.El), vs = [.lst pairT a', .lst pairT b', .own 1 g out.length] ∧ h = [.arr 64 itemT [] false 0, .arr 64 itemT out false g] ∧ out ++ diffL a' b' = diffL a b ∧ out.length ≤ 8000) (fun vs _ => match vs with | [.lst _ a', .lst _ b', _] => a'.length + b'.length | _ => 0) ?_
        conv => whnf
        refine ⟨⟨a, b, 0, [], rfl, rfl, rfl, by simp⟩, ?_⟩
        rintro vs h' - ⟨a', b', g, out, rfl, rfl, ho, hol⟩
        have hle := diffL_len a b
        have hlo : out.length + (diffL a' b').length ≤ a.length + b.length := by rw [← ho, List.length_append] at hle; exact hle
        rcases a' with _ | ⟨x, a'⟩
        · rcases b' with _ | ⟨y, b'⟩
          · conv => whnf
            repeat' first
              | ((first | refine auIk ?_ | refine auIi ?_ | refine auT ?_ | refine auF ?_ | with_reducible first | refine auKt ?_ | refine auKf ?_ | refine auNt ?_ | refine auNf ?_ | refine auEt ?_ | refine auEf ?_); conv => whnf)
              | ((with_reducible first | refine br_dec (fun h => ?_) (fun h => ?_) | refine br_ndec (fun h => ?_) (fun h => ?_) | refine br_ne (fun h => ?_) (fun h => ?_) | refine br_eq (fun h => ?_) (fun h => ?_)) <;> first | (exfalso; omega) | conv => whnf)
              | (refine br_intro (fun h => ?_) (fun h => ?_) <;> conv => whnf)
              | ((first | refine auNd ?_ | refine idx_nat (by omega) (fun x hx => ?_) | refine frz_auto ?_ | refine draw_plain ?_ | refine auIx (fun x hx => ?_)); conv => whnf)
            refine df_eq ?_
            rw [← ho]
            simp [cast_self, diffL]
          · have hy0 : (y :: b')[Int.toNat 0]? = some y := rfl
            have hly : (y :: b').length = b'.length + 1 := rfl
            rw [diffL_nil_cons, List.length_cons] at hlo
            conv => whnf
            repeat' first
              | ((first | refine auIk ?_ | refine auIi ?_ | refine auT ?_ | refine auF ?_ | with_reducible first | refine auKt ?_ | refine auKf ?_ | refine auNt ?_ | refine auNf ?_ | refine auEt ?_ | refine auEf ?_); conv => whnf)
              | ((with_reducible first | refine br_dec (fun h => ?_) (fun h => ?_) | refine br_ndec (fun h => ?_) (fun h => ?_) | refine br_ne (fun h => ?_) (fun h => ?_) | refine br_eq (fun h => ?_) (fun h => ?_)) <;> first | (exfalso; omega) | conv => whnf)
              | (refine br_intro (fun h => ?_) (fun h => ?_) <;> conv => whnf)
              | ((first | refine auNd ?_ | refine idx_nat (by omega) (fun x hx => ?_) | refine frz_auto ?_ | refine draw_plain ?_ | refine auIx (fun x hx => ?_)); conv => whnf)
            refine back_intro (by conv => whnf) rfl ⟨[], b', g + 1, out ++ [newI y], own_u3 ?_ (by first | rfl | exact tail_take) (by first | rfl | exact tail_take), heap_u2 ?_, ?_, ?_⟩ ?_
            · rw [List.length_append]; rfl
            · simp only [cast_self, List.take_length]; rfl
            · rw [List.append_assoc]; rw [diffL_nil_cons] at ho; exact ho
            · rw [List.length_append]; simp only [List.length_cons, List.length_nil]; omega
            · show ([] : List pairT.El).length + (List.take (((y :: b').length : Int).toNat - Int.toNat 1) (List.drop (Int.toNat 1) (y :: b'))).length < ([] : List pairT.El).length + (y :: b').length
              rw [tail_take]
              simp only [List.length_cons]; omega
        · have hx0 : (x :: a')[Int.toNat 0]? = some x := rfl
          have hlx : (x :: a').length = a'.length + 1 := rfl
          rcases b' with _ | ⟨y, b'⟩
          · rw [diffL_cons_nil, List.length_cons] at hlo
            conv => whnf
            repeat' first
              | ((first | refine auIk ?_ | refine auIi ?_ | refine auT ?_ | refine auF ?_ | with_reducible first | refine auKt ?_ | refine auKf ?_ | refine auNt ?_ | refine auNf ?_ | refine auEt ?_ | refine auEf ?_); conv => whnf)
              | ((with_reducible first | refine br_dec (fun h => ?_) (fun h => ?_) | refine br_ndec (fun h => ?_) (fun h => ?_) | refine br_ne (fun h => ?_) (fun h => ?_) | refine br_eq (fun h => ?_) (fun h => ?_)) <;> first | (exfalso; omega) | conv => whnf)
              | (refine br_intro (fun h => ?_) (fun h => ?_) <;> conv => whnf)
              | ((first | refine auNd ?_ | refine idx_nat (by omega) (fun x hx => ?_) | refine frz_auto ?_ | refine draw_plain ?_ | refine auIx (fun x hx => ?_)); conv => whnf)
            refine back_intro (by conv => whnf) rfl ⟨a', [], g + 1, out ++ [goneI x], own_u3 ?_ (by first | rfl | exact tail_take) (by first | rfl | exact tail_take), heap_u2 ?_, ?_, ?_⟩ ?_
            · rw [List.length_append]; rfl
            · simp only [cast_self, List.take_length]; rfl
            · rw [List.append_assoc]; rw [diffL_cons_nil] at ho; exact ho
            · rw [List.length_append]; simp only [List.length_cons, List.length_nil]; omega
            · show (List.take (((x :: a').length : Int).toNat - Int.toNat 1) (List.drop (Int.toNat 1) (x :: a'))).length + ([] : List pairT.El).length < (x :: a').length + ([] : List pairT.El).length
              rw [tail_take]
              simp only [List.length_cons]; omega
          · have hy0 : (y :: b')[Int.toNat 0]? = some y := rfl
            have hly : (y :: b').length = b'.length + 1 := rfl
            by_cases h1 : sLt x.1 y.1 = true
            · rw [diffL_lt a' b' h1, List.length_cons] at hlo
              conv => whnf
              repeat' first
                | ((first | refine auIk ?_ | refine auIi ?_ | refine auT ?_ | refine auF ?_ | with_reducible first | refine auKt ?_ | refine auKf ?_ | refine auNt ?_ | refine auNf ?_ | refine auEt ?_ | refine auEf ?_); conv => whnf)
                | ((with_reducible first | refine br_dec (fun h => ?_) (fun h => ?_) | refine br_ndec (fun h => ?_) (fun h => ?_) | refine br_ne (fun h => ?_) (fun h => ?_) | refine br_eq (fun h => ?_) (fun h => ?_)) <;> first | (exfalso; omega) | conv => whnf)
                | (refine br_intro (fun h => ?_) (fun h => ?_) <;> conv => whnf)
                | ((first | refine auNd ?_ | refine idx_nat (by omega) (fun x hx => ?_) | refine frz_auto ?_ | refine draw_plain ?_ | refine auIx (fun x hx => ?_)); conv => whnf)
              refine back_intro (by conv => whnf) rfl ⟨a', y :: b', g + 1, out ++ [goneI x], own_u3 ?_ (by first | rfl | exact tail_take) (by first | rfl | exact tail_take), heap_u2 ?_, ?_, ?_⟩ ?_
              · rw [List.length_append]; rfl
              · simp only [cast_self, List.take_length]; rfl
              · rw [List.append_assoc]; rw [diffL_lt a' b' h1] at ho; exact ho
              · rw [List.length_append]; simp only [List.length_cons, List.length_nil]; omega
              · show (List.take (((x :: a').length : Int).toNat - Int.toNat 1) (List.drop (Int.toNat 1) (x :: a'))).length + (y :: b').length < (x :: a').length + (y :: b').length
                rw [tail_take]
                simp only [List.length_cons]; omega
            · have h1 : sLt x.1 y.1 = false := by simpa using h1
              by_cases h2 : sLt y.1 x.1 = true
              · rw [diffL_gt a' b' h2, List.length_cons] at hlo
                conv => whnf
                repeat' first
                  | ((first | refine auIk ?_ | refine auIi ?_ | refine auT ?_ | refine auF ?_ | with_reducible first | refine auKt ?_ | refine auKf ?_ | refine auNt ?_ | refine auNf ?_ | refine auEt ?_ | refine auEf ?_); conv => whnf)
                  | ((with_reducible first | refine br_dec (fun h => ?_) (fun h => ?_) | refine br_ndec (fun h => ?_) (fun h => ?_) | refine br_ne (fun h => ?_) (fun h => ?_) | refine br_eq (fun h => ?_) (fun h => ?_)) <;> first | (exfalso; omega) | conv => whnf)
                  | (refine br_intro (fun h => ?_) (fun h => ?_) <;> conv => whnf)
                  | ((first | refine auNd ?_ | refine idx_nat (by omega) (fun x hx => ?_) | refine frz_auto ?_ | refine draw_plain ?_ | refine auIx (fun x hx => ?_)); conv => whnf)
                refine back_intro (by conv => whnf) rfl ⟨x :: a', b', g + 1, out ++ [newI y], own_u3 ?_ (by first | rfl | exact tail_take) (by first | rfl | exact tail_take), heap_u2 ?_, ?_, ?_⟩ ?_
                · rw [List.length_append]; rfl
                · simp only [cast_self, List.take_length]; rfl
                · rw [List.append_assoc]; rw [diffL_gt a' b' h2] at ho; exact ho
                · rw [List.length_append]; simp only [List.length_cons, List.length_nil]; omega
                · show (x :: a').length + (List.take (((y :: b').length : Int).toNat - Int.toNat 1) (List.drop (Int.toNat 1) (y :: b'))).length < (x :: a').length + (y :: b').length
                  rw [tail_take]
                  simp only [List.length_cons]; omega
              · have h2 : sLt y.1 x.1 = false := by simpa using h2
                by_cases h3 : sEq x.2.1 y.2.1 = true
                · have h4 : (!sEq x.2.1 y.2.1) = false := by rw [h3]; rfl
                  conv => whnf
                  repeat' first
                    | ((first | refine auIk ?_ | refine auIi ?_ | refine auT ?_ | refine auF ?_ | with_reducible first | refine auKt ?_ | refine auKf ?_ | refine auNt ?_ | refine auNf ?_ | refine auEt ?_ | refine auEf ?_); conv => whnf)
                    | ((with_reducible first | refine br_dec (fun h => ?_) (fun h => ?_) | refine br_ndec (fun h => ?_) (fun h => ?_) | refine br_ne (fun h => ?_) (fun h => ?_) | refine br_eq (fun h => ?_) (fun h => ?_)) <;> first | (exfalso; omega) | conv => whnf)
                    | (refine br_intro (fun h => ?_) (fun h => ?_) <;> conv => whnf)
                    | ((first | refine auNd ?_ | refine idx_nat (by omega) (fun x hx => ?_) | refine frz_auto ?_ | refine draw_plain ?_ | refine auIx (fun x hx => ?_)); conv => whnf)
                  refine back_intro (by conv => whnf) rfl ⟨a', b', g, out, own_u3 rfl tail_take tail_take, rfl, by rw [diffL_eq a' b' h1 h2 h3] at ho; exact ho, hol⟩ ?_
                  show (List.take (((x :: a').length : Int).toNat - Int.toNat 1) (List.drop (Int.toNat 1) (x :: a'))).length + (List.take (((y :: b').length : Int).toNat - Int.toNat 1) (List.drop (Int.toNat 1) (y :: b'))).length < (x :: a').length + (y :: b').length
                  rw [tail_take, tail_take]
                  simp only [List.length_cons]; omega
                · have h3 : sEq x.2.1 y.2.1 = false := by simpa using h3
                  have h4 : (!sEq x.2.1 y.2.1) = true := by rw [h3]; rfl
                  rw [diffL_ne a' b' h1 h2 h3, List.length_cons] at hlo
                  conv => whnf
                  repeat' first
                    | ((first | refine auIk ?_ | refine auIi ?_ | refine auT ?_ | refine auF ?_ | with_reducible first | refine auKt ?_ | refine auKf ?_ | refine auNt ?_ | refine auNf ?_ | refine auEt ?_ | refine auEf ?_); conv => whnf)
                    | ((with_reducible first | refine br_dec (fun h => ?_) (fun h => ?_) | refine br_ndec (fun h => ?_) (fun h => ?_) | refine br_ne (fun h => ?_) (fun h => ?_) | refine br_eq (fun h => ?_) (fun h => ?_)) <;> first | (exfalso; omega) | conv => whnf)
                    | (refine br_intro (fun h => ?_) (fun h => ?_) <;> conv => whnf)
                    | ((first | refine auNd ?_ | refine idx_nat (by omega) (fun x hx => ?_) | refine frz_auto ?_ | refine draw_plain ?_ | refine auIx (fun x hx => ?_)); conv => whnf)
                  refine back_intro (by conv => whnf) rfl ⟨a', b', g + 1, out ++ [otherI x y], own_u3 ?_ (by first | rfl | exact tail_take) (by first | rfl | exact tail_take), heap_u2 ?_, ?_, ?_⟩ ?_
                  · rw [List.length_append]; rfl
                  · simp only [cast_self, List.take_length]; rfl
                  · rw [List.append_assoc]; rw [diffL_ne a' b' h1 h2 h3] at ho; exact ho
                  · rw [List.length_append]; simp only [List.length_cons, List.length_nil]; omega
                  · show (List.take (((x :: a').length : Int).toNat - Int.toNat 1) (List.drop (Int.toNat 1) (x :: a'))).length + (List.take (((y :: b').length : Int).toNat - Int.toNat 1) (List.drop (Int.toNat 1) (y :: b'))).length < (x :: a').length + (y :: b').length
                    rw [tail_take, tail_take]
                    simp only [List.length_cons]; omega
      · rw [show dfR a b = ([], (mcL b).2) by rw [dfR, if_neg (by simp [ha]), if_pos hb]]
        conv => whnf
        repeat' first
          | ((first | refine auIk ?_ | refine auIi ?_ | refine auT ?_ | refine auF ?_ | with_reducible first | refine auKt ?_ | refine auKf ?_ | refine auNt ?_ | refine auNf ?_ | refine auEt ?_ | refine auEf ?_); conv => whnf)
          | ((with_reducible first | refine br_dec (fun h => ?_) (fun h => ?_) | refine br_ndec (fun h => ?_) (fun h => ?_) | refine br_ne (fun h => ?_) (fun h => ?_) | refine br_eq (fun h => ?_) (fun h => ?_)) <;> first | (exfalso; omega) | conv => whnf)
          | (refine br_intro (fun h => ?_) (fun h => ?_) <;> conv => whnf)
          | ((first | refine auNd ?_ | refine idx_nat (by omega) (fun x hx => ?_) | refine frz_auto ?_ | refine draw_plain ?_ | refine auIx (fun x hx => ?_)); conv => whnf)
        rfl
    · rw [show dfR a b = ([], (mcL a).2) by rw [dfR, if_pos ha]]
      conv => whnf
      repeat' first
        | ((first | refine auIk ?_ | refine auIi ?_ | refine auT ?_ | refine auF ?_ | with_reducible first | refine auKt ?_ | refine auKf ?_ | refine auNt ?_ | refine auNf ?_ | refine auEt ?_ | refine auEf ?_); conv => whnf)
        | ((with_reducible first | refine br_dec (fun h => ?_) (fun h => ?_) | refine br_ndec (fun h => ?_) (fun h => ?_) | refine br_ne (fun h => ?_) (fun h => ?_) | refine br_eq (fun h => ?_) (fun h => ?_)) <;> first | (exfalso; omega) | conv => whnf)
        | (refine br_intro (fun h => ?_) (fun h => ?_) <;> conv => whnf)
        | ((first | refine auNd ?_ | refine idx_nat (by omega) (fun x hx => ?_) | refine frz_auto ?_ | refine draw_plain ?_ | refine auIx (fun x hx => ?_)); conv => whnf)
      rfl
  · cases h
end Go.Proofs.YtdbnohpolknbbaaGreat
namespace Go.Proofs.YtdbnohpolknbbaaGreat
open Av Bk

def turnI (x : itemT.El) : itemT.El := mkI (if x.1 = 1 ∨ x.1 = 2 then 3 - x.1 else x.1) x.2.1 x.2.2.2.1 x.2.2.1
theorem map_take {l : List itemT.El} {i : Nat} {x : itemT.El} (hx : l[i]? = some x) : (l.take (i + 1)).map turnI = (l.take i).map turnI ++ [turnI x] := by
  rw [List.take_add_one, hx, List.map_append]; rfl
end Go.Proofs.YtdbnohpolknbbaaGreat
