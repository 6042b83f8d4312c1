/-
  An abstract reading of values and memory: functions that raise errors, catch them, and put calls off.
  Differences: errors that are raised and caught.
  Differences: the first fault of a list, by the code and by the reference.
  Differences: the first fault of a list, by the reference; the first fault of a map, by the code and by the reference.
  Differences of two maps, by the reference and by the code.
  Maps and items that are more than is looked at; items turned round.
  A map of Go that holds the newest entries: plain Lean.
  An abstract reading of values and memory: what a sort makes of an array of the code's own.
-/
import Derived.Test.YtdbnohpolknbbaaAw1
import Derived.Test.YtdbnohpolknbbaaE5
import Derived.Test.YtdbnohpolknbbaaE4
import Derived.Test.YtdbnohpolknbbaaLka
import Derived.Test.YtdbnohpolknbbaaAw0
import Derived.Test.YtdbnohpolknbbaaAvs
import Derived.Shelf.SlSortCmp.NoneTotal
namespace Av
open Go

section
variable {P : Program}
/-- Whether the function returns, or an error is on its way. -/
def RM (s : St) : Option AV → FrameMode → Prop
  | none, u => u = .returning
  | some p, u => ∃ v, u = .panicking [{ v := v, recovered := false }] ∧ R s p v
theorem RM.run {s : St} {m : Option AV} {u : FrameMode} (h : RM s m u) : u ≠ .run := by
  cases m with
  | none => simp only [RM] at h; subst h; simp
  | some p => obtain ⟨v, rfl, _⟩ := h; simp
theorem RM.step {s s' : St} (hst : Step s s') {m : Option AV} {u : FrameMode} (h : RM s m u) : RM s' m u := by
  cases m with
  | none => exact h
  | some p => obtain ⟨v, rfl, hr⟩ := h; exact ⟨v, rfl, R_mono hst _ _ hr⟩
theorem RM.settle {s : St} {m : Option AV} {u : FrameMode} (h : RM s m u) : Go.settle u = u := by
  cases m with
  | none => simp only [RM] at h; subst h; rfl
  | some p => obtain ⟨v, rfl, _⟩ := h; rfl
def CallDOk (P : Program) (cd : CallDA) : Prop :=
  ∀ g xs h m K, cd g xs h m K → Enters P g ∧ ∀ s, s.h = h → Ok s → ∀ cs u, RL s xs cs → RM s m u →
    CallsD P g cs.toArray u s.w fun e u' w' => ∃ s' v m', e = .returned v ∧ s'.w = w' ∧ Step s s' ∧ Ok s' ∧ RM s' m' (Go.settle u') ∧ K m' s'.h
theorem endE_ok {tb : Tb} (hT : TbOk P tb) {cd : CallDA} (hcd : CallDOk P cd) {fn : Func} {K : AV → Hp → Prop} {f : Tr} {a : Act} {s0 : St} : ∀ (D : List DA) (ds : List Deferred) (m : Option AV) (u : FrameMode) (s : St), Step s0 s → Ok s → FR s f.get a → RDs s D ds → RM s m u → endE tb cd fn K m f s.h D →
    Leaves P fn a.tmps (fun e w' => ∃ s' v cr, e = .returned cr ∧ s'.w = w' ∧ Step s0 s' ∧ Ok s' ∧ R s' v cr ∧ K v s'.h) ds u s.w
  | [], ds, m, u, s, hst, hok, hf, hRD, hm, h => by
    simp only [RDs] at hRD
    subst hRD
    cases m with
    | none =>
      simp only [RM] at hm
      subst hm
      have h : retA tb fn.results.toList f s.h K := h
      obtain ⟨v, cv, h1, h2, h3⟩ := results_ok (P := P) hT hok hf h
      exact ⟨cv, h1, s, v, cv, rfl, rfl, hst, hok, h2, h3⟩
    | some p => exact False.elim h
  | d :: D, ds, m, u, s, hst, hok, hf, hRD, hm, h => by
    obtain ⟨x, ds', rfl, ⟨cap, htar, hrl⟩, hRD'⟩ := hRD
    have h : cd d.1 d.2 s.h m fun m h => endE tb cd fn K m f h D := h
    obtain ⟨hen, hc⟩ := hcd _ _ _ _ _ h
    have hc := hc s rfl hok _ u hrl hm
    refine ⟨hm.run, _, _, d.1, (x.args.toList ++ cap).toArray, htar, ?_, ?_⟩
    · rw [htar]
      have : (x.args.toList ++ cap).toArray = x.args ++ cap.toArray := by simp
      rw [this]
      exact enter_run hen _ _
    · refine CallsD.mono hc ?_
      rintro e u' w' ⟨s', v, m', rfl, rfl, hst', hok', hm', hk⟩
      exact endE_ok hT hcd D ds' m' _ s' (hst.trans hst') hok' (hf.step hst') (hRD'.step hst') hm' hk
theorem bodyE_ok {C : Cx} (hm : P.follows .mixedOrders = true) (hT : TbOk P C.tb) (hD : SpecsOk P C.specs) {call : CallA} (hcall : CallOk P call) {ps : List (FuncId × PSpec)} (hp : PSpecsOk P ps) {cd : CallDA} (hcd : CallDOk P cd) {g : FuncId} {fn : Func} (hf : FnOk P g fn) {args : List AV} {s : St} {K : AV → Hp → Prop} (h : bodyE C call ps cd fn args s.h K) (hok : Ok s) {cs : List Value} (hr : RL s args cs) :
    Calls P g cs.toArray s.w fun e w' => ∃ s' v cr, e = .returned cr ∧ s'.w = w' ∧ Step s s' ∧ Ok s' ∧ R s' v cr ∧ K v s'.h := by
  unfold bodyE at h
  split at h
  · rename_i c hb hle
    have hcode := hf.code
    rw [hb] at hcode
    refine calls_of_wp_defers hf.get hb ?_
    have hlen : cs.length = args.length := RL_vals hr
    have hle := Nat.le_of_ble_eq_true hle
    have hget : ∀ i c, cs[i]? = some c → (cs.toArray ++ Array.replicate (fn.ntmps - cs.toArray.size) undef).getD (0 + i) undef = c := by
      intro i c hc
      have hlt := (List.getElem?_eq_some_iff.1 hc).1
      rw [Nat.zero_add, Array.getD_eq_getD_getElem?, Array.getElem?_append_left (by simpa using hlt)]
      simp [hc]
    obtain ⟨f', hf', hk⟩ := init_ok (a := { tmps := cs.toArray ++ Array.replicate (fn.ntmps - cs.toArray.size) undef, defers := [] }) args cs 0 _ _ hr (fun t => by rw [mk_get]; simp only [R]) hget h
    refine Code.wp_mono ?_ (codeE_ok hm hT hD hcall hp c hcode.1 hcode.2 _ _ _ _ f' s _ [] hok hf' (by simp; omega) rfl hk)
    intro e a' w' hq
    cases e with
    | normal =>
      obtain ⟨⟨s2, f2, D, rfl, h2, h3, h4, h5, h6⟩, _⟩ := hq
      exact endE_ok hT hcd D _ none _ s2 h2 h3 h4 h5 rfl h6
    | ret =>
      obtain ⟨⟨s2, f2, D, rfl, h2, h3, h4, h5, h6⟩, _⟩ := hq
      exact endE_ok hT hcd D _ none _ s2 h2 h3 h4 h5 rfl h6
    | panic ch =>
      obtain ⟨⟨s2, f2, D, p, v, rfl, rfl, h2, h3, h4, h5, h6, h7⟩, _⟩ := hq
      exact endE_ok hT hcd D _ (some p) _ s2 h2 h3 h4 h5 ⟨v, rfl, h6⟩ h7
    | exit i =>
      obtain ⟨⟨_, _, _, _, _, _, _, _, h5⟩, _⟩ := hq
      exact h5.elim
    | goto l => exact hq.elim
    | outgrown => exact hq.elim
  · exact h.elim
/-- A function that may raise, by its body: it neither looks at memory nor puts calls off. -/
noncomputable def bodyR (C : Cx) (call : CallA) (fn : Func) (args : List AV) (b : Bool) (r p : AV) : Prop :=
  match fn.body, Nat.ble args.length fn.ntmps with
  | some c, true => initK (Tr.mk (depthOf fn.ntmps)) 0 args fun f => codeE C call [] c (fun f h D => D = [] ∧ retA C.tb fn.results.toList f h (fun v _ => b = true ∧ v = r)) (fun _ _ _ _ => False) (fun f h D => D = [] ∧ retA C.tb fn.results.toList f h (fun v _ => b = true ∧ v = r)) (fun _ q _ D => D = [] ∧ b = false ∧ q = p) f [] []
  | _, _ => False
theorem PSpecsOk.nil : PSpecsOk P [] := fun g sp h => by cases h
theorem pspec_body {C : Cx} (hm : P.follows .mixedOrders = true) (hT : TbOk P C.tb) (hD : SpecsOk P C.specs) {call : CallA} (hcall : CallOk P call) {g : FuncId} {fn : Func} (hf : FnOk P g fn) {sp : PSpec}
    (h : ∀ ys b r p, sp ys = some (b, r, p) → flatVs ys = true ∧ flatV r = true ∧ flatV p = true ∧ bodyR C call fn ys b r p) : PSpecOk P g sp := by
  refine ⟨hf.enters, fun ys b r p hsp s hok cs hr => ?_⟩
  obtain ⟨hfy, hfr, hfp, hb0⟩ := h ys b r p hsp
  unfold bodyR at hb0
  split at hb0
  · rename_i c hb hle
    have hcode := hf.code
    rw [hb] at hcode
    have hlen : cs.length = ys.length := RL_vals hr
    have hle := Nat.le_of_ble_eq_true hle
    have hget : ∀ i c, cs[i]? = some c → (cs.toArray ++ Array.replicate (fn.ntmps - cs.toArray.size) undef).getD (0 + i) undef = c := by
      intro i c hc
      have hlt := (List.getElem?_eq_some_iff.1 hc).1
      rw [Nat.zero_add, Array.getD_eq_getD_getElem?, Array.getElem?_append_left (by simpa using hlt)]
      simp [hc]
    let s0 : St := s.callee (fun _ => False)
    have hok0 : Ok s0 := callee_ok hok (fun b hb => hb.elim)
    have hr0 : RL s0 ys cs := flat_RL ys cs hfy hr
    obtain ⟨f', hf', hk⟩ := init_ok (s := s0) (a := { tmps := cs.toArray ++ Array.replicate (fn.ntmps - cs.toArray.size) undef, defers := [] }) ys cs 0 _ _ hr0 (fun t => by rw [mk_get]; simp only [R]) hget hb0
    have grew : ∀ s' : St, Step s0 s' → Grew s.w s'.w := fun s' hst => ⟨hst.os, hst.tape, hst.output, hst.drawn, hst.size, fun b hb => (hst.keep b hb (fun ⟨i, o, h1, _⟩ => by simp [s0, St.callee] at h1)).2⟩
    refine calls_of_wp hf.get hb (Code.wp_mono ?_ (codeE_ok hm hT hD hcall PSpecsOk.nil c hcode.1 hcode.2 _ _ _ _ f' s0 _ [] hok0 hf' (by simp; omega) rfl hk))
    have fin : ∀ {a' : Act} {w' : World}, PostP s0 fn.ntmps (fun f h D => D = [] ∧ retA C.tb fn.results.toList f h (fun v _ => b = true ∧ v = r)) a' w' → a'.defers = [] ∧ ∃ v, (results fn a'.tmps).run P w' = .ok v w' ∧ ∃ s', s'.w = w' ∧ Step s s' ∧ Ok s' ∧ s'.h = s.h ∧ match (generalizing := false) b with
      | true => ∃ cr, Ending.returned v = .returned cr ∧ R s' r cr
      | false => ∃ v', Ending.returned v = .panicked [{ v := v', recovered := false }] ∧ R s' p v' := by
      rintro a' w' ⟨⟨s2, f2, D, rfl, h2, h3, h4, h5, ⟨rfl, h6⟩⟩, _⟩
      obtain ⟨v, cv, h7, h8, ⟨rfl, rfl⟩⟩ := results_ok (P := P) hT h3 h4 h6
      exact ⟨h5, cv, h7, s.world s2.w, rfl, St.world_step (grew s2 h2), St.world_ok hok (grew s2 h2), rfl, cv, rfl, flat_R _ _ hfr h8⟩
    intro e a' w' hq
    cases e with
    | normal => exact fin hq
    | ret => exact fin hq
    | exit i =>
      obtain ⟨⟨_, _, _, _, _, _, _, _, h5⟩, _⟩ := hq
      exact h5.elim
    | panic ch =>
      obtain ⟨⟨s2, f2, D, q, v, rfl, rfl, h2, h3, h4, h5, h6, ⟨rfl, rfl, rfl⟩⟩, _⟩ := hq
      exact ⟨h5, s.world s2.w, rfl, St.world_step (grew s2 h2), St.world_ok hok (grew s2 h2), rfl, v, rfl, flat_R _ _ hfp h6⟩
    | goto l => exact hq.elim
    | outgrown => exact hq.elim
  · exact hb0.elim
/-! ### Calls that were put off -/
/-- A function that is walked through, and catches nothing. -/
noncomputable def plainD (C : Cx) (call : CallA) (fn : Func) (xs : List AV) (h : Hp) (K : Hp → Prop) : Prop :=
  match fn.body, Nat.ble xs.length fn.ntmps with
  | some c, true => initK (Tr.mk (depthOf fn.ntmps)) 0 xs fun f => codeE C call [] c (fun f h D => match D with | [] => retA C.tb fn.results.toList f h (fun _ h => K h) | _ :: _ => False) (fun _ _ _ _ => False) (fun f h D => match D with | [] => retA C.tb fn.results.toList f h (fun _ h => K h) | _ :: _ => False) (fun _ _ _ _ => False) f h []
  | _, _ => False
theorem PSpecsOk.cons {g : FuncId} {sp : PSpec} {l : List (FuncId × PSpec)} (h : PSpecOk P g sp) (hl : PSpecsOk P l) : PSpecsOk P ((g, sp) :: l) := by
  intro g' sp' h'
  simp only [lkp] at h'
  cases hb : Nat.beq g g' with
  | true =>
    rw [hb] at h'
    have := Nat.eq_of_beq_eq_true hb
    cases h'
    exact this ▸ h
  | false =>
    rw [hb] at h'
    exact hl g' sp' h'
theorem plainD_ok {C : Cx} (hm : P.follows .mixedOrders = true) (hT : TbOk P C.tb) (hD : SpecsOk P C.specs) {call : CallA} (hcall : CallOk P call) {g : FuncId} {fn : Func} (hf : FnOk P g fn) {xs : List AV} {s : St} {K : Hp → Prop} (h : plainD C call fn xs s.h K) (hok : Ok s) {cs : List Value} (hr : RL s xs cs) {m : Option AV} {u : FrameMode} (hmu : RM s m u) :
    CallsD P g cs.toArray u s.w fun e u' w' => ∃ s' v m', e = .returned v ∧ s'.w = w' ∧ Step s s' ∧ Ok s' ∧ RM s' m' (Go.settle u') ∧ m' = m ∧ K s'.h := by
  unfold plainD at h
  split at h
  · rename_i c hb hle
    have hcode := hf.code
    rw [hb] at hcode
    refine CallsD.mono (callsD_of_wp (R := fun e w' => ∃ s' v, e = .returned v ∧ s'.w = w' ∧ Step s s' ∧ Ok s' ∧ K s'.h) hf.get hb ?_) (by
      rintro e u' w' ⟨rfl, s', v, rfl, rfl, h1, h2, h3⟩
      have h4 := hmu.step h1
      exact ⟨s', v, m, rfl, rfl, h1, h2, by rw [h4.settle]; exact h4, rfl, h3⟩)
    have hlen : cs.length = xs.length := RL_vals hr
    have hle := Nat.le_of_ble_eq_true hle
    have hget : ∀ i c, cs[i]? = some c → (cs.toArray ++ Array.replicate (fn.ntmps - cs.toArray.size) undef).getD (0 + i) undef = c := by
      intro i c hc
      have hlt := (List.getElem?_eq_some_iff.1 hc).1
      rw [Nat.zero_add, Array.getD_eq_getD_getElem?, Array.getElem?_append_left (by simpa using hlt)]
      simp [hc]
    obtain ⟨f', hf', hk⟩ := init_ok (a := { tmps := cs.toArray ++ Array.replicate (fn.ntmps - cs.toArray.size) undef, defers := [] }) xs cs 0 _ _ hr (fun t => by rw [mk_get]; simp only [R]) hget h
    refine Code.wp_mono ?_ (codeE_ok hm hT hD hcall PSpecsOk.nil c hcode.1 hcode.2 _ _ _ _ f' s _ [] hok hf' (by simp; omega) rfl hk)
    have fin : ∀ {a' : Act} {w' : World}, PostP s fn.ntmps (fun f h D => match D with | [] => retA C.tb fn.results.toList f h (fun _ h => K h) | _ :: _ => False) a' w' → a'.defers = [] ∧ ∃ v, (results fn a'.tmps).run P w' = .ok v w' ∧ ∃ s' v', Ending.returned v = .returned v' ∧ s'.w = w' ∧ Step s s' ∧ Ok s' ∧ K s'.h := by
      rintro a' w' ⟨⟨s2, f2, D, rfl, h2, h3, h4, h5, h6⟩, _⟩
      cases D with
      | nil =>
        obtain ⟨v, cv, h7, h8, h9⟩ := results_ok (P := P) hT h3 h4 h6
        exact ⟨h5, cv, h7, s2, cv, rfl, rfl, h2, h3, h9⟩
      | cons d D => exact h6.elim
    intro e a' w' hq
    cases e with
    | normal => exact fin hq
    | ret => exact fin hq
    | exit i =>
      obtain ⟨⟨_, _, _, _, _, _, _, _, h5⟩, _⟩ := hq
      exact h5.elim
    | panic ch =>
      obtain ⟨⟨_, _, _, _, _, _, _, _, _, _, _, _, h5⟩, _⟩ := hq
      exact h5.elim
    | goto l => exact hq.elim
    | outgrown => exact hq.elim
  · exact h.elim
/-- A function that begins with recover: its first operation, and what comes behind it. -/
def recO (c : Code) : Option (Nat × Code) := match c with
  | .seq (.region _ ops false) rest => match ops.toList with
    | [o] => match o.op, o.guard, o.dst with
      | .call cl, none, some d => match cl.callee, cl.args.toList, cl.argTypes.toList with
        | .builtin .recover, [], [] => some (d, rest)
        | _, _, _ => none
      | _, _, _ => none
    | _ => none
  | _ => none
noncomputable def recD (C : Cx) (call : CallA) (fn : Func) (xs : List AV) (p : AV) (h : Hp) (K : Hp → Prop) : Prop :=
  match fn.body, Nat.ble xs.length fn.ntmps with
  | some c, true => (match recO c with
    | some (d, rest) => initK (Tr.mk (depthOf fn.ntmps)) 0 xs fun f => f.setK d p fun f => codeE C call [] rest (fun f h D => match D with | [] => retA C.tb fn.results.toList f h (fun _ h => K h) | _ :: _ => False) (fun _ _ _ _ => False) (fun f h D => match D with | [] => retA C.tb fn.results.toList f h (fun _ h => K h) | _ :: _ => False) (fun _ _ _ _ => False) f h []
    | none => False)
  | _, _ => False
theorem recD_ok {C : Cx} (hm : P.follows .mixedOrders = true) (hT : TbOk P C.tb) (hD : SpecsOk P C.specs) {call : CallA} (hcall : CallOk P call) {g : FuncId} {fn : Func} (hf : FnOk P g fn) {xs : List AV} {s : St} {K : Hp → Prop} {p : AV} {m : Option AV} (h : recD C call fn xs p s.h K) (hok : Ok s) {cs : List Value} (hr : RL s xs cs) {u : FrameMode} (hmu : RM s m u) (hmp : m = some p ∨ m = none ∧ p = .nili) :
    CallsD P g cs.toArray u s.w fun e u' w' => ∃ s' v m', e = .returned v ∧ s'.w = w' ∧ Step s s' ∧ Ok s' ∧ RM s' m' (Go.settle u') ∧ m' = none ∧ K s'.h := by
  unfold recD at h
  split at h
  · rename_i c hb hle
    split at h
    · rename_i d rest hrec
      have hcode := hf.code
      rw [hb] at hcode
      unfold recO at hrec
      split at hrec
      · rename_i id ops rest'
        split at hrec
        · rename_i o hops
          split at hrec
          · rename_i cl d' hop hg hdst
            split at hrec
            · rename_i hcal hargs htys
              cases hrec
              have hopsA : ops = #[o] := by have := congrArg List.toArray hops; simpa using this
              have ha : cl.args = #[] := by have := congrArg List.toArray hargs; simpa using this
              have ht : cl.argTypes = #[] := by have := congrArg List.toArray htys; simpa using this
              subst hopsA
              have hlen : cs.length = xs.length := RL_vals hr
              have hle := Nat.le_of_ble_eq_true hle
              have hget : ∀ i c, cs[i]? = some c → (cs.toArray ++ Array.replicate (fn.ntmps - cs.toArray.size) undef).getD (0 + i) undef = c := by
                intro i c hc
                have hlt := (List.getElem?_eq_some_iff.1 hc).1
                rw [Nat.zero_add, Array.getD_eq_getD_getElem?, Array.getElem?_append_left (by simpa using hlt)]
                simp [hc]
              obtain ⟨f', hf', hk⟩ := init_ok (a := { tmps := cs.toArray ++ Array.replicate (fn.ntmps - cs.toArray.size) undef, defers := [] }) xs cs 0 _ _ hr (fun t => by rw [mk_get]; simp only [R]) hget h
              rw [Tr.setK_eq] at hk
              have hdN : d < fn.ntmps := by
                have h1 := hcode.1
                simp only [okCode, Bool.and_eq_true] at h1
                have h2 := List.all_eq_true.1 h1.1 o (by simp)
                unfold dstOk at h2
                rw [hdst] at h2
                simpa using h2
              have hcode2 : okCode fn.ntmps rest = true ∧ drawsOk rest = true := by
                have h1 := hcode.1
                have h2 := hcode.2
                simp only [okCode, drawsOk, Bool.and_eq_true] at h1 h2
                exact ⟨h1.2, h2.2⟩
              refine callsD_of_wpS (R := fun e u' w' => ∃ s' v m', e = .returned v ∧ s'.w = w' ∧ Step s s' ∧ Ok s' ∧ RM s' m' (Go.settle u') ∧ m' = none ∧ K s'.h) hf.get hb (fun c0 fs hc0 => ?_)
              refine wpS_seq (wpS_region ?_)
              have hw : Region.wanted o (yielded #[o] (cs.toArray ++ Array.replicate (fn.ntmps - cs.toArray.size) undef)) = true := by simp [Region.wanted, hg]
              have hrun : ∀ (ρ : Operand → Value), (execOp ρ o).run P s.w = .ok .recover s.w := by
                intro ρ
                unfold execOp
                simp only [hop, resolve, hcal, ha, ht, Sem.run_bind, Sem.run_pure, Result.andThen_ok, invoke, builtin]
              obtain ⟨pv, u', hpv, hu', hstep⟩ : ∃ pv u', R s p pv ∧ Go.settle u' = .returning ∧ ∀ (Q : Exit → Act → List Frame → World → Prop) (a0 : Act), Q .normal (a0.put o.dst pv) ({ c0 with mode := u' } :: fs) s.w → (match recoverD (c0 :: fs) with | some (v, cs') => Q .normal (a0.put o.dst v) cs' s.w | none => Q .normal (a0.put o.dst .nilIface) (c0 :: fs) s.w) := by
                rcases hmp with rfl | ⟨rfl, rfl⟩
                · obtain ⟨pv, rfl, hpv⟩ := hmu
                  refine ⟨pv, .panicking [{ v := pv, recovered := true }], hpv, rfl, fun Q a0 hq => ?_⟩
                  have hrd : recoverD (c0 :: fs) = some (pv, { c0 with mode := .panicking [{ v := pv, recovered := true }] } :: fs) := by
                    simp only [recoverD, hc0]
                  rw [hrd]
                  exact hq
                · simp only [RM] at hmu
                  subst hmu
                  refine ⟨.nilIface, .returning, by simp only [R], rfl, fun Q a0 hq => ?_⟩
                  have hrd : recoverD (c0 :: fs) = none := by simp only [recoverD, hc0]
                  rw [hrd]
                  have : ({ c0 with mode := .returning } : Frame) = c0 := by rw [← hc0]
                  rw [this] at hq
                  exact hq
              show wpOpsS P #[o] _ [0] _ _ _
              simp only [wpOpsS]
              simp only [List.getElem?_toArray, List.getElem?_cons_zero, hw, if_true, hrun]
              refine hstep _ _ ?_
              show Exit.thenS _ _ .normal _ _ _
              have hfr : FR s (f'.set d p).get ({ tmps := cs.toArray ++ Array.replicate (fn.ntmps - cs.toArray.size) undef, defers := [] : Act }.put o.dst pv) := by
                rw [hdst]
                exact hf'.put (Step.refl s) (by simp; omega) hpv
              refine wpS_of_wp (Code.wp_mono ?_ (codeE_ok hm hT hD hcall PSpecsOk.nil rest hcode2.1 hcode2.2 _ _ _ _ (f'.set d p) s _ [] hok hfr (by rw [put_size]; simp; omega) (by rw [put_defers]; rfl) hk))
              have fin : ∀ {a' : Act} {w' : World}, PostP s fn.ntmps (fun f h D => match D with | [] => retA C.tb fn.results.toList f h (fun _ h => K h) | _ :: _ => False) a' w' → bodyPostS P fn c0 fs (fun e u' w' => ∃ s' v m', e = .returned v ∧ s'.w = w' ∧ Step s s' ∧ Ok s' ∧ RM s' m' (Go.settle u') ∧ m' = none ∧ K s'.h) .normal a' ({ c0 with mode := u' } :: fs) w' := by
                rintro a' w' ⟨⟨s2, f2, D, rfl, h2, h3, h4, h5, h6⟩, _⟩
                cases D with
                | nil =>
                  obtain ⟨v, cv, h7, h8, h9⟩ := results_ok (P := P) hT h3 h4 h6
                  exact ⟨h5, _, rfl, cv, h7, s2, cv, none, rfl, rfl, h2, h3, hu', rfl, h9⟩
                | cons d D => exact h6.elim
              intro e a' w' hq
              cases e with
              | normal => exact fin hq
              | ret => exact fin hq
              | exit i =>
                obtain ⟨⟨_, _, _, _, _, _, _, _, h5⟩, _⟩ := hq
                exact h5.elim
              | panic ch =>
                obtain ⟨⟨_, _, _, _, _, _, _, _, _, _, _, _, h5⟩, _⟩ := hq
                exact h5.elim
              | goto l => exact hq.elim
              | outgrown => exact hq.elim
            · cases hrec
          · cases hrec
        · cases hrec
      · cases hrec
    · exact h.elim
  · exact h.elim
/-- Calls that were put off: functions that catch an error, others that are walked through. -/
noncomputable def callDf (C : Cx) (call : CallA) (rs : List FuncId) : CallDA := fun g xs h m K =>
  match lkf C.fns g with
  | none => False
  | some fn => match rs.any (fun r => Nat.beq r g), m with
    | true, none => recD C call fn xs .nili h fun h => K none h
    | true, some p => recD C call fn xs p h fun h => K none h
    | false, m => plainD C call fn xs h fun h => K m h
theorem callDf_ok {C : Cx} (hm : P.follows .mixedOrders = true) (hT : TbOk P C.tb) (hD : SpecsOk P C.specs) (hF : FnsOk P C.fns) {call : CallA} (hcall : CallOk P call) (rs : List FuncId) : CallDOk P (callDf C call rs) := by
  intro g xs h m K hk
  unfold callDf at hk
  split at hk
  · exact hk.elim
  · rename_i fn hl
    have hfn := hF g fn hl
    refine ⟨hfn.enters, fun s hs hok cs u hr hmu => ?_⟩
    subst hs
    split at hk
    · refine CallsD.mono (recD_ok hm hT hD hcall hfn hk hok hr hmu (.inr ⟨rfl, rfl⟩)) ?_
      rintro e u' w' ⟨s', v, m', h1, h2, h3, h4, h5, rfl, h7⟩
      exact ⟨s', v, _, h1, h2, h3, h4, h5, h7⟩
    · refine CallsD.mono (recD_ok hm hT hD hcall hfn hk hok hr hmu (.inl rfl)) ?_
      rintro e u' w' ⟨s', v, m', h1, h2, h3, h4, h5, rfl, h7⟩
      exact ⟨s', v, _, h1, h2, h3, h4, h5, h7⟩
    · refine CallsD.mono (plainD_ok hm hT hD hcall hfn hk hok hr hmu) ?_
      rintro e u' w' ⟨s', v, m', h1, h2, h3, h4, h5, rfl, h7⟩
      exact ⟨s', v, _, h1, h2, h3, h4, h5, h7⟩
/-- What a function returns, by its body; errors are raised in it, and caught. -/
theorem spec_bodyE {C : Cx} (hm : P.follows .mixedOrders = true) (hT : TbOk P C.tb) (hD : SpecsOk P C.specs) {call : CallA} (hcall : CallOk P call) {ps : List (FuncId × PSpec)} (hp : PSpecsOk P ps) {cd : CallDA} (hcd : CallDOk P cd) {g : FuncId} {fn : Func} (hf : FnOk P g fn) {sp : DSpec}
    (h : ∀ ys p r, sp ys = some (p, r) → p → bodyE C call ps cd fn ys [] (fun v h => (viewR h v fun y => .ok y none).sat fun y _ => y = r)) : SpecOk P g sp := by
  refine ⟨hf.enters, fun ys p r hsp hpp s hok hh cs hr => ?_⟩
  have hb := h ys p r hsp hpp
  rw [← hh] at hb
  refine Calls.mono (bodyE_ok hm hT hD hcall hp hcd hf hb hok hr) ?_
  rintro e w' ⟨s', v, cr, rfl, rfl, hst, hok', hv, hK⟩
  obtain ⟨y, ob, his, rfl⟩ := Res.sat_is hK
  have hFo : ∀ b, s'.F b → Own s' b := fun b hb => .inl hb
  obtain ⟨z, hz, hR⟩ := viewR_ok hok' (SubH.refl _) (F := s'.F) hFo v cr _ y ob hv (fun _ b hb => hok'.dis b hb) his
  obtain ⟨rfl, _⟩ := hz
  have hcut : s'.cut 0 = s'.callee s'.F := by
    unfold St.cut St.callee
    rw [List.take_zero]
  refine ⟨s'.cut 0, cr, rfl, rfl, cut_step hst (by rw [hh]; exact Nat.le_refl _), cut_ok hok' (fun id T cs hlt => by omega), by rw [hcut]; rfl, by rw [hcut]; exact hR⟩
end
end Av
namespace Go.Proofs.Ytdbnohpolknbbaa
open Av Bk

/-- What is raised: an error at an item. -/
abbrev wrongA (i e : Int) : AV := .iface 102 (.agg [.int .i64 i, .int .i64 e])
def spMust : PSpec
  | [.int .i64 i, .int .i64 e] => some (decide (e = 0), .tup [], wrongA i e)
  | _ => none
set_option maxRecDepth 100000 in
theorem fnOk_must : FnOk Try.prog 30 Try.f30 := ⟨by rfl, by kernel_rfl, by
  show okCode _ _ = true ∧ drawsOk _ = true
  exact ⟨by kernel_rfl, by kernel_rfl⟩⟩
theorem must_ok : PSpecOk Try.prog 30 spMust := by
  refine pspec_body (C := cx0) mixed tbOk SpecsOk.nil (callN_ok (C := cx0) mixed tbOk SpecsOk.nil FnsOk.nil 0) fnOk_must ?_
  intro ys b r p hsp
  unfold spMust at hsp
  split at hsp
  · rename_i i e
    cases hsp
    refine ⟨rfl, rfl, rfl, ?_⟩
    conv => whnf
    repeat' first
      | ((first | refine auT ?_ | refine auF ?_ | with_reducible first | refine auKt ?_ | refine auKf ?_ | refine auNt ?_ | refine auNf ?_ | refine auEt ?_ | refine auEf ?_); conv => whnf)
      | ((with_reducible first | refine br_dec (fun h => ?_) (fun h => ?_) | refine br_ndec (fun h => ?_) (fun h => ?_) | refine br_ne (fun h => ?_) (fun h => ?_) | refine br_eq (fun h => ?_) (fun h => ?_)) <;> first | (exfalso; omega) | conv => whnf)
      | (refine br_intro (fun h => ?_) (fun h => ?_) <;> conv => whnf)
      | ((first | refine auNd ?_ | refine idx_nat (by omega) (fun x hx => ?_) | refine frz_auto ?_ | refine draw_plain ?_ | refine auIx (fun x hx => ?_)); conv => whnf)
    · exact ⟨rfl, by simpa using h, rfl⟩
    · refine ⟨rfl, ?_⟩
      conv => whnf
      exact ⟨by simpa using h, rfl⟩
  · cases hsp
set_option maxRecDepth 100000 in
theorem fnOk_caught : FnOk Try.prog 28 Try.f28 := ⟨by rfl, by kernel_rfl, by
  show okCode _ _ = true ∧ drawsOk _ = true
  exact ⟨by kernel_rfl, by kernel_rfl⟩⟩
end Go.Proofs.Ytdbnohpolknbbaa
namespace Go.Proofs.Ytdbnohpolknbbaa
open Av Bk

def spIC : DSpec
  | [.lst (.st [.int .i64, .str, .str, .str]) l] => some (l.length ≤ 4611686018427387904, .tup [.int .i64 (icL l).1, .int .i64 (icL l).2])
  | _ => none
set_option maxRecDepth 100000 in
theorem fnOk_diffCheck : FnOk Try.prog 26 Try.f26 := ⟨by rfl, by kernel_rfl, by
  show okCode _ _ = true ∧ drawsOk _ = true
  exact ⟨by kernel_rfl, by kernel_rfl⟩⟩
noncomputable def cxub : Cx := ⟨tb, [(28, Try.f28)], []⟩
theorem fnsub : FnsOk Try.prog cxub.fns := .cons fnOk_caught .nil
theorem callub (n : Nat) : CallOk Try.prog (callN cxub n) := callN_ok (C := cxub) mixed tbOk SpecsOk.nil fnsub n
def psub : List (FuncId × PSpec) := [(30, spMust)]
theorem psub_ok : PSpecsOk Try.prog psub := .cons must_ok .nil
noncomputable def cdub : CallDA := callDf cxub (callN cxub 2) [28]
theorem cdub_ok : CallDOk Try.prog cdub := callDf_ok (C := cxub) mixed tbOk SpecsOk.nil fnsub (callub 2) _
set_option maxRecDepth 100000 in
set_option maxHeartbeats 4000000 in
theorem diffCheck_ok : SpecOk Try.prog 26 spIC := by
  refine spec_bodyE (C := cxub) mixed tbOk SpecsOk.nil (callub 3) psub_ok cdub_ok fnOk_diffCheck ?_
  intro ys p r h hp
  unfold spIC at h
  split at h
  · rename_i l
    cases h
    conv => whnf
    repeat' first
      | ((first | refine auIk ?_ | refine auIi ?_ | refine auT ?_ | refine auF ?_ | with_reducible first | refine auKt ?_ | refine auKf ?_ | refine auNt ?_ | refine auNf ?_ | refine auEt ?_ | refine auEf ?_); conv => whnf)
      | ((with_reducible first | refine br_dec (fun h => ?_) (fun h => ?_) | refine br_ndec (fun h => ?_) (fun h => ?_) | refine br_ne (fun h => ?_) (fun h => ?_) | refine br_eq (fun h => ?_) (fun h => ?_)) <;> first | (exfalso; omega) | conv => whnf)
      | (refine br_intro (fun h => ?_) (fun h => ?_) <;> conv => whnf)
      | ((first | refine auNd ?_ | refine idx_nat (by omega) (fun x hx => ?_) | refine frz_auto ?_ | refine draw_plain ?_ | refine auIx (fun x hx => ?_)); conv => whnf)
    · rw [icL, if_pos h]
    · have hcl : icL l = ckGo itE itK (pvK itK l 0) ((0 : Nat) : Int) (l.drop 0) := by rw [icL, if_neg h]; rfl
      refine loop_inv [] [12] (fun vs h => ∃ i : Nat, vs = [.int .i64 (i : Int)] ∧ h = [.cells 3 [.int .i64 0], .cells 29 [.int .i64 0]] ∧ i ≤ l.length ∧ icL l = ckGo itE itK (pvK itK l i) (i : Int) (l.drop i)) (fun vs _ => match vs with | [.int _ k] => l.length - k.toNat | _ => 0) ?_
      conv => whnf
      refine ⟨⟨0, rfl, rfl, Nat.zero_le _, hcl⟩, ?_⟩
      clear hcl
      rintro vs h' - ⟨i, rfl, rfl, hi, hcl⟩
      by_cases hil : i < l.length
      · obtain ⟨y, hy⟩ : ∃ y, l[i]? = some y := ⟨_, List.getElem?_eq_getElem hil⟩
        have hi1 : ((i : Int) - 1).toNat = i - 1 := by omega
        conv => whnf
        repeat' first
          | ((first | refine auIk ?_ | refine auIi ?_ | refine auT ?_ | refine auF ?_ | with_reducible first | refine auKt ?_ | refine auKf ?_ | refine auNt ?_ | refine auNf ?_ | refine auEt ?_ | refine auEf ?_); conv => whnf)
          | ((with_reducible first | refine br_dec (fun h => ?_) (fun h => ?_) | refine br_ndec (fun h => ?_) (fun h => ?_) | refine br_ne (fun h => ?_) (fun h => ?_) | refine br_eq (fun h => ?_) (fun h => ?_)) <;> first | (exfalso; omega) | conv => whnf)
          | (refine br_intro (fun h => ?_) (fun h => ?_) <;> conv => whnf)
          | ((first | refine auNd ?_ | refine idx_nat (by omega) (fun x hx => ?_) | refine frz_auto ?_ | refine draw_plain ?_ | refine auIx (fun x hx => ?_)); conv => whnf)
        all_goals try (rw [hi1] at hx)
        all_goals first
          | (refine (fun hE : itE y = 6 => ?_) ?_
             · exact tup_eq (by rw [ck_err hcl hy (by rw [hE]; decide), hE])
             · first | (simp [itE, *]; done) | (simp only [Bool.not_eq_true'] at h; simp [itE, *]; done))
          | (refine (fun hE : itE y = 3 => ?_) ?_
             · exact tup_eq (by rw [ck_err hcl hy (by rw [hE]; decide), hE])
             · (simp [itE, *]; done))
          | (refine (fun hE : itE y = 0 => ?_) ?_
             · exact tup_eq (ck_form hcl hy hE (by omega) hx (by simpa using h))
             · (simp_all [itE]; done))
          | (refine (fun hE : itE y = 0 => ?_) ?_
             · refine ⟨rfl, back_intro (by conv => whnf) rfl ⟨i + 1, rfl, rfl, by omega, ck_next hcl hy hE (by first | exact .inl (by omega) | exact .inr ⟨x, hx, by simpa using h⟩)⟩ ?_⟩
               show l.length - ((i : Int) + 1).toNat < l.length - (i : Int).toNat
               omega
             · (simp_all [itE]; done))
      · conv => whnf
        repeat' first
          | ((first | refine auIk ?_ | refine auIi ?_ | refine auT ?_ | refine auF ?_ | with_reducible first | refine auKt ?_ | refine auKf ?_ | refine auNt ?_ | refine auNf ?_ | refine auEt ?_ | refine auEf ?_); conv => whnf)
          | ((with_reducible first | refine br_dec (fun h => ?_) (fun h => ?_) | refine br_ndec (fun h => ?_) (fun h => ?_) | refine br_ne (fun h => ?_) (fun h => ?_) | refine br_eq (fun h => ?_) (fun h => ?_)) <;> first | (exfalso; omega) | conv => whnf)
          | (refine br_intro (fun h => ?_) (fun h => ?_) <;> conv => whnf)
          | ((first | refine auNd ?_ | refine idx_nat (by omega) (fun x hx => ?_) | refine frz_auto ?_ | refine draw_plain ?_ | refine auIx (fun x hx => ?_)); conv => whnf)
        rw [ck_end hcl (by omega)]
  · cases h
end Go.Proofs.Ytdbnohpolknbbaa
namespace Go.Proofs.Ytdbnohpolknbbaa
open Av Bk

def spMC : DSpec
  | [.lst (.st [.str, .str]) l] => some (l.length ≤ 4611686018427387904, .tup [.int .i64 (mcL l).1, .int .i64 (mcL l).2])
  | _ => none
set_option maxRecDepth 100000 in
theorem fnOk_modelCheck : FnOk Try.prog 35 Try.f35 := ⟨by rfl, by kernel_rfl, by
  show okCode _ _ = true ∧ drawsOk _ = true
  exact ⟨by kernel_rfl, by kernel_rfl⟩⟩
set_option maxRecDepth 100000 in
set_option maxHeartbeats 4000000 in
theorem modelCheck_ok : SpecOk Try.prog 35 spMC := by
  refine spec_body (C := cx0) mixed tbOk SpecsOk.nil (callN_ok (C := cx0) mixed tbOk SpecsOk.nil FnsOk.nil 0) fnOk_modelCheck ?_
  intro ys p r h hp
  unfold spMC at h
  split at h
  · rename_i l
    cases h
    conv => whnf
    repeat' first
      | ((first | refine auIk ?_ | refine auIi ?_ | refine auT ?_ | refine auF ?_ | with_reducible first | refine auKt ?_ | refine auKf ?_ | refine auNt ?_ | refine auNf ?_ | refine auEt ?_ | refine auEf ?_); conv => whnf)
      | ((with_reducible first | refine br_dec (fun h => ?_) (fun h => ?_) | refine br_ndec (fun h => ?_) (fun h => ?_) | refine br_ne (fun h => ?_) (fun h => ?_) | refine br_eq (fun h => ?_) (fun h => ?_)) <;> first | (exfalso; omega) | conv => whnf)
      | (refine br_intro (fun h => ?_) (fun h => ?_) <;> conv => whnf)
      | ((first | refine auNd ?_ | refine idx_nat (by omega) (fun x hx => ?_) | refine frz_auto ?_ | refine draw_plain ?_ | refine auIx (fun x hx => ?_)); conv => whnf)
    · rw [mcL, if_pos h]
    · have hcl : mcL l = ckGo prE prK (pvK prK l 0) ((0 : Nat) : Int) (l.drop 0) := by rw [mcL, if_neg h]; rfl
      refine loop_inv [] [11] (fun vs h => ∃ i : Nat, vs = [.int .i64 (i : Int)] ∧ h = [] ∧ i ≤ l.length ∧ mcL l = ckGo prE prK (pvK prK l i) (i : Int) (l.drop i)) (fun vs _ => match vs with | [.int _ k] => l.length - k.toNat | _ => 0) ?_
      conv => whnf
      refine ⟨⟨0, rfl, rfl, Nat.zero_le _, hcl⟩, ?_⟩
      clear hcl
      rintro vs h' - ⟨i, rfl, rfl, hi, hcl⟩
      by_cases hil : i < l.length
      · obtain ⟨y, hy⟩ : ∃ y, l[i]? = some y := ⟨_, List.getElem?_eq_getElem hil⟩
        have hi1 : ((i : Int) - 1).toNat = i - 1 := by omega
        conv => whnf
        repeat' first
          | ((first | refine auIk ?_ | refine auIi ?_ | refine auT ?_ | refine auF ?_ | with_reducible first | refine auKt ?_ | refine auKf ?_ | refine auNt ?_ | refine auNf ?_ | refine auEt ?_ | refine auEf ?_); conv => whnf)
          | ((with_reducible first | refine br_dec (fun h => ?_) (fun h => ?_) | refine br_ndec (fun h => ?_) (fun h => ?_) | refine br_ne (fun h => ?_) (fun h => ?_) | refine br_eq (fun h => ?_) (fun h => ?_)) <;> first | (exfalso; omega) | conv => whnf)
          | (refine br_intro (fun h => ?_) (fun h => ?_) <;> conv => whnf)
          | ((first | refine auNd ?_ | refine idx_nat (by omega) (fun x hx => ?_) | refine frz_auto ?_ | refine draw_plain ?_ | refine auIx (fun x hx => ?_)); conv => whnf)
        all_goals try (rw [hi1] at hx)
        all_goals first
          | (refine (fun hE : prE y = 3 => ?_) ?_
             · exact tup_eq (by rw [ck_err hcl hy (by rw [hE]; decide), hE])
             · (simp [prE, *]; done))
          | (refine (fun hE : prE y = 0 => ?_) ?_
             · exact tup_eq (ck_form hcl hy hE (by omega) hx (by simpa using h))
             · (simp [prE, *]; done))
          | (refine (fun hE : prE y = 0 => ?_) ?_
             · refine back_intro (by conv => whnf) rfl ⟨i + 1, rfl, rfl, by omega, ck_next hcl hy hE (by first | exact .inl (by omega) | exact .inr ⟨x, hx, by simpa using h⟩)⟩ ?_
               show l.length - ((i : Int) + 1).toNat < l.length - (i : Int).toNat
               omega
             · (simp [prE, *]; done))
      · conv => whnf
        repeat' first
          | ((first | refine auIk ?_ | refine auIi ?_ | refine auT ?_ | refine auF ?_ | with_reducible first | refine auKt ?_ | refine auKf ?_ | refine auNt ?_ | refine auNf ?_ | refine auEt ?_ | refine auEf ?_); conv => whnf)
          | ((with_reducible first | refine br_dec (fun h => ?_) (fun h => ?_) | refine br_ndec (fun h => ?_) (fun h => ?_) | refine br_ne (fun h => ?_) (fun h => ?_) | refine br_eq (fun h => ?_) (fun h => ?_)) <;> first | (exfalso; omega) | conv => whnf)
          | (refine br_intro (fun h => ?_) (fun h => ?_) <;> conv => whnf)
          | ((first | refine auNd ?_ | refine idx_nat (by omega) (fun x hx => ?_) | refine frz_auto ?_ | refine draw_plain ?_ | refine auIx (fun x hx => ?_)); conv => whnf)
        rw [ck_end hcl (by omega)]
  · cases h
end Go.Proofs.Ytdbnohpolknbbaa
namespace Go.Proofs.Ytdbnohpolknbbaa
open Av Bk

theorem own_u3 {id g n m : Nat} {c c' d d' : List pairT.El} (h : n = m) (hc : c = c') (hd : d = d') : [AV.lst pairT c, .lst pairT d, AV.own id g n] = [.lst pairT c', .lst pairT d', AV.own id g m] := by rw [h, hc, hd]
theorem tail_take {α : Type} {x : α} {l : List α} : List.take (((x :: l).length : Int).toNat - Int.toNat 1) (List.drop (Int.toNat 1) (x :: l)) = l := by simp
set_option maxRecDepth 100000 in
theorem fnOk_mDiff : FnOk Try.prog 21 Try.f21 := ⟨by rfl, by kernel_rfl, by
  show okCode _ _ = true ∧ drawsOk _ = true
  exact ⟨by kernel_rfl, by kernel_rfl⟩⟩
noncomputable def cxue2 : Cx := ⟨tb, [], [(35, spMC), (43, spCmp)]⟩
theorem specsue2 : SpecsOk Try.prog cxue2.specs := .cons modelCheck_ok (.cons cmpStr_ok .nil)
end Go.Proofs.Ytdbnohpolknbbaa
namespace Go.Proofs.Ytdbnohpolknbbaa
open Av Bk

def turnI (x : itemT.El) : itemT.El := mkI (if x.1 = 1 ∨ x.1 = 2 then 3 - x.1 else x.1) x.2.1 x.2.2.2.1 x.2.2.1
theorem map_take {l : List itemT.El} {i : Nat} {x : itemT.El} (hx : l[i]? = some x) : (l.take (i + 1)).map turnI = (l.take i).map turnI ++ [turnI x] := by
  rw [List.take_add_one, hx, List.map_append]; rfl
end Go.Proofs.Ytdbnohpolknbbaa
namespace Go.Proofs.Ytdbnohpolknbbaa
open Av Bk

abbrev mEl : Type := ByteArray × entT.El
/-- What a map has behind some entries. -/
structure MapOk (m : List mEl) (l : List entT.El) : Prop where
  find : ∀ k, findK (kt := .str) (vt := entT) m k = firstK l k
  nd : (m.map (·.1)).Nodup
  key : ∀ e ∈ m, e.1 = e.2.1
  ln : m.length ≤ l.length
theorem has_find {m : List mEl} {k : ByteArray} : hasK (kt := .str) (vt := entT) m k = (findK (kt := .str) (vt := entT) m k).isSome := by
  unfold hasK findK
  rw [Option.isSome_map, Bool.eq_iff_iff, List.any_eq_true, List.find?_isSome]
theorem findK_snoc (m : List mEl) (e : mEl) (k : ByteArray) : findK (kt := .str) (vt := entT) (m ++ [e]) k = (findK (kt := .str) (vt := entT) m k).or (if e.1 = k then some e.2 else none) := by
  unfold findK
  rw [List.find?_append]
  have h1 : ∀ x : mEl, eqT .str x.1 k = sEq x.1 k := fun x => rfl
  by_cases h : e.1 = k
  · rw [if_pos h]
    have : ([e].find? fun e => eqT .str e.1 k) = some e := by rw [List.find?_cons_of_pos]; rw [h1, sEq_iff]; exact h
    rw [this]
    cases (m.find? fun e => eqT .str e.1 k) <;> rfl
  · rw [if_neg h]
    have : ([e].find? fun e => eqT .str e.1 k) = none := by rw [List.find?_cons_of_neg]; rfl; rw [h1, sEq_iff]; exact h
    rw [this]
    cases (m.find? fun e => eqT .str e.1 k) <;> rfl
theorem mapOk_nil : MapOk [] [] := ⟨fun _ => rfl, List.nodup_nil, by simp, Nat.le_refl _⟩
theorem mapOk_old {m : List mEl} {l : List entT.El} {x y : entT.El} (h : MapOk m l) (hf : findK (kt := .str) (vt := entT) m x.1 = some y) : MapOk m (l ++ [x]) where
  nd := h.nd
  key := h.key
  ln := by have := h.ln; rw [List.length_append]; omega
  find := fun k => by
    rw [firstK_append, firstK_one, h.find k]
    by_cases hk : x.1 = k
    · rw [← hk, ← h.find, hf]; rfl
    · rw [if_neg hk]; cases firstK l k <;> rfl
theorem mapOk_new {m : List mEl} {l : List entT.El} {x : entT.El} (h : MapOk m l) (hf : findK (kt := .str) (vt := entT) m x.1 = none) : MapOk (putL (kt := .str) (vt := entT) m x.1 x) (l ++ [x]) ∧ (putL (kt := .str) (vt := entT) m x.1 x).length = m.length + 1 := by
  have hp : putL (kt := .str) (vt := entT) m x.1 x = m ++ [(x.1, x)] := by
    unfold putL
    rw [has_find, hf]
    rfl
  rw [hp]
  refine ⟨⟨fun k => ?_, ?_, ?_, by have := h.ln; simp; omega⟩, by simp⟩
  · rw [findK_snoc, firstK_append, firstK_one, h.find k]
  · rw [List.map_append, List.nodup_append]
    refine ⟨h.nd, by simp, ?_⟩
    intro a ha b hb e
    simp only [List.map_cons, List.map_nil, List.mem_singleton] at hb
    subst hb
    subst e
    obtain ⟨e, he, hk⟩ := List.mem_map.1 ha
    unfold findK at hf
    rw [Option.map_eq_none_iff, List.find?_eq_none] at hf
    exact hf e he (show sEq e.1 x.1 = true by rw [sEq_iff]; exact hk)
  · intro e he
    rcases List.mem_append.1 he with he | he
    · exact h.key e he
    · simp only [List.mem_singleton] at he
      subst he
      rfl
/-- What was taken out of a map, at some places of it. -/
structure OutOk (m : List mEl) (seen : List Nat) (out : List pairT.El) : Prop where
  mem : ∀ p, p ∈ out ↔ ∃ i ∈ seen, ∃ e, m[i]? = some e ∧ e.2.2.2.1 = false ∧ p = mkP e.1 e.2.2.1
  nd : (out.map (·.1)).Nodup
  sd : seen.Nodup
  lt : ∀ i ∈ seen, i < m.length
  ln : out.length ≤ seen.length
theorem outOk_nil (m : List mEl) : OutOk m [] [] := ⟨by simp, List.nodup_nil, List.nodup_nil, by simp, Nat.le_refl _⟩
theorem outOk_dead {m : List mEl} {seen : List Nat} {out : List pairT.El} {i : Nat} {e : mEl} (h : OutOk m seen out) (hi : m[i]? = some e) (hn : i ∉ seen) (hd : e.2.2.2.1 = true) : OutOk m (i :: seen) out where
  nd := h.nd
  sd := List.nodup_cons.2 ⟨hn, h.sd⟩
  lt := fun j hj => by
    rcases List.mem_cons.1 hj with rfl | hj
    · exact (List.getElem?_eq_some_iff.1 hi).1
    · exact h.lt j hj
  ln := by have := h.ln; simp only [List.length_cons]; omega
  mem := fun p => by
    rw [h.mem p]
    constructor
    · rintro ⟨j, hj, r⟩
      exact ⟨j, List.mem_cons_of_mem _ hj, r⟩
    · rintro ⟨j, hj, e', he, hl, r⟩
      rcases List.mem_cons.1 hj with rfl | hj
      · rw [hi] at he
        cases he
        rw [hd] at hl
        cases hl
      · exact ⟨j, hj, e', he, hl, r⟩
theorem nodup_at {m : List mEl} (h : (m.map (·.1)).Nodup) {i j : Nat} {a b : mEl} (hi : m[i]? = some a) (hj : m[j]? = some b) (e : a.1 = b.1) : i = j := by
  have h1 : (m.map (·.1))[i]? = some a.1 := by rw [List.getElem?_map, hi]; rfl
  have h2 : (m.map (·.1))[j]? = some a.1 := by rw [List.getElem?_map, hj, e]; rfl
  have hl := (List.getElem?_eq_some_iff.1 h1).1
  exact (List.getElem?_inj hl h).1 (h1.trans h2.symm)
theorem outOk_live {m : List mEl} {l : List entT.El} (hm : MapOk m l) {seen : List Nat} {out : List pairT.El} {i : Nat} {e : mEl} (h : OutOk m seen out) (hi : m[i]? = some e) (hn : i ∉ seen) (hd : e.2.2.2.1 = false) : OutOk m (i :: seen) (out ++ [mkP e.1 e.2.2.1]) where
  nd := by
    rw [List.map_append, List.nodup_append]
    refine ⟨h.nd, by simp, ?_⟩
    intro a ha b hb hab
    simp only [List.map_cons, List.map_nil, List.mem_singleton] at hb
    subst hb
    subst hab
    obtain ⟨p, hp, hk⟩ := List.mem_map.1 ha
    obtain ⟨j, hj, e', he, _, rfl⟩ := (h.mem p).1 hp
    have := nodup_at hm.nd hi he hk.symm
    subst this
    exact hn hj
  sd := List.nodup_cons.2 ⟨hn, h.sd⟩
  lt := fun j hj => by
    rcases List.mem_cons.1 hj with rfl | hj
    · exact (List.getElem?_eq_some_iff.1 hi).1
    · exact h.lt j hj
  ln := by have := h.ln; simp only [List.length_cons, List.length_append, List.length_nil]; omega
  mem := fun p => by
    rw [List.mem_append, h.mem p, List.mem_singleton]
    constructor
    · rintro (⟨j, hj, r⟩ | rfl)
      · exact ⟨j, List.mem_cons_of_mem _ hj, r⟩
      · exact ⟨i, by simp, e, hi, hd, rfl⟩
    · rintro ⟨j, hj, e', he, hl, r⟩
      rcases List.mem_cons.1 hj with rfl | hj
      · rw [hi] at he
        cases he
        exact .inr r
      · exact .inl ⟨j, hj, e', he, hl, r⟩
theorem seen_len : ∀ {n : Nat} {seen : List Nat}, seen.Nodup → (∀ i ∈ seen, i < n) → seen.length ≤ n
  | 0, [], _, _ => Nat.le_refl _
  | 0, i :: _, _, h => absurd (h i (by simp)) (by omega)
  | n + 1, seen, hs, h => by
    have := seen_len (n := n) (hs.erase n) (fun i hi => by
      have h1 := (List.Nodup.mem_erase_iff hs).1 hi
      have h2 := h i h1.2
      omega)
    by_cases hn : n ∈ seen
    · rw [List.length_erase_of_mem hn] at this
      omega
    · rw [List.erase_of_not_mem hn] at this
      omega
theorem sorted_map {m : List mEl} {l : List entT.El} (hm : MapOk m l) {seen : List Nat} {out out' : List pairT.El} (h : OutOk m seen out) (ha : ∀ i, i < m.length → i ∈ seen) (hp : out'.Perm out) (hs : out'.Pairwise (fun x y => ¬ ordS y.1 x.1 < 0)) : out' = mapL l := by
  have hnd : (out'.map (·.1)).Nodup := (hp.map (·.1)).nodup_iff.2 h.nd
  refine mapL_eq ?_ (fun p => ?_)
  · have hn : out'.Pairwise (fun x y => x.1 ≠ y.1) := List.pairwise_map.1 hnd
    refine (hs.and hn).imp (fun {x y} hxy => ?_)
    have h1 : sLt y.1 x.1 = false := by
      cases hc : sLt y.1 x.1 with
      | false => rfl
      | true => exact absurd (ordS_lt.2 hc) hxy.1
    exact sLt_of h1 (fun e => hxy.2 e.symm)
  · rw [hp.mem_iff, h.mem p]
    unfold getM
    constructor
    · rintro ⟨i, _, e, he, hd, rfl⟩
      have hf : findK (kt := .str) (vt := entT) m e.1 = some e.2 := by
        unfold findK
        rw [find_at (fun x : mEl => x.1) (fun x : mEl => eqT .str x.1 e.1) m i e he hm.nd (fun x => sEq_iff)]
        rfl
      rw [hm.find] at hf
      show valE (firstK l e.1) = some e.2.2.1
      rw [hf]
      simp [valE, hd]
    · intro hv
      rw [← hm.find] at hv
      unfold findK at hv
      cases hf : (m.find? fun e => eqT .str e.1 p.1) with
      | none => rw [hf] at hv; cases hv
      | some e =>
        rw [hf] at hv
        have hv : (if e.2.2.2.1 = true then none else some e.2.2.1) = some p.2.1 := hv
        have hk : e.1 = p.1 := sEq_iff.1 (List.find?_some (p := fun e : mEl => eqT .str e.1 p.1) hf)
        obtain ⟨i, hi⟩ := List.mem_iff_getElem?.1 (List.mem_of_find?_eq_some hf)
        refine ⟨i, ha i (List.getElem?_eq_some_iff.1 hi).1, e, hi, ?_, ?_⟩
        · cases hd : e.2.2.2.1 with
          | false => rfl
          | true => rw [hd] at hv; cases hv
        · split at hv
          · cases hv
          · obtain ⟨k, v, u⟩ := p
            cases hv
            simp only at hk
            subst hk
            rfl
end Go.Proofs.Ytdbnohpolknbbaa
namespace Av
open Go Go.Sort Go.Proofs

/-! ### Data without memory, as values -/
mutual
def valsT : (t : Ty) → t.El → List Value
  | .bool, b => [.bool b]
  | .int k, n => [.int k n]
  | .str, s => [.string s]
  | .sl _, _ => []
  | .ifc _ _, _ => []
  | .st fs, x => valsTs fs x
def valsTs : (ts : List Ty) → Ty.Els ts → List Value
  | [], _ => []
  | t :: ts, x => valsT t x.1 ++ valsTs ts x.2
end
mutual
theorem valsT_len : ∀ (t : Ty) (x : t.El), flatT t = true → (valsT t x).length = t.size
  | .bool, _, _ => rfl
  | .int _, _, _ => rfl
  | .str, _, _ => rfl
  | .sl _, _, h => by simp [flatT] at h
  | .st fs, x, h => by simp only [flatT] at h; simp only [valsT, Ty.size]; exact valsTs_len fs x h
theorem valsTs_len : ∀ (ts : List Ty) (x : Ty.Els ts), flatTs ts = true → (valsTs ts x).length = Ty.sizes ts
  | [], _, _ => rfl
  | t :: ts, x, h => by
    simp only [flatTs, Bool.and_eq_true] at h
    simp only [valsTs, Ty.sizes, List.length_append, valsT_len t x.1 h.1, valsTs_len ts x.2 h.2]
end
mutual
theorem valsT_RT {s : St} : ∀ (t : Ty) (x : t.El) (c : Nat → Option Value), flatT t = true → (RT s t x c ↔ ∀ j v, (valsT t x)[j]? = some v → c j = some v)
  | .bool, b, c, _ => by
    simp only [RT, valsT]
    exact ⟨fun h j v hv => by cases j with
      | zero => cases hv; exact h
      | succ j => simp at hv, fun h => h 0 _ rfl⟩
  | .int k, n, c, _ => by
    simp only [RT, valsT]
    exact ⟨fun h j v hv => by cases j with
      | zero => cases hv; exact h
      | succ j => simp at hv, fun h => h 0 _ rfl⟩
  | .str, x, c, _ => by
    simp only [RT, valsT]
    exact ⟨fun h j v hv => by cases j with
      | zero => cases hv; exact h
      | succ j => simp at hv, fun h => h 0 _ rfl⟩
  | .sl _, _, _, h => by simp [flatT] at h
  | .st fs, x, c, h => by simp only [flatT] at h; simp only [RT, valsT]; exact valsTs_RT fs x c h
theorem valsTs_RT {s : St} : ∀ (ts : List Ty) (x : Ty.Els ts) (c : Nat → Option Value), flatTs ts = true → (RTs s ts x c ↔ ∀ j v, (valsTs ts x)[j]? = some v → c j = some v)
  | [], _, c, _ => by simp [RTs, valsTs]
  | t :: ts, x, c, h => by
    simp only [flatTs, Bool.and_eq_true] at h
    simp only [RTs, valsTs]
    have hl := valsT_len t x.1 h.1
    rw [valsT_RT t x.1 c h.1, valsTs_RT ts x.2 _ h.2]
    constructor
    · rintro ⟨h1, h2⟩ j v hv
      rw [List.getElem?_append] at hv
      split at hv
      · exact h1 j v hv
      · have := h2 _ v hv
        rw [show t.size + (j - (valsT t x.1).length) = j by omega] at this
        exact this
    · intro h1
      refine ⟨fun j v hv => h1 j v ?_, fun j v hv => h1 _ v ?_⟩
      · rw [List.getElem?_append_left (List.getElem?_eq_some_iff.1 hv).1]
        exact hv
      · rw [List.getElem?_append_right (by omega), hl, Nat.add_sub_cancel_left]
        exact hv
end
mutual
theorem valsT_one : ∀ (t : Ty) (x : t.El), ∀ v ∈ valsT t x, v.oneCell' = true
  | .bool, _, v, h => by simp only [valsT, List.mem_singleton] at h; subst h; rfl
  | .int _, _, v, h => by simp only [valsT, List.mem_singleton] at h; subst h; rfl
  | .str, _, v, h => by simp only [valsT, List.mem_singleton] at h; subst h; rfl
  | .sl _, _, v, h => by simp [valsT] at h
  | .ifc _ _, _, v, h => by simp [valsT] at h
  | .st fs, x, v, h => by simp only [valsT] at h; exact valsTs_one fs x v h
theorem valsTs_one : ∀ (ts : List Ty) (x : Ty.Els ts), ∀ v ∈ valsTs ts x, v.oneCell' = true
  | [], _, v, h => by simp [valsTs] at h
  | t :: ts, x, v, h => by
    simp only [valsTs, List.mem_append] at h
    rcases h with h | h
    · exact valsT_one t x.1 v h
    · exact valsTs_one ts x.2 v h
end
mutual
theorem valsT_R {s : St} : ∀ (t : Ty) (x : t.El), flatT t = true → RL s (flat t x) (valsT t x)
  | .bool, b, _ => by simp only [flat, valsT, RL, R]; exact ⟨_, _, rfl, rfl, rfl⟩
  | .int k, n, _ => by simp only [flat, valsT, RL, R]; exact ⟨_, _, rfl, rfl, rfl⟩
  | .str, x, _ => by simp only [flat, valsT, RL, R]; exact ⟨_, _, rfl, rfl, rfl⟩
  | .sl _, _, h => by simp [flatT] at h
  | .st fs, x, h => by simp only [flatT] at h; simp only [flat, valsT]; exact valsTs_R fs x h
theorem valsTs_R {s : St} : ∀ (ts : List Ty) (x : Ty.Els ts), flatTs ts = true → RL s (flats ts x) (valsTs ts x)
  | [], _, _ => by simp only [flats, valsTs, RL]
  | t :: ts, x, h => by
    simp only [flatTs, Bool.and_eq_true] at h
    simp only [flats, valsTs]
    exact RL_append (valsT_R t x.1 h.1) (valsTs_R ts x.2 h.2)
end
/-- An element, as it is handed to a function. -/
def elA (t : Ty) (x : t.El) : AV := match t with
  | .st fs => .agg (flats fs x)
  | .bool => .bool x
  | .int k => .int k x
  | .str => .str x
  | .sl e => .lst e x
  | .ifc _ _ => .any
def elV (t : Ty) (x : t.El) : Value := match t with
  | .st fs => .agg (valsTs fs x).toArray
  | .bool => .bool x
  | .int k => .int k x
  | .str => .string x
  | .sl _ => undef
  | .ifc _ _ => undef
theorem elA_R {s : St} (t : Ty) (x : t.El) (h : flatT t = true) : R s (elA t x) (elV t x) := by
  cases t with
  | st fs =>
    simp only [flatT] at h
    simp only [elA, elV, R]
    exact ⟨_, rfl, valsTs_R fs x h, valsTs_one fs x⟩
  | bool => simp only [elA, elV, R]
  | int k => simp only [elA, elV, R]
  | str => simp only [elA, elV, R]
  | sl e => simp [flatT] at h
  | ifc _ _ => simp [flatT] at h
def rowsV (t : Ty) (l : List t.El) : List Value := l.flatMap (valsT t)
theorem rowsV_len {t : Ty} (h : flatT t = true) : ∀ l : List t.El, (rowsV t l).length = l.length * t.size
  | [] => by simp [rowsV]
  | x :: l => by
    have := rowsV_len h l
    simp only [rowsV] at this
    simp only [rowsV, List.flatMap_cons, List.length_append, valsT_len t x h, this, List.length_cons, Nat.add_mul, Nat.one_mul]
    omega
theorem rowsV_get {t : Ty} (h : flatT t = true) : ∀ (l : List t.El) (i : Nat) (x : t.El) (j : Nat), l[i]? = some x → j < t.size → (rowsV t l)[i * t.size + j]? = (valsT t x)[j]?
  | y :: l, 0, x, j, hx, hj => by
    cases hx
    have hl := valsT_len t y h
    simp only [rowsV, List.flatMap_cons, Nat.zero_mul, Nat.zero_add]
    rw [List.getElem?_append_left (by omega)]
  | y :: l, i + 1, x, j, hx, hj => by
    have hl := valsT_len t y h
    have := rowsV_get h l i x j (by simpa using hx) hj
    simp only [rowsV, List.flatMap_cons]
    rw [List.getElem?_append_right (by rw [hl, Nat.add_mul]; omega), hl, Nat.add_mul, Nat.one_mul, show i * t.size + t.size + j - t.size = i * t.size + j by omega]
    exact this
theorem rowsV_of {s : St} {t : Ty} (h : flatT t = true) (hp : 0 < t.size) {l : List t.El} {xs : List Value} (hlen : xs.length = l.length * t.size) (hr : ∀ i x, l[i]? = some x → RT s t x (fun j => xs[i * t.size + j]?)) : xs = rowsV t l := by
  apply List.ext_getElem?
  intro q
  by_cases hq : q < l.length * t.size
  · have hi : q / t.size < l.length := (Nat.div_lt_iff_lt_mul hp).2 hq
    have hj := Nat.mod_lt q hp
    have hqe : q / t.size * t.size + q % t.size = q := by rw [Nat.mul_comm]; exact Nat.div_add_mod q t.size
    have hx : l[q / t.size]? = some l[q / t.size] := List.getElem?_eq_getElem hi
    have h1 := rowsV_get h l _ _ (q % t.size) hx hj
    rw [hqe] at h1
    have hl2 : q % t.size < (valsT t l[q / t.size]).length := by rw [valsT_len t _ h]; exact hj
    have hv : (valsT t l[q / t.size])[q % t.size]? = some (valsT t l[q / t.size])[q % t.size] := List.getElem?_eq_getElem hl2
    have h2 := (valsT_RT (s := s) t _ _ h).1 (hr _ _ hx) _ _ hv
    rw [hqe] at h2
    rw [h2, h1, hv]
  · rw [List.getElem?_eq_none (by omega), List.getElem?_eq_none (by rw [rowsV_len h]; omega)]
end Av
