/-
  An abstract reading of values and memory: code that may raise errors, and puts calls off.
  An abstract reading of values and memory: functions that raise errors, catch them, and put calls off.
  The table of types of the program, and its functions.
  What the reference says of entries: one entry's error, a list's.
  The order of strings in plain Lean.
  The order of strings as a number, split behind a common beginning: plain Lean.
  Lists of entries: whether two are the same; the first fault of one: plain Lean.
-/
import Derived.Test.YtbbklijmnknmhaaAw0
import Derived.Recover
import Derived.Test.YtbbklijmnknmhaaProg
import Derived.Test.YtbbklijmnknmhaaAv6
import Derived.Laws.StructEq
namespace Av
open Go

abbrev DA := FuncId × List AV
abbrev KD := Tr → Hp → List DA → Prop
abbrev KP := Tr → AV → Hp → List DA → Prop
abbrev PSpec := List AV → Option (Bool × AV × AV)
def lkp : List (FuncId × PSpec) → FuncId → Option PSpec
 | [], _ => none
 | p :: l, f => bif Nat.beq p.1 f then some p.2 else lkp l f
def raiseO (C : Cx) (ps : List (FuncId × PSpec)) (ρ : Operand → AV) (o : Oper) : Option (Bool × AV × AV) := match o.op with
 | .call c => match c.callee with
  | .builtin _ => none
  | cl => match calleeA C.tb ρ cl with
   | some (g, first, caps) => match lkp ps g with
    | some sp => sp (first ++ (c.args.toList.map ρ ++ caps))
    | none => none
   | none => none
 | _ => none
def deferO (ρ : Operand → AV) (o : Oper) : Option DA := match o.op, o.dst with
 | .defer c, none => match c.callee with
  | .value x => match ρ x with
   | .fn (.func g) first caps => some (g, first ++ (c.args.toList.map ρ ++ caps))
   | _ => none
  | _ => none
 | _, _ => none
def isDefer (o : Oper) : Bool := match o.op with | .defer _ => true | _ => false
def nilEqO (tb : Tb) (ρ : Operand → AV) (o : Oper) : Bool := match o.op with
 | .binOp .eql t x (.const .nilIface) _ => (match ρ x, kindOf tb t with
  | .nili, some .ifc => true
  | _, _ => false)
 | _ => false
def panicO (ρ : Operand → AV) (o : Oper) : Option AV := match o.op with
 | .panic x => (match ρ x with
  | .iface T p => some (.iface T p)
  | _ => none)
 | _ => none
noncomputable def stepE (C : Cx) (call : CallA) (ps : List (FuncId × PSpec)) (o : Oper) (f : Tr) (h : Hp) (D : List DA) (K : KD) (Pn : KP) : Prop :=
 match isDefer o with
 | true => (match deferO (ev f.get) o with | some d => K f h (d :: D) | none => False)
 | false => match panicO (ev f.get) o with
  | some p => Pn f p h D
  | none => match nilEqO C.tb (ev f.get) o with
   | true => (match o.dst with | some d => f.setK d (.bool true) fun f => K f h D | none => K f h D)
   | false => match raiseO C ps (ev f.get) o with
    | some (b, r, p) => br b (match o.dst with | some d => force r fun v => f.setK d v fun f => K f h D | none => K f h D) (Pn f p h D)
    | none => stepA C call o f h fun f h => K f h D
noncomputable def opsE (C : Cx) (call : CallA) (ps : List (FuncId × PSpec)) (ops : Array Oper) (Pn : KP) (l : List Oper) : Tr → Hp → List DA → KD → Prop :=
 @List.rec Oper (fun _ => Tr → Hp → List DA → KD → Prop) (fun f h D K => K f h D)
  (fun o _ ih f h D K =>
   match o.guard with
   | none => stepE C call ps o f h D (fun f h D => ih f h D K) Pn
   | some (j, want) => match (ops[j]?).bind (·.dst) with
    | none => False
    | some t =>
     let skip : Tr → Prop := fun f => match o.dst with
      | some d => f.setK d .und fun f => ih f h D K
      | none => ih f h D K
     match f.get t with
     | .bool b => match want with
      | true => br b (f.setK t (.bool true) fun f => stepE C call ps o f h D (fun f h D => ih f h D K) Pn) (f.setK t (.bool false) skip)
      | false => br b (f.setK t (.bool true) skip) (f.setK t (.bool false) fun f => stepE C call ps o f h D (fun f h D => ih f h D K) Pn)
     | .und => skip f
     | _ => False) l
theorem opsE_cons (C : Cx) (call : CallA) (ps : List (FuncId × PSpec)) (ops : Array Oper) (Pn : KP) (o : Oper) (rest : List Oper) (f : Tr) (h : Hp) (D : List DA) (K : KD) : opsE C call ps ops Pn (o :: rest) f h D K =
  match o.guard with
   | none => stepE C call ps o f h D (fun f h D => opsE C call ps ops Pn rest f h D K) Pn
   | some (j, want) => match (ops[j]?).bind (·.dst) with
    | none => False
    | some t =>
     let skip : Tr → Prop := fun f => match o.dst with
      | some d => f.setK d .und fun f => opsE C call ps ops Pn rest f h D K
      | none => opsE C call ps ops Pn rest f h D K
     match f.get t with
     | .bool b => match want with
      | true => br b (f.setK t (.bool true) fun f => stepE C call ps o f h D (fun f h D => opsE C call ps ops Pn rest f h D K) Pn) (f.setK t (.bool false) skip)
      | false => br b (f.setK t (.bool true) skip) (f.setK t (.bool false) fun f => stepE C call ps o f h D (fun f h D => opsE C call ps ops Pn rest f h D K) Pn)
     | .und => skip f
     | _ => False := rfl
noncomputable def barE (C : Cx) (call : CallA) (ps : List (FuncId × PSpec)) (ops : Array Oper) (D : List DA) (Pn : KP) (o : Oper) (f : Tr) (h : Hp) (K : Tr → Hp → Prop) : Prop :=
 match o.guard, raiseO C ps (ev f.get) o with
 | none, some (b, r, p) => br b (match o.dst with | some d => force r fun v => f.setK d v fun f => K f h | none => K f h) (Pn f p h D)
 | _, _ => opsA C call ops [o] f h K
noncomputable def codeE (C : Cx) (call : CallA) (ps : List (FuncId × PSpec)) (c : Code) : KD → (Nat → KD) → KD → KP → Tr → Hp → List DA → Prop :=
 @Code.rec (fun _ => KD → (Nat → KD) → KD → KP → Tr → Hp → List DA → Prop)
  (fun K _ _ _ f h D => K f h D)
  (fun _ ops d K _ _ Pn f h D => match d with
   | false => opsE C call ps ops Pn ops.toList f h D K
   | true => match hoistO C ops with
    | some (e, ops') => drawB C (fun o f h K => barE C call ps ops' D (fun f p h D => f.setK e .any fun f => Pn f p h D) o f h K) ops' f h fun f h => K f h D
    | none => drawB C (fun o f h K => barE C call ps ops D Pn o f h K) ops f h fun f h => K f h D)
  (fun _ _ iha ihb K X Rt Pn f h D => iha (fun f h D => ihb K X Rt Pn f h D) X Rt Pn f h D)
  (fun c _ _ iha ihb K X Rt Pn f h D => match ev f.get c with
   | .bool t => br t (iha K X Rt Pn f h D) (ihb K X Rt Pn f h D)
   | _ => False)
  (fun id _ ih K X Rt Pn f h D => ih K (fun i => match Nat.beq i id with | true => K | false => X i) Rt Pn f h D)
  (fun c ih _ X Rt Pn f h D => loopP (asg c) (fun K f h => ih (fun f h D' => D' = D ∧ K f h) X Rt Pn f h D) f h)
  (fun _ _ _ _ _ _ _ _ _ _ _ _ _ => False)
  (fun id _ X _ _ f h D => X id f h D)
  (fun _ ih K X Rt Pn f h D => ih K X Rt Pn f h D)
  (fun _ K _ _ _ f h D => K f h D)
  (fun _ _ _ _ _ _ _ _ => False)
  (fun _ _ Rt _ f h D => Rt f h D)
  (fun _ _ _ _ _ _ _ _ => False) c
theorem codeE_cond (C : Cx) (call : CallA) (ps : List (FuncId × PSpec)) (c : Operand) (a b : Code) (K : KD) (X : Nat → KD) (Rt : KD) (Pn : KP) (f : Tr) (h : Hp) (D : List DA) : codeE C call ps (.cond c a b) K X Rt Pn f h D = match ev f.get c with
  | .bool t => br t (codeE C call ps a K X Rt Pn f h D) (codeE C call ps b K X Rt Pn f h D)
  | _ => False := rfl
theorem codeE_block (C : Cx) (call : CallA) (ps : List (FuncId × PSpec)) (id : Nat) (c : Code) (K : KD) (X : Nat → KD) (Rt : KD) (Pn : KP) (f : Tr) (h : Hp) (D : List DA) : codeE C call ps (.block id c) K X Rt Pn f h D = codeE C call ps c K (fun i => match Nat.beq i id with | true => K | false => X i) Rt Pn f h D := rfl
theorem codeE_loop (C : Cx) (call : CallA) (ps : List (FuncId × PSpec)) (c : Code) (K : KD) (X : Nat → KD) (Rt : KD) (Pn : KP) (f : Tr) (h : Hp) (D : List DA) : codeE C call ps (.loop c) K X Rt Pn f h D = loopP (asg c) (fun K f h => codeE C call ps c (fun f h D' => D' = D ∧ K f h) X Rt Pn f h D) f h := rfl
theorem codeE_reg (C : Cx) (call : CallA) (ps : List (FuncId × PSpec)) (id : Nat) (ops : Array Oper) (K : KD) (X : Nat → KD) (Rt : KD) (Pn : KP) (f : Tr) (h : Hp) (D : List DA) : codeE C call ps (.region id ops false) K X Rt Pn f h D = opsE C call ps ops Pn ops.toList f h D K := rfl
theorem codeE_scope (C : Cx) (call : CallA) (ps : List (FuncId × PSpec)) (c : Code) (K : KD) (X : Nat → KD) (Rt : KD) (Pn : KP) (f : Tr) (h : Hp) (D : List DA) : codeE C call ps (.scope c) K X Rt Pn f h D = codeE C call ps c K X Rt Pn f h D := rfl
abbrev CallDA := FuncId → List AV → Hp → Option AV → (Option AV → Hp → Prop) → Prop
noncomputable def runD (cd : CallDA) (D : List DA) : Option AV → Hp → (Option AV → Hp → Prop) → Prop :=
 @List.rec DA (fun _ => Option AV → Hp → (Option AV → Hp → Prop) → Prop) (fun m h K => K m h) (fun d _ ih m h K => cd d.1 d.2 h m fun m h => ih m h K) D
noncomputable def endE (tb : Tb) (cd : CallDA) (fn : Func) (K : AV → Hp → Prop) (m : Option AV) (f : Tr) (h : Hp) (D : List DA) : Prop :=
 runD cd D m h fun m h => match m with | none => retA tb fn.results.toList f h K | some _ => False
noncomputable def bodyE (C : Cx) (call : CallA) (ps : List (FuncId × PSpec)) (cd : CallDA) (fn : Func) (args : List AV) (h : Hp) (K : AV → Hp → Prop) : Prop :=
 match fn.body, Nat.ble args.length fn.ntmps with
 | some c, true => initK (Tr.mk (depthOf fn.ntmps)) 0 args fun f => codeE C call ps c (fun f h D => endE C.tb cd fn K none f h D) (fun _ _ _ _ => False) (fun f h D => endE C.tb cd fn K none f h D) (fun f p h D => endE C.tb cd fn K (some p) f h D) f h []
 | _, _ => False

/-! ### It does what is reckoned -/
def RD (s : St) (d : DA) (x : Deferred) : Prop := ∃ cap : List Value, x.target = .fn (.func d.1) cap.toArray ∧ RL s d.2 (x.args.toList ++ cap)
def RDs (s : St) : List DA → List Deferred → Prop
 | [], xs => xs = []
 | d :: D, xs => ∃ x xs', xs = x :: xs' ∧ RD s d x ∧ RDs s D xs'
theorem RDs.step {s s' : St} (h : Step s s') : ∀ {D : List DA} {xs : List Deferred}, RDs s D xs → RDs s' D xs
 | [], xs, hr => hr
 | d :: D, xs, hr => by
  obtain ⟨x, xs', rfl, ⟨cap, h1, h2⟩, h3⟩ := hr
  exact ⟨x, xs', rfl, ⟨cap, h1, RL_mono h _ _ h2⟩, RDs.step h h3⟩
theorem RDs.cut {s : St} {L : Nat} : ∀ {D : List DA} {xs : List Deferred}, (∀ d ∈ D, ∀ id ∈ idsVs d.2, id < L) → RDs s D xs → RDs (s.cut L) D xs
 | [], xs, _, hr => hr
 | d :: D, xs, hl, hr => by
  obtain ⟨x, xs', rfl, ⟨cap, h1, h2⟩, h3⟩ := hr
  exact ⟨x, xs', rfl, ⟨cap, h1, RL_cut _ _ h2 (hl d List.mem_cons_self)⟩, RDs.cut (fun d hd => hl d (List.mem_cons_of_mem _ hd)) h3⟩
theorem RDs.lt {s : St} : ∀ {D : List DA} {xs : List Deferred}, RDs s D xs → ∀ d ∈ D, ∀ id ∈ idsVs d.2, id < s.h.length
 | [], xs, _, d, hd => by cases hd
 | e :: D, xs, hr, d, hd => by
  obtain ⟨x, xs', rfl, ⟨cap, h1, h2⟩, h3⟩ := hr
  rcases List.mem_cons.1 hd with rfl | hd
  ·exact fun id hid => kn_lt (ids_knL _ _ id h2 hid)
  ·exact RDs.lt h3 d hd
section
variable {P : Program}
structure PostP (s : St) (N : Nat) (K : KD) (a : Act) (w : World) : Prop where
 get : ∃ s' f D, s'.w = w ∧ Step s s' ∧ Ok s' ∧ FR s' f.get a ∧ RDs s' D a.defers ∧ K f s'.h D
 size : a.tmps.size = N
structure PanP (s : St) (N : Nat) (Pn : KP) (ch : List PanicEntry) (a : Act) (w : World) : Prop where
 get : ∃ s' f D p v, ch = [{ v := v, recovered := false }] ∧ s'.w = w ∧ Step s s' ∧ Ok s' ∧ FR s' f.get a ∧ RDs s' D a.defers ∧ R s' p v ∧ Pn f p s'.h D
 size : a.tmps.size = N
theorem PostP.trans {s s' : St} {N : Nat} {K : KD} {a : Act} {w : World} (hst : Step s s') (h : PostP s' N K a w) : PostP s N K a w := by
 obtain ⟨⟨s2, f, D, h1, h2, h3, h4, h5, h6⟩, h7⟩ := h
 exact ⟨⟨s2, f, D, h1, hst.trans h2, h3, h4, h5, h6⟩, h7⟩
theorem PanP.trans {s s' : St} {N : Nat} {Pn : KP} {ch : List PanicEntry} {a : Act} {w : World} (hst : Step s s') (h : PanP s' N Pn ch a w) : PanP s N Pn ch a w := by
 obtain ⟨⟨s2, f, D, p, v, h0, h1, h2, h3, h4, h5, h6⟩, h7⟩ := h
 exact ⟨⟨s2, f, D, p, v, h0, h1, hst.trans h2, h3, h4, h5, h6⟩, h7⟩
def PSpecOk (P : Program) (g : FuncId) (sp : PSpec) : Prop :=
 Enters P g ∧ ∀ ys b r p, sp ys = some (b, r, p) → ∀ s, Ok s → ∀ cs, RL s ys cs →
  Calls P g cs.toArray s.w fun e w' => ∃ s', s'.w = w' ∧ Step s s' ∧ Ok s' ∧ s'.h = s.h ∧ match b with
   | true => ∃ cr, e = .returned cr ∧ R s' r cr
   | false => ∃ v, e = .panicked [{ v := v, recovered := false }] ∧ R s' p v
def PSpecsOk (P : Program) (ps : List (FuncId × PSpec)) : Prop := ∀ g sp, lkp ps g = some sp → PSpecOk P g sp
theorem nilIfc_run (d : Nat) (T : TypeId) {a} (h : P.underlying T = some (.interface a)) (w : World) : (Op.equalIn (d + 1) T .nilIface .nilIface).run P w = .ok true w := by
 simp only [Op.equalIn, Sem.run_bind, run_underlying h, Result.andThen_ok]; rfl
theorem raise_ok {C : Cx} (hT : TbOk P C.tb) {ps : List (FuncId × PSpec)} (hp : PSpecsOk P ps) {s : St} (hok : Ok s) {N : Nat} {f : Tr} {a : Act} (hf : FR s f.get a) (hN : a.tmps.size = N) {o : Oper} (hd : dstOk N o = true) {K : Tr → Hp → Prop} {b : Bool} {r p : AV} {X : Prop}
  (hrs : raiseO C ps (ev f.get) o = some (b, r, p)) (h : br b (match o.dst with | some d => force r fun v => f.setK d v fun f => K f s.h | none => K f s.h) X) {next : Act → World → Prop} {Q : Exit → Act → World → Prop} (hnext : ∀ a' w', Post s N a.defers K a' w' → next a' w')
  (hpn : ∀ s' v, Step s s' → Ok s' → s'.h = s.h → R s' p v → X → Q (.panic [{ v := v, recovered := false }]) a s'.w) : o.wp P a s.w next Q := by
 unfold raiseO at hrs
 split at hrs
 ·rename_i c ho
  split at hrs
  ·cases hrs
  ·split at hrs
   ·rename_i g first caps hca
    split at hrs
    ·rename_i sp hsp
     obtain ⟨hg, hcl⟩ := hp g sp hsp
     obtain ⟨us, ys, h1, h2, hcw⟩ := callee_wp hT (ev_R hf) ho hca hg
     have hall : RL s (first ++ (c.args.toList.map (ev f.get) ++ caps)) (us ++ (c.args.toList.map a.eval ++ ys)) := RL_append h1 (RL_append (RL_map (ev_R hf) _) h2)
     refine hcw _ next Q ?_
     refine Calls.mono (hcl _ _ _ _ hrs s hok _ hall) ?_
     rintro e w' ⟨s', rfl, hst, hok', hh, hb⟩
     rcases br_elim h with ⟨rfl, hk⟩ | ⟨rfl, hk⟩
     ·obtain ⟨cr, rfl, hR⟩ := hb
      have hk2 : (match o.dst with | some d => force r fun v => f.setK d v fun f => K f s'.h | none => K f s'.h) := by rw [hh]; exact hk
      exact hnext _ _ ((fin_ok hf hst hok' hN hd hR hk2).trans (Step.refl s))
     ·obtain ⟨v, rfl, hR⟩ := hb
      exact hpn s' v hst hok' hh hR hk
    ·cases hrs
   ·cases hrs
 ·cases hrs
theorem stepE_ok {C : Cx} (hT : TbOk P C.tb) (hD : SpecsOk P C.specs) {call : CallA} (hcall : CallOk P call) {ps : List (FuncId × PSpec)} (hp : PSpecsOk P ps) {s : St} (hok : Ok s) {N : Nat} {f : Tr} {a : Act} (hf : FR s f.get a) (hN : a.tmps.size = N) {D : List DA} (hRD : RDs s D a.defers) {o : Oper} (hd : dstOk N o = true) {K : KD} {Pn : KP}
  (h : stepE C call ps o f s.h D K Pn) {next : Act → World → Prop} {Q : Exit → Act → World → Prop} (hnext : ∀ a' w', PostP s N K a' w' → next a' w') (hpn : ∀ ch a' w', PanP s N Pn ch a' w' → Q (.panic ch) a' w') : o.wp P a s.w next Q := by
 unfold stepE at h
 split at h
 ·split at h
  ·rename_i d hdf
   unfold deferO at hdf
   split at hdf
   ·rename_i c hop hdst
    split at hdf
    ·rename_i x hc
     split at hdf
     ·rename_i g first caps hx
      cases hdf
      have hv := ev_R hf x
      rw [hx] at hv
      obtain ⟨us, ys, hve, h1, h2⟩ := fnval hv
      unfold Oper.wp execOp
      simp only [hop, Sem.run_bind, resolve_value hc hve, Result.andThen_ok, Sem.run_pure]
      rw [Oper.upon_defer, hdst]
      refine hnext _ _ ⟨⟨s, f, _, rfl, Step.refl s, hok, fun t => hf t, show RDs s ((g, first ++ (c.args.toList.map (ev f.get) ++ caps)) :: D) _ from ⟨_, _, rfl, ⟨ys, rfl, ?_⟩, hRD⟩, h⟩, hN⟩
      have : (us.toArray ++ c.args.map a.eval).toList ++ ys = us ++ (c.args.toList.map a.eval ++ ys) := by simp
      rw [this]
      exact RL_append h1 (RL_append (RL_map (ev_R hf) _) h2)
     ·cases hdf
    ·cases hdf
   ·cases hdf
  ·exact h.elim
 ·split at h
  ·rename_i p hpo
   unfold panicO at hpo
   split at hpo
   ·rename_i x hop
    split at hpo
    ·rename_i T q hx
     cases hpo
     have hv := ev_R hf x
     rw [hx] at hv
     have hv2 := hv
     simp only [R] at hv
     obtain ⟨u, hu, _⟩ := hv
     unfold Oper.wp
     have hr : (execOp a.eval o).run P s.w = .halt (.panic (.iface T u)) s.w := by
      unfold execOp
      simp only [hop, hu]
      rfl
     rw [hr, Oper.upon_panic]
     exact hpn _ _ _ ⟨⟨s, f, D, _, _, rfl, rfl, Step.refl s, hok, hf, hRD, by rw [hu] at hv2; exact hv2, h⟩, hN⟩
    ·cases hpo
   ·cases hpo
  split at h
  ·rename_i hne
   unfold nilEqO at hne
   split at hne
   ·rename_i t x pp hop
    split at hne
    ·rename_i hx hk
     obtain ⟨ti, hl, hk⟩ := kind_get hk
     obtain ⟨im, he⟩ := ifc_und hT hl hk
     have hv := ev_R hf x
     rw [hx] at hv
     simp only [R] at hv
     have hq : (Op.equal t .nilIface .nilIface).run P s.w = .ok true s.w := nilIfc_run 9999 t he s.w
     have hr : (execOp a.eval o).run P s.w = .ok (.value (.bool true)) s.w := by
      unfold execOp
      simp only [hop, hv]
      show ((do pure (Next.value (← (do eqGuard .eql t x (.const .nilIface) .nilIface .nilIface; Go.binOp .eql t .nilIface .nilIface)))) : Sem Next).run P s.w = _
      have hg : eqGuard .eql t x (.const .nilIface) .nilIface .nilIface = pure () := by
       simp [eqGuard]
      rw [hg]
      simp only [Sem.run_bind, Sem.run_pure, Result.andThen_ok]
      have hb : Go.binOp .eql t .nilIface .nilIface = (do pure (.bool (← Op.equal t .nilIface .nilIface))) := rfl
      rw [hb]
      simp only [Sem.run_bind, hq, Result.andThen_ok, Sem.run_pure]
     unfold Oper.wp
     rw [hr, Oper.upon_value]
     obtain ⟨⟨s', f', q1, q2, q3, q4, q5⟩, q6, q7⟩ := fin_ok (K := fun f h => K f h D) hf (Step.refl s) hok hN hd (v := .bool true) (cv := .bool true) (by simp only [R]) (by cases hdst : o.dst <;> rw [hdst] at h <;> simpa only [force_eq] using h)
     exact hnext _ _ ⟨⟨s', f', D, q1, q2, q3, q4, by rw [q6]; exact hRD.step q2, q5⟩, q7⟩
    ·cases hne
   ·cases hne
  split at h
  ·rename_i b r p hrs
   refine raise_ok (K := fun f h => K f h D) hT hp hok hf hN hd hrs h (fun a' w' hq => hnext a' w' ?_) (fun s' v hst hok' hh hR hX => hpn _ _ _ ⟨⟨s', f, D, p, v, rfl, rfl, hst, hok', hf.step hst, hRD.step hst, hR, by rw [hh]; exact hX⟩, hN⟩)
   obtain ⟨⟨s', f', q1, q2, q3, q4, q5⟩, q6, q7⟩ := hq
   exact ⟨⟨s', f', D, q1, q2, q3, q4, by rw [q6]; exact hRD.step q2, q5⟩, q7⟩
  ·refine stepA_ok hT hD hcall hok hf hN hd h (fun a' w' hq => hnext a' w' ?_)
   obtain ⟨⟨s', f', q1, q2, q3, q4, q5⟩, q6, q7⟩ := hq
   exact ⟨⟨s', f', D, q1, q2, q3, q4, by rw [q6]; exact hRD.step q2, q5⟩, q7⟩
theorem barE_ok {C : Cx} (hT : TbOk P C.tb) (hD : SpecsOk P C.specs) {call : CallA} (hcall : CallOk P call) {ps : List (FuncId × PSpec)} (hp : PSpecsOk P ps) {ops : Array Oper} {N : Nat} (hops : ∀ o ∈ ops.toList, dstOk N o = true) {s0 : St} {D : List DA} {ds : List Deferred} (hRD : RDs s0 D ds) {Pn : KP} {Q : Exit → Act → World → Prop}
  (hpn : ∀ ch a' w', PanP s0 N Pn ch a' w' → Q (.panic ch) a' w') : BsOk P ops N ds s0 (fun o f h K => barE C call ps ops D Pn o f h K) Q := by
 intro j o s f a K next hoj hd hst hok hf hN hds h hnext
 unfold barE at h
 split at h
 ·rename_i b r p hg hrs
  unfold wpOp
  rw [hoj]
  simp only
  rw [if_pos (by simp [Region.wanted, hg])]
  refine .inl (raise_ok hT hp hok hf hN hd hrs h hnext (fun s' v hst' hok' hh hR hX => hpn _ _ _ ⟨⟨s', f, D, p, v, rfl, rfl, hst.trans hst', hok', hf.step hst', ?_, hR, by rw [hh]; exact hX⟩, hN⟩))
  rw [hds]
  exact (hRD.step hst).step hst'
 ·exact opA1_ok hT hD hcall hops hoj hd hok hf hN h hnext
theorem opsE_ok {C : Cx} (hT : TbOk P C.tb) (hD : SpecsOk P C.specs) {call : CallA} (hcall : CallOk P call) {ps : List (FuncId × PSpec)} (hp : PSpecsOk P ps) {ops : Array Oper} {N : Nat} (hops : ∀ o ∈ ops.toList, dstOk N o = true) {Pn : KP} {Q : Exit → Act → World → Prop} :
  ∀ (l : List Oper), (∀ o ∈ l, dstOk N o = true) → ∀ (s : St) (f : Tr) (a : Act) (D : List DA) (K : KD), Ok s → FR s f.get a → a.tmps.size = N → RDs s D a.defers → opsE C call ps ops Pn l f s.h D K → (∀ a' w', PostP s N K a' w' → Q .normal a' w') → (∀ ch a' w', PanP s N Pn ch a' w' → Q (.panic ch) a' w') → wpList P ops Q l a s.w
 | [], _, s, f, a, D, K, hok, hf, hN, hRD, h, hQ, _ => hQ _ _ ⟨⟨s, f, D, rfl, Step.refl s, hok, hf, hRD, h⟩, hN⟩
 | o :: rest, hl, s, f, a, D, K, hok, hf, hN, hRD, h, hQ, hQp => by
  have hrest : ∀ (s' : St) (f' : Tr) (a' : Act) (D' : List DA), Step s s' → Ok s' → FR s' f'.get a' → RDs s' D' a'.defers → a'.tmps.size = N → opsE C call ps ops Pn rest f' s'.h D' K → wpList P ops Q rest a' s'.w := fun s' f' a' D' hst hok' hf' hd hN' hk =>
   opsE_ok hT hD hcall hp hops rest (fun o ho => hl o (List.mem_cons_of_mem _ ho)) s' f' a' D' K hok' hf' hN' hd hk (fun a2 w2 hq => hQ a2 w2 (hq.trans hst)) (fun ch a2 w2 hq => hQp ch a2 w2 (hq.trans hst))
  have hd := hl o List.mem_cons_self
  have hrun : ∀ f', FR s f'.get a → stepE C call ps o f' s.h D (fun f h D => opsE C call ps ops Pn rest f h D K) Pn → o.wp P a s.w (wpList P ops Q rest) Q := fun f' hf' hs =>
   stepE_ok hT hD hcall hp hok hf' hN hRD hd hs (fun a' w' hq => by
    obtain ⟨⟨s', f2, D2, rfl, h2, h3, h4, h5, h6⟩, h7⟩ := hq
    exact hrest s' f2 a' D2 h2 h3 h4 h5 h7 h6) hQp
  have hskip : ∀ f', FR s f'.get a → (match o.dst with | some d => f'.setK d .und fun f => opsE C call ps ops Pn rest f s.h D K | none => opsE C call ps ops Pn rest f' s.h D K) → wpList P ops Q rest (a.put o.dst undef) s.w := fun f' hf' hs => by
   cases hdst : o.dst with
   | none =>
    rw [hdst] at hs
    exact hrest s f' a D (Step.refl s) hok hf' hRD hN hs
   | some d =>
    rw [hdst] at hs
    simp only [Tr.setK_eq] at hs
    have hlt : d < a.tmps.size := by
     unfold dstOk at hd
     rw [hdst] at hd
     rw [hN]
     simpa using hd
    exact hrest s (f'.set d .und) _ D (Step.refl s) hok (hf'.put (Step.refl s) hlt (by simp only [R])) hRD (by rw [put_size]; exact hN) hs
  rw [opsE_cons] at h
  unfold wpList
  split at h
  ·rename_i hg
   rw [if_pos (by simp [Region.wanted, hg])]
   exact .inl (hrun f hf h)
  ·rename_i j want hg
   split at h
   ·exact h.elim
   ·rename_i t ht
    have hlt : t < a.tmps.size := by
     cases hj : ops[j]? with
     | none => rw [hj] at ht; cases ht
     | some oj =>
      rw [hj] at ht
      have hm : oj ∈ ops.toList := by
       obtain ⟨hl, he⟩ := Array.getElem?_eq_some_iff.1 hj
       rw [← he]
       exact Array.mem_toList_iff.2 (Array.getElem_mem hl)
      have := hops oj hm
      unfold dstOk at this
      simp only [Option.bind_some] at ht
      rw [ht] at this
      rw [hN]
      simpa using this
    have hy := yielded_get ht hlt
    have hw : Region.wanted o (yielded ops a.tmps) = (yielded ops a.tmps j == some want) := by simp [Region.wanted, hg]
    simp only at h
    split at h
    ·rename_i b hb
     have hrt := hf t
     rw [hb] at hrt
     simp only [R] at hrt
     rw [hrt] at hy
     simp only at hy
     have hset : ∀ b', b' = b → FR s (f.set t (.bool b')).get a := by
      intro b' e u
      subst e
      by_cases hu : u = t
      ·subst hu
       rcases Tr.get_set_eq f u (.bool b') with e | e <;> rw [e]
       ·simp only [R]; exact hrt
       ·simp only [R]
      ·rw [Tr.get_set_ne f t u _ hu]
       exact hf u
     cases want with
     | true =>
      simp only [Tr.setK_eq] at h
      rcases br_elim h with ⟨rfl, hk⟩ | ⟨rfl, hk⟩
      ·rw [if_pos (by rw [hw, hy]; rfl)]
       exact .inl (hrun _ (hset true rfl) hk)
      ·rw [if_neg (by rw [hw, hy]; decide)]
       exact hskip _ (hset false rfl) (by cases hq : o.dst <;> rw [hq] at hk <;> simpa only [Tr.setK_eq] using hk)
     | false =>
      simp only [Tr.setK_eq] at h
      rcases br_elim h with ⟨rfl, hk⟩ | ⟨rfl, hk⟩
      ·rw [if_neg (by rw [hw, hy]; decide)]
       exact hskip _ (hset true rfl) (by cases hq : o.dst <;> rw [hq] at hk <;> simpa only [Tr.setK_eq] using hk)
      ·rw [if_pos (by rw [hw, hy]; rfl)]
       exact .inl (hrun _ (hset false rfl) hk)
    ·rename_i hb
     have hrt := hf t
     rw [hb] at hrt
     simp only [R] at hrt
     rw [hrt] at hy
     rw [if_neg (by rw [hw, hy]; simp [undef])]
     exact hskip f hf h
    ·exact h.elim
def PostPQ (s : St) (N : Nat) (K : KD) (X : Nat → KD) (Rt : KD) (Pn : KP) : Exit → Act → World → Prop
 | .normal, a, w => PostP s N K a w
 | .exit i, a, w => PostP s N (X i) a w
 | .ret, a, w => PostP s N Rt a w
 | .panic ch, a, w => PanP s N Pn ch a w
 | _, _, _ => False
theorem PostP.here {s : St} {N : Nat} {K : KD} {f : Tr} {a : Act} {D : List DA} (hok : Ok s) (hf : FR s f.get a) (hN : a.tmps.size = N) (hRD : RDs s D a.defers) (h : K f s.h D) : PostP s N K a s.w :=
 ⟨⟨s, f, D, rfl, Step.refl s, hok, hf, hRD, h⟩, hN⟩
theorem PostP.weaken {s : St} {N : Nat} {K K' : KD} {a : Act} {w : World} (h : PostP s N K a w) (hk : ∀ f h D, K f h D → K' f h D) : PostP s N K' a w := by
 obtain ⟨⟨s2, f, D, h1, h2, h3, h4, h5, h6⟩, h7⟩ := h
 exact ⟨⟨s2, f, D, h1, h2, h3, h4, h5, hk _ _ _ h6⟩, h7⟩
theorem codeE_ok {C : Cx} (hm : P.follows .mixedOrders = true) (hT : TbOk P C.tb) (hD : SpecsOk P C.specs) {call : CallA} (hcall : CallOk P call) {ps : List (FuncId × PSpec)} (hp : PSpecsOk P ps) {N : Nat} :
  ∀ (c : Code), okCode N c = true → drawsOk c = true → ∀ (K : KD) (X : Nat → KD) (Rt : KD) (Pn : KP) (f : Tr) (s : St) (a : Act) (D : List DA), Ok s → FR s f.get a → a.tmps.size = N → RDs s D a.defers →
   codeE C call ps c K X Rt Pn f s.h D → c.wp P (PostPQ s N K X Rt Pn) a s.w
 | .skip, _, _, K, X, Rt, Pn, f, s, a, D, hok, hf, hN, hRD, h => wp_skip (show PostP s N K a s.w from PostP.here hok hf hN hRD h)
 | .region id ops d, hs, hd, K, X, Rt, Pn, f, s, a, D, hok, hf, hN, hRD, h => by
  have hops : ∀ o ∈ ops.toList, dstOk N o = true := by
   unfold okCode at hs
   exact List.all_eq_true.1 hs
  cases d with
  | false =>
   rw [codeE_reg] at h
   exact wp_region_list (opsE_ok hT hD hcall hp hops ops.toList hops s f a D K hok hf hN hRD h (fun a' w' hq => hq) (fun ch a' w' hq => hq))
  | true =>
   have h : match hoistO C ops with
    | some (e, ops') => drawB C (fun o f h K => barE C call ps ops' D (fun f p h D => f.setK e .any fun f => Pn f p h D) o f h K) ops' f s.h fun f h => K f h D
    | none => drawB C (fun o f h K => barE C call ps ops D Pn o f h K) ops f s.h fun f h => K f h D := h
   split at h
   ·rename_i e ops' hh
    obtain ⟨h1, h2, h3⟩ := hoist_ops hh hops
    refine wp_region_any hm (hoist_ok hh (drawB_any hT hD h1 h2 hok hf hN h (barE_ok hT hD hcall hp h2 hRD (fun ch a' w' hq u => ?_)) (fun a' w' hq => ?_)))
    ·obtain ⟨⟨s', f', D', p, v, q0, q1, q2, q3, q4, q5, q6, q7⟩, q8⟩ := hq
     simp only [Tr.setK_eq] at q7
     exact ⟨⟨s', f'.set e .any, D', p, v, q0, q1, q2, q3, q4.put (Step.refl s') (by rw [q8]; exact h3) (by simp only [R]), by rw [put_defers]; exact q5, q6, q7⟩, by rw [put_size]; exact q8⟩
    ·obtain ⟨⟨s', f', q1, q2, q3, q4, q5⟩, q6, q7⟩ := hq
     exact ⟨⟨s', f', D, q1, q2, q3, q4, by rw [q6]; exact hRD.step q2, q5⟩, q7⟩
   ·refine drawB_ok hm hT hD hd hops hok hf hN h (barE_ok hT hD hcall hp hops hRD (fun ch a' w' hq => hq)) (fun a' w' hq => ?_)
    obtain ⟨⟨s', f', q1, q2, q3, q4, q5⟩, q6, q7⟩ := hq
    exact ⟨⟨s', f', D, q1, q2, q3, q4, by rw [q6]; exact hRD.step q2, q5⟩, q7⟩
 | .seq x y, hs, hd, K, X, Rt, Pn, f, s, a, D, hok, hf, hN, hRD, h => by
  simp only [okCode, drawsOk, Bool.and_eq_true] at hs hd
  refine wp_seq (Code.wp_mono ?_ (codeE_ok hm hT hD hcall hp x hs.1 hd.1 _ X Rt Pn f s a D hok hf hN hRD h))
  intro e a' w' hq
  cases e with
  | normal =>
   obtain ⟨⟨s2, f2, D2, h1, h2, h3, h4, h5, h6⟩, h7⟩ := hq
   subst h1
   refine Code.wp_mono ?_ (codeE_ok hm hT hD hcall hp y hs.2 hd.2 K X Rt Pn f2 s2 a' D2 h3 h4 h7 h5 h6)
   intro e a2 w2 hq2
   cases e with
   | normal => exact PostP.trans h2 hq2
   | exit i => exact PostP.trans h2 hq2
   | ret => exact PostP.trans h2 hq2
   | goto l => exact hq2
   | panic ch => exact PanP.trans h2 hq2
   | outgrown => exact hq2
  | exit i => exact hq
  | ret => exact hq
  | goto l => exact hq
  | panic ch => exact hq
  | outgrown => exact hq
 | .cond c x y, hs, hd, K, X, Rt, Pn, f, s, a, D, hok, hf, hN, hRD, h => by
  simp only [okCode, drawsOk, Bool.and_eq_true] at hs hd
  rw [codeE_cond] at h
  split at h
  ·rename_i t ht
   have hr := ev_R hf c
   rw [ht] at hr
   simp only [R] at hr
   rcases br_elim h with ⟨rfl, hk⟩ | ⟨rfl, hk⟩
   ·exact wp_cond_true hr (codeE_ok hm hT hD hcall hp x hs.1 hd.1 K X Rt Pn f s a D hok hf hN hRD hk)
   ·exact wp_cond_false hr (codeE_ok hm hT hD hcall hp y hs.2 hd.2 K X Rt Pn f s a D hok hf hN hRD hk)
  ·exact h.elim
 | .block id c, hs, hd, K, X, Rt, Pn, f, s, a, D, hok, hf, hN, hRD, h => by
  simp only [okCode, drawsOk] at hs hd
  rw [codeE_block] at h
  refine wp_block (Code.wp_mono ?_ (codeE_ok hm hT hD hcall hp c hs hd K _ Rt Pn f s a D hok hf hN hRD h))
  intro e a' w' hq
  cases e with
  | normal => exact hq
  | exit i =>
   simp only [Exit.inBlock]
   by_cases hi : i = id
   ·rw [if_pos hi]
    refine PostP.weaken hq (fun f h D hk => ?_)
    subst hi
    simpa using hk
   ·rw [if_neg hi]
    refine PostP.weaken hq (fun f h D hk => ?_)
    have hb : Nat.beq i id = false := by
     cases hb : Nat.beq i id with
     | true => exact absurd (Nat.eq_of_beq_eq_true hb) hi
     | false => rfl
    have hk : (match Nat.beq i id with | true => K | false => X i) f h D := hk
    rw [hb] at hk
    exact hk
  | ret => exact hq
  | goto l => exact hq
  | panic ch => exact hq
  | outgrown => exact hq
 | .loop c, hs, hd, K, X, Rt, Pn, f, s, a, D, hok, hf, hN, hRD, h => by
  simp only [okCode, Bool.and_eq_true, Bool.not_eq_true'] at hs
  simp only [drawsOk] at hd
  obtain ⟨hs, _⟩ := hs
  rw [codeE_loop] at h
  obtain ⟨h⟩ := h
  have pass : ∀ (e : Exit) (a2 : Act) (w2 : World) (s2 : St) (K2 : KD), Step s s2 → e ≠ .normal → PostPQ s2 N K2 X Rt Pn e a2 w2 → PostPQ s N K X Rt Pn e a2 w2 := by
   intro e a2 w2 s2 K2 hst hne hq
   cases e with
   | normal => exact absurd rfl hne
   | exit i => exact PostP.trans hst hq
   | ret => exact PostP.trans hst hq
   | goto l => exact hq
   | panic ch => exact PanP.trans hst hq
   | outgrown => exact hq
  rcases h with ⟨n, hn⟩ | ⟨nz, cs, J, μ, hnz⟩
  ·refine wp_loop_rounds n ?_
   have key : ∀ (n : Nat) (f2 : Tr) (s2 : St) (a2 : Act), Step s s2 → Ok s2 → FR s2 f2.get a2 → a2.tmps.size = N → RDs s2 D a2.defers → turns n (fun K f h => codeE C call ps c (fun f h D' => D' = D ∧ K f h) X Rt Pn f h D) f2 s2.h → Code.rounds P c (PostPQ s N K X Rt Pn) n a2 s2.w := by
    intro n
    induction n with
    | zero => intro f2 s2 a2 _ _ _ _ _ ht; exact ht.elim
    | succ n ih =>
     intro f2 s2 a2 hst hok2 hf2 hN2 hd2 ht
     simp only [turns] at ht
     simp only [Code.rounds]
     refine Code.wp_mono ?_ (codeE_ok hm hT hD hcall hp c hs hd _ X Rt Pn f2 s2 a2 D hok2 hf2 hN2 hd2 ht)
     intro e a3 w3 hq
     by_cases he : e = .normal
     ·subst he
      obtain ⟨⟨s3, f3, D3, h1, h2, h3, h4, h5, ⟨rfl, h6⟩⟩, h7⟩ := hq
      subst h1
      exact ih f3 s3 a3 (hst.trans h2) h3 h4 h7 h5 h6
     ·have := pass e a3 w3 s2 _ hst he hq
      cases e <;> first | exact absurd rfl he | exact this
   exact key n f s a (Step.refl s) hok hf hN hRD hn
  ·obtain ⟨s0, f0, hst0, hok0, hf0, hw0, hJ0, hround⟩ := normK_ok nz f s _ hok hf hnz
   have hRD0 := hRD.step hst0
   have key : ∀ (m n : Nat), n < m → ∀ (vs : List AV) (s2 : St) (a2 : Act), Step s0 s2 → Ok s2 → FR s2 (sets (erase f0 (asg c)) cs vs).get a2 → a2.tmps.size = N → RDs s2 D a2.defers → vs.length = cs.length → J vs s2.h → μ vs s2.h = n → Code.rounds P c (PostPQ s N K X Rt Pn) m a2 s2.w := by
    intro m
    induction m with
    | zero => intro n hn; omega
    | succ m ih =>
     intro n hn vs s2 a2 hst hok2 hf2 hN2 hd2 hlen hJ hμ
     have hbr := hround vs s2.h hlen hJ
     rw [erase_eq, sets_eq] at hbr
     simp only [Code.rounds]
     refine Code.wp_mono ?_ (codeE_ok hm hT hD hcall hp c hs hd _ X Rt Pn _ s2 a2 D hok2 hf2 hN2 hd2 hbr)
     intro e a3 w3 hq
     by_cases he : e = .normal
     ·subst he
      obtain ⟨⟨s1, f1, D1, h1, h2, h3, h4, h9, ⟨rfl, ⟨nzb, hbk⟩⟩⟩, h10⟩ := hq
      subst h1
      obtain ⟨s3, f3, hst1, h3, h4, hw1, ⟨h5, h6, h7, h8⟩⟩ := normK_ok nzb f1 s1 _ h3 h4 hbk
      rw [← hw1]
      replace h9 := RDs.cut (RDs.lt hRD0) (h9.step hst1)
      replace h2 := h2.trans hst1
      obtain ⟨hc1, hc2⟩ := cutOk_spec h6
      have hst3 : Step s0 s3 := hst.trans h2
      have hfr : FR (s3.cut s0.h.length) (erase f0 (asg c)).get a3 := by
       intro t
       rw [erase_get]
       by_cases ht : t ∈ asg c
       ·rw [if_pos ht]; simp only [R]
       ·rw [if_neg ht]
        have e1 := congrArg (fun f => f.get t) h5
        simp only [erase_get, if_neg ht] at e1
        have hr := h4 t
        rw [e1] at hr
        refine R_cut _ _ hr (fun id hid => kn_lt ?_)
        exact ids_kn _ _ id (hf0 t) hid
      refine ih (μ (cs.map fun c => viewB s0.h.length s3.h (f3.get c)) (s3.h.take s0.h.length)) (by omega) (cs.map fun c => viewB s0.h.length s3.h (f3.get c)) (s3.cut s0.h.length) a3 (cut_step hst3 (Nat.le_refl _)) (cut_ok h3 hc2) ?_ h10 h9 (by simp) h7 rfl
      refine FR.sets cs _ _ hfr (fun i c v hc hv => ?_)
      rw [List.getElem?_map, hc] at hv
      cases hv
      refine viewB_R h3 (h4 c) (fun id hid => hc1 id (idsVs_mem (c := viewB s0.h.length s3.h (f3.get c)) (List.mem_map.2 ⟨c, List.mem_of_getElem? hc, rfl⟩) hid))
     ·have := pass e a3 w3 s2 _ (hst0.trans hst) he hq
      cases e <;> first | exact absurd rfl he | exact this
   have hfr0 : FR s0 (sets (erase f0 (asg c)) cs (cs.map f0.get)).get a := by
    refine FR.sets cs _ _ (fun t => ?_) (fun i c v hc hv => ?_)
    ·rw [erase_get]
     by_cases ht : t ∈ asg c
     ·rw [if_pos ht]; simp only [R]
     ·rw [if_neg ht]; exact hf0 t
    ·rw [List.getElem?_map, hc] at hv
     cases hv
     exact hf0 c
   rw [← hw0]
   exact wp_loop_rounds (μ (cs.map f0.get) s0.h + 1) (key _ _ (Nat.lt_succ_self _) (cs.map f0.get) s0 a (Step.refl s0) hok0 hfr0 hN hRD0 (by simp) hJ0 rfl)
 | .exit id, _, _, K, X, Rt, Pn, f, s, a, D, hok, hf, hN, hRD, h => wp_exit (show PostP s N (X id) a s.w from PostP.here hok hf hN hRD h)
 | .scope c, hs, hd, K, X, Rt, Pn, f, s, a, D, hok, hf, hN, hRD, h => by
  simp only [okCode, drawsOk] at hs hd
  rw [codeE_scope] at h
  refine wp_scope_straight (Code.wp_mono ?_ (codeE_ok hm hT hD hcall hp c hs hd K X Rt Pn f s a D hok hf hN hRD h))
  intro e a' w' hq
  cases e <;> exact hq
 | .label l, _, _, K, X, Rt, Pn, f, s, a, D, hok, hf, hN, hRD, h => wp_label (show PostP s N K a s.w from PostP.here hok hf hN hRD h)
 | .ret, _, _, K, X, Rt, Pn, f, s, a, D, hok, hf, hN, hRD, h => wp_ret (show PostP s N Rt a s.w from PostP.here hok hf hN hRD h)
 | .rangeFunc _ _ _ _, _, _, _, _, _, _, _, _, _, _, _, _, _, _, h => False.elim h
 | .goto _, _, _, _, _, _, _, _, _, _, _, _, _, _, _, h => False.elim h
 | .refuse _, _, _, _, _, _, _, _, _, _, _, _, _, _, _, h => False.elim h
end
end Av
namespace Av
open Go

section
variable {P : Program}
def RM (s : St) : Option AV → FrameMode → Prop
 | none, u => u = .returning
 | some p, u => ∃ v, u = .panicking [{ v := v, recovered := false }] ∧ R s p v
theorem RM.run {s : St} {m : Option AV} {u : FrameMode} (h : RM s m u) : u ≠ .run := by
 cases m with
 | none => simp only [RM] at h; subst h; simp
 | some p => obtain ⟨v, rfl, _⟩ := h; simp
theorem RM.step {s s' : St} (hst : Step s s') {m : Option AV} {u : FrameMode} (h : RM s m u) : RM s' m u := by
 cases m with
 | none => exact h
 | some p => obtain ⟨v, rfl, hr⟩ := h; exact ⟨v, rfl, R_mono hst _ _ hr⟩
theorem RM.settle {s : St} {m : Option AV} {u : FrameMode} (h : RM s m u) : Go.settle u = u := by
 cases m with
 | none => simp only [RM] at h; subst h; rfl
 | some p => obtain ⟨v, rfl, _⟩ := h; rfl
def CallDOk (P : Program) (cd : CallDA) : Prop :=
 ∀ g xs h m K, cd g xs h m K → Enters P g ∧ ∀ s, s.h = h → Ok s → ∀ cs u, RL s xs cs → RM s m u →
  CallsD P g cs.toArray u s.w fun e u' w' => ∃ s' v m', e = .returned v ∧ s'.w = w' ∧ Step s s' ∧ Ok s' ∧ RM s' m' (Go.settle u') ∧ K m' s'.h
theorem endE_ok {tb : Tb} (hT : TbOk P tb) {cd : CallDA} (hcd : CallDOk P cd) {fn : Func} {K : AV → Hp → Prop} {f : Tr} {a : Act} {s0 : St} : ∀ (D : List DA) (ds : List Deferred) (m : Option AV) (u : FrameMode) (s : St), Step s0 s → Ok s → FR s f.get a → RDs s D ds → RM s m u → endE tb cd fn K m f s.h D →
  Leaves P fn a.tmps (fun e w' => ∃ s' v cr, e = .returned cr ∧ s'.w = w' ∧ Step s0 s' ∧ Ok s' ∧ R s' v cr ∧ K v s'.h) ds u s.w
 | [], ds, m, u, s, hst, hok, hf, hRD, hm, h => by
  simp only [RDs] at hRD
  subst hRD
  cases m with
  | none =>
   simp only [RM] at hm
   subst hm
   have h : retA tb fn.results.toList f s.h K := h
   obtain ⟨v, cv, h1, h2, h3⟩ := results_ok (P := P) hT hok hf h
   exact ⟨cv, h1, s, v, cv, rfl, rfl, hst, hok, h2, h3⟩
  | some p => exact False.elim h
 | d :: D, ds, m, u, s, hst, hok, hf, hRD, hm, h => by
  obtain ⟨x, ds', rfl, ⟨cap, htar, hrl⟩, hRD'⟩ := hRD
  have h : cd d.1 d.2 s.h m fun m h => endE tb cd fn K m f h D := h
  obtain ⟨hen, hc⟩ := hcd _ _ _ _ _ h
  have hc := hc s rfl hok _ u hrl hm
  refine ⟨hm.run, _, _, d.1, (x.args.toList ++ cap).toArray, htar, ?_, ?_⟩
  ·rw [htar]
   have : (x.args.toList ++ cap).toArray = x.args ++ cap.toArray := by simp
   rw [this]
   exact enter_run hen _ _
  ·refine CallsD.mono hc ?_
   rintro e u' w' ⟨s', v, m', rfl, rfl, hst', hok', hm', hk⟩
   exact endE_ok hT hcd D ds' m' _ s' (hst.trans hst') hok' (hf.step hst') (hRD'.step hst') hm' hk
theorem bodyE_ok {C : Cx} (hm : P.follows .mixedOrders = true) (hT : TbOk P C.tb) (hD : SpecsOk P C.specs) {call : CallA} (hcall : CallOk P call) {ps : List (FuncId × PSpec)} (hp : PSpecsOk P ps) {cd : CallDA} (hcd : CallDOk P cd) {g : FuncId} {fn : Func} (hf : FnOk P g fn) {args : List AV} {s : St} {K : AV → Hp → Prop} (h : bodyE C call ps cd fn args s.h K) (hok : Ok s) {cs : List Value} (hr : RL s args cs) :
  Calls P g cs.toArray s.w fun e w' => ∃ s' v cr, e = .returned cr ∧ s'.w = w' ∧ Step s s' ∧ Ok s' ∧ R s' v cr ∧ K v s'.h := by
 unfold bodyE at h
 split at h
 ·rename_i c hb hle
  have hcode := hf.code
  rw [hb] at hcode
  refine calls_of_wp_defers hf.get hb ?_
  have hlen : cs.length = args.length := RL_vals hr
  have hle := Nat.le_of_ble_eq_true hle
  have hget : ∀ i c, cs[i]? = some c → (cs.toArray ++ Array.replicate (fn.ntmps - cs.toArray.size) undef).getD (0 + i) undef = c := by
   intro i c hc
   have hlt := (List.getElem?_eq_some_iff.1 hc).1
   rw [Nat.zero_add, Array.getD_eq_getD_getElem?, Array.getElem?_append_left (by simpa using hlt)]
   simp [hc]
  obtain ⟨f', hf', hk⟩ := init_ok (a := { tmps := cs.toArray ++ Array.replicate (fn.ntmps - cs.toArray.size) undef, defers := [] }) args cs 0 _ _ hr (fun t => by rw [mk_get]; simp only [R]) hget h
  refine Code.wp_mono ?_ (codeE_ok hm hT hD hcall hp c hcode.1 hcode.2 _ _ _ _ f' s _ [] hok hf' (by simp; omega) rfl hk)
  intro e a' w' hq
  cases e with
  | normal =>
   obtain ⟨⟨s2, f2, D, rfl, h2, h3, h4, h5, h6⟩, _⟩ := hq
   exact endE_ok hT hcd D _ none _ s2 h2 h3 h4 h5 rfl h6
  | ret =>
   obtain ⟨⟨s2, f2, D, rfl, h2, h3, h4, h5, h6⟩, _⟩ := hq
   exact endE_ok hT hcd D _ none _ s2 h2 h3 h4 h5 rfl h6
  | panic ch =>
   obtain ⟨⟨s2, f2, D, p, v, rfl, rfl, h2, h3, h4, h5, h6, h7⟩, _⟩ := hq
   exact endE_ok hT hcd D _ (some p) _ s2 h2 h3 h4 h5 ⟨v, rfl, h6⟩ h7
  | exit i =>
   obtain ⟨⟨_, _, _, _, _, _, _, _, h5⟩, _⟩ := hq
   exact h5.elim
  | goto l => exact hq.elim
  | outgrown => exact hq.elim
 ·exact h.elim
theorem PSpecsOk.nil : PSpecsOk P [] := fun g sp h => by cases h
/-! ### Calls that were put off -/
theorem PSpecsOk.cons {g : FuncId} {sp : PSpec} {l : List (FuncId × PSpec)} (h : PSpecOk P g sp) (hl : PSpecsOk P l) : PSpecsOk P ((g, sp) :: l) := by
 intro g' sp' h'
 simp only [lkp] at h'
 cases hb : Nat.beq g g' with
 | true =>
  rw [hb] at h'
  have := Nat.eq_of_beq_eq_true hb
  cases h'
  exact this ▸ h
 | false =>
  rw [hb] at h'
  exact hl g' sp' h'
end
end Av
namespace Go.Proofs.Ytbbklijmnknmhaa
open Av
def tb : Tb := [
 (1, ⟨.fn, 1, 8, [.nilfn], none, []⟩),
 (2, ⟨.int .i64, 1, 8, [.int .i64 0], some (.int .i64), []⟩),
 (3, ⟨.int .i64, 1, 8, [.int .i64 0], some (.int .i64), []⟩),
 (4, ⟨.bool, 1, 1, [.bool false], some .bool, []⟩),
 (5, ⟨.int .u8, 1, 1, [.int .u8 0], some (.int .u8), []⟩),
 (9, ⟨.str, 1, 16, [.str ⟨#[]⟩], some .str, []⟩),
 (12, ⟨.int .u64, 1, 8, [.int .u64 0], some (.int .u64), []⟩),
 (20, ⟨.ifc, 1, 16, [.nili], none, []⟩),
 (21, ⟨.int .i32, 1, 4, [.int .i32 0], some (.int .i32), []⟩),
 (22, ⟨.sl 50, 1, 24, [.zsl (.st [.str, .str])], some (.sl (.st [.str, .str])), []⟩),
 (23, ⟨.sl 40, 1, 24, [.zsl (.st [.str, .str, .bool])], some (.sl (.st [.str, .str, .bool])), []⟩),
 (24, ⟨.fn, 1, 8, [.nilfn], none, []⟩),
 (25, ⟨.fn, 1, 8, [.nilfn], none, []⟩),
 (26, ⟨.fn, 1, 8, [.nilfn], none, []⟩),
 (27, ⟨.int .i64, 1, 8, [.int .i64 0], some (.int .i64), []⟩),
 (29, ⟨.fn, 1, 8, [.nilfn], none, []⟩),
 (31, ⟨.fn, 1, 8, [.nilfn], none, []⟩),
 (32, ⟨.fn, 1, 8, [.nilfn], none, []⟩),
 (33, ⟨.fn, 1, 8, [.nilfn], none, []⟩),
 (34, ⟨.sl 38, 1, 24, [.zsl (.st [(.int .i64), .str, .str, .str])], some (.sl (.st [(.int .i64), .str, .str, .str])), []⟩),
 (36, ⟨.fn, 1, 8, [.nilfn], none, []⟩),
 (38, ⟨.st [(3, 0), (9, 1), (9, 2), (9, 3)], 4, 56, [.int .i64 0, .str ⟨#[]⟩, .str ⟨#[]⟩, .str ⟨#[]⟩], some (.st [(.int .i64), .str, .str, .str]), []⟩),
 (40, ⟨.st [(9, 0), (9, 1), (4, 2)], 3, 40, [.str ⟨#[]⟩, .str ⟨#[]⟩, .bool false], some (.st [.str, .str, .bool]), []⟩),
 (41, ⟨.fn, 1, 8, [.nilfn], none, []⟩),
 (42, ⟨.fn, 1, 8, [.nilfn], none, []⟩),
 (43, ⟨.fn, 1, 8, [.nilfn], none, []⟩),
 (44, ⟨.fn, 1, 8, [.nilfn], none, []⟩),
 (46, ⟨.st [(9, 0), (9, 1), (4, 2)], 3, 40, [.str ⟨#[]⟩, .str ⟨#[]⟩, .bool false], some (.st [.str, .str, .bool]), []⟩),
 (48, ⟨.fn, 1, 8, [.nilfn], none, []⟩),
 (50, ⟨.st [(9, 0), (9, 1)], 2, 32, [.str ⟨#[]⟩, .str ⟨#[]⟩], some (.st [.str, .str]), []⟩),
 (52, ⟨.fn, 1, 8, [.nilfn], none, []⟩),
 (53, ⟨.fn, 1, 8, [.nilfn], none, []⟩),
 (54, ⟨.fn, 1, 8, [.nilfn], none, []⟩),
 (55, ⟨.sl 65, 1, 24, [.zsl (.st [(.int .i64), (.int .i64), .str, .str, (.st [.str, .str, .bool]), (.st [(.int .i64), (.int .i64)]), (.st [(.int .i64), (.int .i64)]), (.sl (.st [.str, .str, .bool]))])], some (.sl (.st [(.int .i64), (.int .i64), .str, .str, (.st [.str, .str, .bool]), (.st [(.int .i64), (.int .i64)]), (.st [(.int .i64), (.int .i64)]), (.sl (.st [.str, .str, .bool]))])), []⟩),
 (56, ⟨.fn, 1, 8, [.nilfn], none, []⟩),
 (57, ⟨.ptr 88, 1, 8, [.nilp], none, [("Live", 36), ("Map", 40), ("Next", 44), ("Open", 41), ("Pin", 47), ("Prev", 45), ("Shut", 46), ("Unpin", 48), ("Write", 43), ("bookend/model.move", 78), ("bookend/model.none", 71), ("bookend/model.version", 75)]⟩),
 (58, ⟨.fn, 1, 8, [.nilfn], none, []⟩),
 (59, ⟨.ptr 106, 1, 8, [.nilp], none, [("Live", 37), ("Map", 70), ("Next", 67), ("Open", 66), ("Pin", 64), ("Prev", 68), ("Shut", 69), ("Unpin", 65), ("Write", 63)]⟩),
 (60, ⟨.fn, 1, 8, [.nilfn], none, []⟩),
 (61, ⟨.fn, 1, 8, [.nilfn], none, []⟩),
 (63, ⟨.st [(3, 0), (3, 1)], 2, 16, [.int .i64 0, .int .i64 0], some (.st [(.int .i64), (.int .i64)]), []⟩),
 (64, ⟨.st [(3, 0), (3, 1), (9, 2), (9, 3), (46, 4), (63, 7), (63, 9), (23, 11)], 12, 144, [.int .i64 0, .int .i64 0, .str ⟨#[]⟩, .str ⟨#[]⟩, .str ⟨#[]⟩, .str ⟨#[]⟩, .bool false, .int .i64 0, .int .i64 0, .int .i64 0, .int .i64 0, .zsl (.st [.str, .str, .bool])], some (.st [(.int .i64), (.int .i64), .str, .str, (.st [.str, .str, .bool]), (.st [(.int .i64), (.int .i64)]), (.st [(.int .i64), (.int .i64)]), (.sl (.st [.str, .str, .bool]))]), []⟩),
 (65, ⟨.st [(3, 0), (3, 1), (9, 2), (9, 3), (46, 4), (63, 7), (63, 9), (23, 11)], 12, 144, [.int .i64 0, .int .i64 0, .str ⟨#[]⟩, .str ⟨#[]⟩, .str ⟨#[]⟩, .str ⟨#[]⟩, .bool false, .int .i64 0, .int .i64 0, .int .i64 0, .int .i64 0, .zsl (.st [.str, .str, .bool])], some (.st [(.int .i64), (.int .i64), .str, .str, (.st [.str, .str, .bool]), (.st [(.int .i64), (.int .i64)]), (.st [(.int .i64), (.int .i64)]), (.sl (.st [.str, .str, .bool]))]), []⟩),
 (66, ⟨.sl 63, 1, 24, [.zsl (.st [(.int .i64), (.int .i64)])], some (.sl (.st [(.int .i64), (.int .i64)])), []⟩),
 (68, ⟨.fn, 1, 8, [.nilfn], none, []⟩),
 (69, ⟨.fn, 1, 8, [.nilfn], none, []⟩),
 (70, ⟨.fn, 1, 8, [.nilfn], none, []⟩),
 (71, ⟨.sl 22, 1, 24, [.zsl (.sl (.st [.str, .str]))], some (.sl (.sl (.st [.str, .str]))), []⟩),
 (72, ⟨.fn, 1, 8, [.nilfn], none, []⟩),
 (73, ⟨.fn, 1, 8, [.nilfn], none, []⟩),
 (75, ⟨.fn, 1, 8, [.nilfn], none, []⟩),
 (76, ⟨.fn, 1, 8, [.nilfn], none, []⟩),
 (77, ⟨.fn, 1, 8, [.nilfn], none, []⟩),
 (78, ⟨.fn, 1, 8, [.nilfn], none, []⟩),
 (79, ⟨.fn, 1, 8, [.nilfn], none, []⟩),
 (80, ⟨.fn, 1, 8, [.nilfn], none, []⟩),
 (81, ⟨.sl 133, 1, 24, [.zsl (.st [(.int .i64), (.raw 0)])], some (.sl (.st [(.int .i64), (.raw 0)])), []⟩),
 (83, ⟨.st [(81, 0)], 1, 24, [.zsl (.st [(.int .i64), (.raw 0)])], some (.st [(.sl (.st [(.int .i64), (.raw 0)]))]), []⟩),
 (84, ⟨.sl 136, 1, 24, [.zsl (.st [(.int .i64), (.raw 1)])], some (.sl (.st [(.int .i64), (.raw 1)])), []⟩),
 (86, ⟨.st [(84, 0)], 1, 24, [.zsl (.st [(.int .i64), (.raw 1)])], some (.st [(.sl (.st [(.int .i64), (.raw 1)]))]), []⟩),
 (88, ⟨.st [(4, 0), (22, 1), (83, 2), (86, 3)], 4, 80, [.bool false, .zsl (.st [.str, .str]), .zsl (.st [(.int .i64), (.raw 0)]), .zsl (.st [(.int .i64), (.raw 1)])], some (.st [.bool, (.sl (.st [.str, .str])), (.st [(.sl (.st [(.int .i64), (.raw 0)]))]), (.st [(.sl (.st [(.int .i64), (.raw 1)]))])]), []⟩),
 (89, ⟨.fn, 1, 8, [.nilfn], none, []⟩),
 (90, ⟨.fn, 1, 8, [.nilfn], none, []⟩),
 (91, ⟨.fn, 1, 8, [.nilfn], none, []⟩),
 (92, ⟨.fn, 1, 8, [.nilfn], none, []⟩),
 (94, ⟨.fn, 1, 8, [.nilfn], none, []⟩),
 (95, ⟨.fn, 1, 8, [.nilfn], none, []⟩),
 (96, ⟨.fn, 1, 8, [.nilfn], none, []⟩),
 (97, ⟨.fn, 1, 8, [.nilfn], none, []⟩),
 (98, ⟨.fn, 1, 8, [.nilfn], none, []⟩),
 (99, ⟨.ptr 38, 1, 8, [.nilp], none, []⟩),
 (101, ⟨.fn, 1, 8, [.nilfn], none, []⟩),
 (102, ⟨.fn, 1, 8, [.nilfn], none, []⟩),
 (103, ⟨.fn, 1, 8, [.nilfn], none, []⟩),
 (104, ⟨.sl 128, 1, 24, [.zsl (.st [(.int .i64), .bool, (.sl (.st [.str, .str])), (.int .i64)])], some (.sl (.st [(.int .i64), .bool, (.sl (.st [.str, .str])), (.int .i64)])), []⟩),
 (106, ⟨.st [(22, 0), (104, 1), (104, 2)], 3, 72, [.zsl (.st [.str, .str]), .zsl (.st [(.int .i64), .bool, (.sl (.st [.str, .str])), (.int .i64)]), .zsl (.st [(.int .i64), .bool, (.sl (.st [.str, .str])), (.int .i64)])], some (.st [(.sl (.st [.str, .str])), (.sl (.st [(.int .i64), .bool, (.sl (.st [.str, .str])), (.int .i64)])), (.sl (.st [(.int .i64), .bool, (.sl (.st [.str, .str])), (.int .i64)]))]), []⟩),
 (107, ⟨.fn, 1, 8, [.nilfn], none, []⟩),
 (109, ⟨.st [(22, 0), (3, 1)], 2, 32, [.zsl (.st [.str, .str]), .int .i64 0], some (.st [(.sl (.st [.str, .str])), (.int .i64)]), []⟩),
 (110, ⟨.fn, 1, 8, [.nilfn], none, []⟩),
 (111, ⟨.fn, 1, 8, [.nilfn], none, []⟩),
 (112, ⟨.fn, 1, 8, [.nilfn], none, []⟩),
 (113, ⟨.fn, 1, 8, [.nilfn], none, []⟩),
 (114, ⟨.ptr 109, 1, 8, [.nilp], some (.raw 1), [("bookend/model.next", 80), ("bookend/model.prev", 82)]⟩),
 (115, ⟨.fn, 1, 8, [.nilfn], none, []⟩),
 (116, ⟨.fn, 1, 8, [.nilfn], none, []⟩),
 (117, ⟨.fn, 1, 8, [.nilfn], none, []⟩),
 (118, ⟨.fn, 1, 8, [.nilfn], none, []⟩),
 (119, ⟨.fn, 1, 8, [.nilfn], none, []⟩),
 (120, ⟨.fn, 1, 8, [.nilfn], none, []⟩),
 (121, ⟨.fn, 1, 8, [.nilfn], none, []⟩),
 (122, ⟨.fn, 1, 8, [.nilfn], none, []⟩),
 (123, ⟨.fn, 1, 8, [.nilfn], none, []⟩),
 (125, ⟨.fn, 1, 8, [.nilfn], none, []⟩),
 (126, ⟨.fn, 1, 8, [.nilfn], none, []⟩),
 (128, ⟨.st [(3, 0), (4, 1), (22, 2), (3, 3)], 4, 48, [.int .i64 0, .bool false, .zsl (.st [.str, .str]), .int .i64 0], some (.st [(.int .i64), .bool, (.sl (.st [.str, .str])), (.int .i64)]), []⟩),
 (129, ⟨.ptr 128, 1, 8, [.nilp], none, []⟩),
 (130, ⟨.ptr 83, 1, 8, [.nilp], none, [("bookend/model.drop", 85), ("bookend/model.give", 84), ("bookend/model.live", 72), ("bookend/model.look", 95)]⟩),
 (131, ⟨.ptr 22, 1, 8, [.nilp], some (.raw 0), []⟩),
 (133, ⟨.st [(3, 0), (131, 1)], 2, 16, [.int .i64 0, .nilp], some (.st [(.int .i64), (.raw 0)]), []⟩),
 (134, ⟨.ptr 86, 1, 8, [.nilp], none, [("bookend/model.drop", 83), ("bookend/model.give", 76), ("bookend/model.live", 73), ("bookend/model.look", 99)]⟩),
 (136, ⟨.st [(3, 0), (114, 1)], 2, 16, [.int .i64 0, .nilp], some (.st [(.int .i64), (.raw 1)]), []⟩),
 (137, ⟨.ptr 133, 1, 8, [.nilp], none, []⟩),
 (139, ⟨.fn, 1, 8, [.nilfn], none, []⟩),
 (140, ⟨.fn, 1, 8, [.nilfn], none, []⟩),
 (141, ⟨.fn, 1, 8, [.nilfn], none, []⟩),
 (142, ⟨.ptr 136, 1, 8, [.nilp], none, []⟩),
 (144, ⟨.fn, 1, 8, [.nilfn], none, []⟩),
 (145, ⟨.fn, 1, 8, [.nilfn], none, []⟩),
 (146, ⟨.fn, 1, 8, [.nilfn], none, []⟩),
 (147, ⟨.int .u64, 1, 8, [.int .u64 0], some (.int .u64), []⟩),
 (148, ⟨.sl 9, 1, 24, [.zsl .str], some (.sl .str), []⟩),
 (149, ⟨.fn, 1, 8, [.nilfn], none, []⟩),
 (150, ⟨.fn, 1, 8, [.nilfn], none, []⟩),
 (156, ⟨.fn, 1, 8, [.nilfn], none, []⟩),
 (157, ⟨.int .u32, 1, 4, [.int .u32 0], some (.int .u32), []⟩),
 (160, ⟨.fn, 1, 8, [.nilfn], none, []⟩),
 (161, ⟨.ptr 5, 1, 8, [.nilp], none, []⟩)]
theorem tbOk : TbOk Try.prog tb := TbOk.of_all (by kernel_rfl)
noncomputable def fns : List (FuncId × Func) := [(3, Try.f3), (4, Try.f4), (5, Try.f5), (6, Try.f6), (7, Try.f7), (8, Try.f8), (9, Try.f9), (10, Try.f10), (11, Try.f11), (12, Try.f12), (13, Try.f13), (14, Try.f14), (15, Try.f15), (16, Try.f16), (17, Try.f17), (18, Try.f18), (19, Try.f19), (20, Try.f20), (21, Try.f21), (22, Try.f22), (23, Try.f23), (24, Try.f24), (25, Try.f25), (26, Try.f26), (27, Try.f27), (28, Try.f28), (29, Try.f29), (30, Try.f30), (31, Try.f31), (32, Try.f32), (33, Try.f33), (34, Try.f34), (35, Try.f35), (36, Try.f36), (37, Try.f37), (38, Try.f38), (39, Try.f39), (40, Try.f40), (41, Try.f41), (42, Try.f42), (43, Try.f43), (44, Try.f44), (45, Try.f45), (46, Try.f46), (47, Try.f47), (48, Try.f48), (49, Try.f49), (50, Try.f50), (51, Try.f51), (52, Try.f52), (53, Try.f53), (54, Try.f54), (55, Try.f55), (56, Try.f56), (57, Try.f57), (58, Try.f58), (59, Try.f59), (60, Try.f60), (61, Try.f61), (62, Try.f62), (63, Try.f63), (64, Try.f64), (65, Try.f65), (66, Try.f66), (67, Try.f67), (68, Try.f68), (69, Try.f69), (70, Try.f70), (71, Try.f71), (72, Try.f72), (73, Try.f73), (74, Try.f74), (75, Try.f75), (76, Try.f76), (77, Try.f77), (78, Try.f78), (79, Try.f79), (80, Try.f80), (81, Try.f81), (82, Try.f82), (83, Try.f83), (84, Try.f84), (85, Try.f85), (86, Try.f86), (87, Try.f87), (88, Try.f88), (89, Try.f89), (90, Try.f90), (91, Try.f91), (92, Try.f92), (93, Try.f93), (94, Try.f94), (95, Try.f95), (96, Try.f96), (97, Try.f97), (98, Try.f98), (99, Try.f99), (100, Try.f100), (101, Try.f101), (102, Try.f102), (103, Try.f103)]
end Go.Proofs.Ytbbklijmnknmhaa
namespace Go.Proofs.Ytbbklijmnknmhaa
open Av

theorem mixed : Try.prog.follows .mixedOrders = true := by kernel_rfl
noncomputable def cx0 : Cx := ⟨tb, [], []⟩
abbrev entT : Ty := .st [.str, .str, .bool, .int .i64]

theorem take_succ_all {α : Type} {p : α → Prop} {l : List α} {i : Nat} {x : α} (h : ∀ y ∈ l.take i, p y) (hx : l[i]? = some x) (hp : p x) : ∀ y ∈ l.take (i + 1), p y := by
 intro y hy
 rw [List.take_add_one, hx] at hy
 rcases List.mem_append.1 hy with h1 | h1
 ·exact h y h1
 ·simp at h1; subst h1; exact hp
end Go.Proofs.Ytbbklijmnknmhaa
namespace Bk
open Go
theorem bl_irrefl : ∀ a : List UInt8, Op.bytesLess a a = false
 | [] => rfl
 | a :: x => by
  have := bl_irrefl x
  simp [Op.bytesLess, this]
theorem bl_trans : ∀ a b c : List UInt8, Op.bytesLess a b = true → Op.bytesLess b c = true → Op.bytesLess a c = true
 | _, _, [], _, h2 => by cases ‹List UInt8› <;> simp [Op.bytesLess] at h2
 | _, [], _ :: _, h1, _ => by simp [Op.bytesLess] at h1
 | [], _ :: _, _ :: _, _, _ => rfl
 | a :: x, b :: y, c :: z, h1, h2 => by
  simp only [Op.bytesLess, Bool.or_eq_true, Bool.and_eq_true, decide_eq_true_eq, beq_iff_eq] at h1 h2 ⊢
  rcases h1 with h1 | ⟨rfl, h1⟩
  ·rcases h2 with h2 | ⟨rfl, h2⟩
   ·exact .inl (UInt8.lt_trans h1 h2)
   ·exact .inl h1
  ·rcases h2 with h2 | ⟨rfl, h2⟩
   ·exact .inl h2
   ·exact .inr ⟨rfl, bl_trans x y z h1 h2⟩
theorem bl_total : ∀ a b : List UInt8, Op.bytesLess a b = false → Op.bytesLess b a = false → a = b
 | [], [], _, _ => rfl
 | [], _ :: _, h, _ => by simp [Op.bytesLess] at h
 | _ :: _, [], _, h => by simp [Op.bytesLess] at h
 | a :: x, b :: y, h1, h2 => by
  simp only [Op.bytesLess, Bool.or_eq_false_iff, Bool.and_eq_false_iff, decide_eq_false_iff_not, beq_eq_false_iff_ne] at h1 h2
  have hab : a = b := UInt8.le_antisymm (UInt8.not_lt.1 h2.1) (UInt8.not_lt.1 h1.1)
  subst hab
  rw [bl_total x y (h1.2.resolve_left (by simp)) (h2.2.resolve_left (by simp))]
end Bk
namespace Bk
open Go

end Bk
namespace Go.Proofs.Ytbbklijmnknmhaa
open Av Bk

theorem cast_self {t : Ty} (h : t = t) (l : List t.El) : (h ▸ l : List t.El) = l := rfl
theorem sEq_refl (a : ByteArray) : sEq a a = true := by simp [sEq]
def sameL (t : Ty) : List t.El → List t.El → Bool
 | [], [] => true
 | x :: a, y :: b => eqT t x y && sameL t a b
 | _, _ => false
theorem bnt {b : Bool} (h : (!b) = true) : b = false := by simpa using h
theorem bnf {b : Bool} (h : (!b) = false) : b = true := by simpa using h
theorem same_len {t : Ty} : ∀ {a b : List t.El}, a.length ≠ b.length → sameL t a b = false
 | [], [], h => absurd rfl h
 | [], _ :: _, _ => rfl
 | _ :: _, [], _ => rfl
 | x :: a, y :: b, h => by
  rw [sameL, same_len (a := a) (b := b) (fun e => h (by simp [e]))]
  simp
theorem same_step {t : Ty} {x y : t.El} : ∀ {i : Nat} {a b : List t.El}, a[i]? = some x → b[i]? = some y → sameL t (a.drop i) (b.drop i) = (eqT t x y && sameL t (a.drop (i + 1)) (b.drop (i + 1)))
 | 0, u :: a, v :: b, hx, hy => by cases hx; cases hy; rfl
 | i + 1, u :: a, v :: b, hx, hy => same_step (i := i) (a := a) (b := b) (by simpa using hx) (by simpa using hy)
 | _, [], _, hx, _ => by simp at hx
 | _, _ :: _, [], _, hy => by simp at hy
theorem same_end {t : Ty} {a b : List t.El} {i : Nat} (h : a.length ≤ i) (hb : b.length ≤ i) : sameL t (a.drop i) (b.drop i) = true := by
 rw [List.drop_eq_nil_of_le h, List.drop_eq_nil_of_le hb]
 rfl
theorem tup_eq {a b : Int} {p : Int × Int} (h : p = (a, b)) : AV.tup [.int .i64 a, .int .i64 b] = AV.tup [.int .i64 p.1, .int .i64 p.2] := by rw [h]
end Go.Proofs.Ytbbklijmnknmhaa
