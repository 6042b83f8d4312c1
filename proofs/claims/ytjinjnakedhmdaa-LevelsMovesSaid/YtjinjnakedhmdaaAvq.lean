/-
  An abstract reading of values and memory: code and functions do what is reckoned.
  An abstract reading of values and memory: functions do what is reckoned.
  An abstract reading of values and memory: helps for those who reckon.
-/
import Derived.Test.YtjinjnakedhmdaaAvx
import Derived.Calls
import Derived.Defers
import Derived.Laws.Sem
namespace Av
open Go

def drawsOk : Code → Bool
  | .region _ ops d => match d with | true => drawOk ops || manyS ops | false => true
  | .seq a b => drawsOk a && drawsOk b
  | .cond _ a b => drawsOk a && drawsOk b
  | .block _ c => drawsOk c
  | .loop c => drawsOk c
  | .scope c => drawsOk c
  | _ => true
def PostQ (P : Program) (b : Bool) (s : St) (N : Nat) (ds : List Deferred) (K : Tr → Hp → Prop) (X : Nat → Tr → Hp → Prop) (Rt : Tr → Hp → Prop) : Exit → Act → World → Prop
  | .normal, a, w => PostM P b s N ds K a w
  | .exit i, a, w => PostM P b s N ds (X i) a w
  | .ret, a, w => PostM P b s N ds Rt a w
  | _, _, _ => False
theorem PostM.here {P : Program} {b : Bool} {s : St} {N : Nat} {K : Tr → Hp → Prop} {f : Tr} {a : Act} (hok : Ok s) (hf : FR s f.get a) (hN : a.tmps.size = N) (h : K f s.h) : PostM P b s N a.defers K a s.w :=
  ⟨⟨s, f, [], rfl, Step.refl s, hok, hf, h, rfl, Mks.nil _ _⟩, hN⟩
section
variable {P : Program}
theorem keep_cut (s : St) (L : Nat) : Keep s (s.cut L) := ⟨Nat.le_refl _, fun _ hn => cut_Own hn, fun _ _ _ hc => hc⟩
theorem iter_sim {s st : St} (hst : Step s st) {w1 : World} (hs1 : w1.heap.size = s.w.heap.size + 2) (hlow : ∀ b, b < s.w.heap.size → w1.heap[b]? = s.w.heap[b]?) {o o' u u' : Obj} (h1 : w1.heap[s.w.heap.size]? = some u) (h2 : w1.heap[s.w.heap.size + 1]? = some u') (hu : u.isCells = false) (hu' : u'.isCells = false)
    (hD : Book st s.w.heap.size o) (hL : Book st (s.w.heap.size + 1) o') : Sim (s.world w1) st where
  size := by show w1.heap.size ≤ _; have := hL.lt; omega
  kn := hst.kn
  ro := fun {b} hb hn => by
    have hb : b < w1.heap.size := hb
    by_cases h : b < s.w.heap.size
    · exact hst.ro h hn
    · by_cases e : b = s.w.heap.size
      · rw [e]; exact hD.own
      · have : b = s.w.heap.size + 1 := by omega
        rw [this]; exact hL.own
  cell := fun {b} hn {i v} hc => by
    have hc : w1.cell? ⟨b, i, none⟩ = some v := hc
    have hb : b < w1.heap.size := World.block_lt_of_cell? w1 ⟨b, i, none⟩ hc
    by_cases h : b < s.w.heap.size
    · refine hst.cell hn ?_
      rw [← World.cell?_of_block (w := s.w) (w' := w1) (a := ⟨b, i, none⟩) (hlow b h)]
      exact hc
    · by_cases e : b = s.w.heap.size
      · subst e; exact absurd hc (noncell h1 hu)
      · have e : b = s.w.heap.size + 1 := by omega
        subst e; exact absurd hc (noncell h2 hu')
  cells := hst.cells
  oth := hst.oth
  arr := hst.arr
set_option maxHeartbeats 1000000 in
theorem rangeQ_ok {b : Bool} {C : Cx} (hT : TbOk P C.tb) (hD : SpecsOk P C.specs) {call : CallA} (hcall : CallOk P call) {N : Nat} {g : Operand} {ps : Array Tmp} {asn bd : Code} (hs : okCode N (.rangeFunc g ps asn bd) = true) {K : Tr → Hp → Prop} {X : Nat → Tr → Hp → Prop} {Rt : Tr → Hp → Prop} {f : Tr} {s : St} {a : Act}
    (hok : Ok s) (hf : FR s f.get a) (hN : a.tmps.size = N) {gf : FuncId} {caps : List AV} {p : Tmp} {sp : ISpec} (hgv : R s (.fn (.func gf) [] caps) (a.eval g)) (hps : ps.toList = [p]) (hpl : (plainR asn && plainR bd) = true) (hsp : lks C.specs gf = some (.i sp))
    (h : rangeQ sp caps p (fun K X Rt f h => codeA C call asn (fun f h => codeA C call bd K X Rt f h) (fun _ _ _ => False) (fun _ _ => False) f h) K X Rt f s.h) : (Code.rangeFunc g ps asn bd).wp P (PostQ P b s N a.defers K X Rt) a s.w := by
      obtain ⟨pr, r, J, hsp1, hpr, h0, hb, hK⟩ := h
      obtain ⟨hent, hit⟩ : IterOk P gf sp := hD gf _ hsp
      simp only [Bool.and_eq_true] at hpl
      simp only [okCode, Bool.and_eq_true] at hs
      obtain ⟨⟨hs0, hs1⟩, hs2⟩ := hs
      rw [hps] at hs0
      have hpN : p < N := by simpa using hs0
      have hps' : ps = #[p] := by have := congrArg List.toArray hps; simpa using this
      simp only [R, RL] at hgv
      obtain ⟨_, ys, hv, rfl, hys⟩ := hgv
      refine wpIn_wide (n := 2).1 (wpIn_rangeFunc fun fn _ => ?_)
      obtain ⟨rec, hrec⟩ : ∃ rec : LoopState → Option Code → Loop, rec = fun st pe => { state := st, pending := pe, fn, tmps := a.tmps, params := ps, assign := asn, body := bd, defers := s.w.heap.size } := ⟨_, rfl⟩
      obtain ⟨W1, hW1⟩ : ∃ W1, (s.w.alloc (.deferred (some []))).alloc (.loop (rec .ready none)) = W1 := ⟨_, rfl⟩
      have hL1 : W1.heap[s.w.heap.size + 1]? = some (.loop (rec .ready none)) := by
        rw [← hW1]; have := World.alloc_heap_new (s.w.alloc (.deferred (some []))) (.loop (rec .ready none)); rwa [World.size_alloc] at this
      have hD1 : W1.heap[s.w.heap.size]? = some (.deferred (some [])) := by
        rw [← hW1]; exact (heap_alloc_old _ _ (by simp)).trans (World.alloc_heap_new s.w _)
      have hz1 : W1.heap.size = s.w.heap.size + 2 := by rw [← hW1]; simp
      have hg1 : Grew s.w (s.w.alloc (.deferred (some []))) := Grew.alloc _ _
      have hg2 : Grew (s.w.alloc (.deferred (some []))) W1 := by rw [← hW1]; exact Grew.alloc _ _
      have hst1 : Step s (s.world W1) := (St.world_step (s := s) hg1).trans (St.world_step (s := s.world (s.w.alloc (.deferred (some [])))) hg2)
      have hok1 : Ok (s.world W1) := St.world_ok (s := s.world (s.w.alloc (.deferred (some [])))) (St.world_ok hok hg1) hg2
      have hnew : ∀ b, s.w.heap.size ≤ b → ¬ Own (s.world W1) b := by
        rintro b hb (h1 | h1)
        · exact absurd (hok.fb b h1) (by omega)
        · have h1 : OwnI s b := h1
          exact absurd (own_lt hok h1) (by omega)
      have bD1 : Book (s.world W1) s.w.heap.size (.deferred (some [])) := ⟨hD1, rfl, hnew _ (Nat.le_refl _)⟩
      have bL1 : Book (s.world W1) (s.w.heap.size + 1) (.loop (rec .ready none)) := ⟨hL1, rfl, hnew _ (Nat.le_succ _)⟩
      have hlow : ∀ b, b < s.w.heap.size → W1.heap[b]? = s.w.heap[b]? := fun b hb => (hg2.block b (by simp; omega)).trans (hg1.block b hb)
      obtain ⟨fn0, c0, hget, hname, hbody⟩ := hent
      have hent : Enters P gf := ⟨fn0, c0, hget, hname, hbody⟩
      refine ⟨s.w.heap.size + 1, [{ target := .collected s.w.heap.size, args := #[] }], W1, { target := .fn (.func gf) ys.toArray, args := #[.func (.yield (s.w.heap.size + 1)) #[] #[]] }, W1, gf,
        #[.func (.yield (s.w.heap.size + 1)) #[] #[]] ++ ys.toArray, W1, ?_, ?_, fun _ _ => trivial, ?_, (fun e => by cases e), ?_⟩
      · rw [← hW1, hrec]; exact run_enterLoop_outer _ _ _ _ _
      · simp only [resolve, rangeCall, hv]
        simp [Deferred.ofValue, Sem.run_pure, Act.eval]
      · simp only [invoke]
        exact enter_run hent _ _
      · have key := hit (s.world W1) caps pr r ys (s.w.heap.size + 1)
          (fun k st => Step s st ∧ Ok st ∧ J k st.h ∧ Book st (s.w.heap.size + 1) (.loop (rec .ready none)) ∧ Book st s.w.heap.size (.deferred (some [])))
          (fun st => Step s st ∧ Ok st ∧ (∃ c, Book st (s.w.heap.size + 1) (.loop (rec .done (some c))) ∧ (match c with | .ret => Rt f st.h | .exit i => X i f st.h | _ => False)) ∧ Book st s.w.heap.size (.deferred (some [])))
          hok1 (RL_mono hst1 _ _ hys) hsp1 hpr ⟨hst1, hok1, h0, bL1, bD1⟩ (fun k st ⟨q1, q2, q3, q4, q5⟩ => ⟨q2, iter_sim q1 hz1 hlow hD1 hL1 rfl rfl q5 q4⟩) (fun k st w' ⟨q1, q2, q3, q4, q5⟩ hg => ⟨q1.trans (St.world_step hg), St.world_ok q2 hg, q3, q4.step (St.world_step hg), q5.step (St.world_step hg)⟩) ?_
        · refine CallsIn.mono key ?_
          rintro e W' ⟨⟨v, rfl⟩, (⟨st, rfl, q1, q2, q3, q4, q5⟩ | ⟨st, rfl, q1, q2, ⟨c, q4, q3⟩, q5⟩)⟩
          · refine ⟨none, _, (by have := run_endLoop (P := P) q4.at_ (by rw [hrec]; simp); rw [hrec] at this; exact this), ?_⟩
            have hst2 := book_step q1 (o' := .loop { rec .ready none with state := .exhausted }) q4 (Nat.le_succ _)
            rw [hrec] at hst2 q4
            exact ⟨⟨_, f, [_], rfl, hst2, book_ok q2 q4, fun t => R_mono hst2 _ _ (hf t), hK _ q3, rfl, ⟨fun d hd => .inl ⟨s.w.heap.size, by simpa using hd, Nat.le_refl _, book_other q5 (by omega)⟩, by simp⟩⟩, hN⟩
          · refine ⟨some c, _, (by have := run_endLoop (P := P) q4.at_ (by rw [hrec]; simp); rw [hrec] at this; exact this), ?_⟩
            have hst2 := book_step q1 (o' := .loop { rec .done (some c) with state := .exhausted }) q4 (Nat.le_succ _)
            rw [hrec] at hst2 q4
            have fin : ∀ {K2 : Tr → Hp → Prop}, K2 f st.h → PostM P b s N a.defers K2 { a with defers := [{ target := .collected s.w.heap.size, args := #[] }] ++ a.defers } _ := fun hk =>
              ⟨⟨_, f, [_], rfl, hst2, book_ok q2 q4, fun t => R_mono hst2 _ _ (hf t), hk, rfl, ⟨fun d hd => .inl ⟨s.w.heap.size, by simpa using hd, Nat.le_refl _, book_other q5 (by omega)⟩, by simp⟩⟩, hN⟩
            cases c with
            | ret => exact wpIn_ret (fin (K2 := Rt) q3)
            | exit i => exact wpIn_exit (fin (K2 := X i) q3)
            | _ => exact q3.elim
        · rintro k st x cv ⟨q1, q2, q3, q4, q5⟩ hx hR
          have hy := run_yield (P := P) (args := #[cv]) q4.at_ (by rw [hrec, hps']; rfl)
          rw [hrec] at hy
          refine ⟨fn, _, asn, bd, hy, roundIn_of_wpIn trivial ?_⟩
          have htm : (ps.zip #[cv]).foldl (fun tmps (t, a) => tmps.setIfInBounds t a) a.tmps = (a.put (some p) cv).tmps := by rw [hps']; simp [Act.put]
          show asn.wpIn (Fence.wide.inRound _) 0 P _ { tmps := (ps.zip #[cv]).foldl (fun tmps (t, a) => tmps.setIfInBounds t a) a.tmps, defers := [] } st.w
          rw [htm]
          have hf1 : FR st (f.set p (avV r.t x)).get { tmps := (a.put (some p) cv).tmps, defers := [] } := fun t => (hf.put q1 (by rw [hN]; exact hpN) hR) t
          have hbk := hb k x st.h hx q3
          rw [Tr.setK_eq] at hbk
          refine wpIn_mono (codeR_ok (r := s.w.heap.size + 1) (n := 0) hT hD hcall asn hs1 hpl.1 _ _ _ _ st _ q2 hf1 (by rw [put_size]; exact hN) hbk) ?_
          intro e a1 w1 hq
          cases e with
          | normal =>
            obtain ⟨⟨s2, f2, rfl, u2, u3, u4, u5⟩, u6, u7⟩ := hq
            have bL2 := q4.step u2
            have bD2 := q5.step u2
            refine ⟨_, run_beginRound (P := P) bL2.at_ (by rw [hrec]), ?_⟩
            have sim3 : Sim s2 (s2.world (s2.w.putObj (s.w.heap.size + 1) (.loop { rec .ready none with state := .busy }))) := book_sim bL2
            have ok3 := book_ok (o' := .loop { rec .ready none with state := .busy }) u3 bL2
            have st3 := book_step (o' := .loop { rec .ready none with state := .busy }) (q1.trans u2) bL2 (Nat.le_succ _)
            have bL3 := book_put (o' := .loop { rec .ready none with state := .busy }) bL2 rfl
            have bD3 := book_other (u := .loop { rec .ready none with state := .busy }) bD2 (show s.w.heap.size ≠ s.w.heap.size + 1 by omega)
            refine wpIn_mono (codeR_ok (r := s.w.heap.size + 1) (n := 0) hT hD hcall bd hs2 hpl.2 _ _ _ f2 (s2.world (s2.w.putObj (s.w.heap.size + 1) (.loop { rec .ready none with state := .busy }))) a1 ok3 (fun t => R_sim sim3 _ _ (u4 t)) u7 u5) ?_
            intro e a4 w4 hq4
            cases e with
            | normal =>
              obtain ⟨⟨s40, f40, rfl, v20, v30, v40, ⟨nzb, hbk4⟩⟩, _, _⟩ := hq4
              obtain ⟨s4, f4, v21, v3, v4, hw4, v5, v6⟩ := normK_ok nzb f40 s40 _ v30 v40 hbk4
              have v2 := v20.trans v21
              rw [← hw4]
              have bL4 := bL3.step v2
              have bD4 := bD3.step v2
              have hend := run_endRound (P := P) none bL4.at_
              refine ⟨_, _, hend, .inl ⟨rfl, (s4.world _).cut s.h.length, rfl, ⟨cut_step (book_step (st3.trans v2) bL4 (Nat.le_succ _)) (Nat.le_refl _), cut_ok (book_ok v3 bL4) ((cutOk_spec v5).2), v6, ?_, ?_⟩, (((u2.sim.keep.trans sim3.keep).trans v2.sim.keep).trans (book_sim bL4).keep).trans (keep_cut _ _)⟩⟩
              · have := (book_put (o' := .loop { { rec .ready none with state := .busy } with state := .ready, pending := none }) bL4 rfl).cut s.h.length
                rw [hrec] at this ⊢
                exact this
              · exact (book_other bD4 (by omega)).cut _
            | ret =>
              obtain ⟨⟨s4, f4, rfl, v2, v3, v4, v5⟩, _, _⟩ := hq4
              have bL4 := bL3.step v2
              have bD4 := bD3.step v2
              have hend := run_endRound (P := P) (some .ret) bL4.at_
              refine ⟨_, _, hend, .inr ⟨rfl, s4.world _, rfl, book_step (st3.trans v2) bL4 (Nat.le_succ _), book_ok v3 bL4, ⟨.ret, ?_, v5⟩, book_other bD4 (by omega)⟩⟩
              have := book_put (o' := .loop { { rec .ready none with state := .busy } with state := .done, pending := some .ret }) bL4 rfl
              rw [hrec] at this ⊢
              exact this
            | exit i =>
              obtain ⟨⟨s4, f4, rfl, v2, v3, v4, v5⟩, _, _⟩ := hq4
              have bL4 := bL3.step v2
              have bD4 := bD3.step v2
              have hend := run_endRound (P := P) (some (.exit i)) bL4.at_
              refine ⟨_, _, hend, .inr ⟨rfl, s4.world _, rfl, book_step (st3.trans v2) bL4 (Nat.le_succ _), book_ok v3 bL4, ⟨.exit i, ?_, v5⟩, book_other bD4 (by omega)⟩⟩
              have := book_put (o' := .loop { { rec .ready none with state := .busy } with state := .done, pending := some (.exit i) }) bL4 rfl
              rw [hrec] at this ⊢
              exact this
            | goto l => exact hq4.elim
            | panic ch => exact hq4.elim
            | outgrown => exact hq4.elim
          | exit i => obtain ⟨⟨_, _, _, _, _, _, h⟩, _⟩ := hq; exact h.elim
          | ret => obtain ⟨⟨_, _, _, _, _, _, h⟩, _⟩ := hq; exact h.elim
          | goto l => exact hq.elim
          | panic ch => exact hq.elim
          | outgrown => exact hq.elim
theorem range_ok {b : Bool} {C : Cx} (hT : TbOk P C.tb) (hD : SpecsOk P C.specs) {call : CallA} (hcall : CallOk P call) {N : Nat} {g : Operand} {ps : Array Tmp} {asn bd : Code} (hs : okCode N (.rangeFunc g ps asn bd) = true) {K : Tr → Hp → Prop} {X : Nat → Tr → Hp → Prop} {Rt : Tr → Hp → Prop} {f : Tr} {s : St} {a : Act}
    (hok : Ok s) (hf : FR s f.get a) (hN : a.tmps.size = N) (h : codeA C call (.rangeFunc g ps asn bd) K X Rt f s.h) : (Code.rangeFunc g ps asn bd).wp P (PostQ P b s N a.defers K X Rt) a s.w := by
  rw [codeA_range] at h
  split at h
  · rename_i gf caps p hg hps hpl
    split at h
    · rename_i sp hsp
      obtain ⟨nz, h⟩ := h
      have hgv := ev_R hf g
      rw [hg] at hgv
      obtain ⟨s1, f1, hst, hok1, hf1, hw1, h1⟩ := normK_ok nz f s _ hok hf h
      have key := rangeQ_ok (b := b) hT hD hcall hs hok1 hf1 hN (R_mono hst _ _ hgv) hps hpl hsp h1
      rw [hw1] at key
      refine Code.wp_mono (fun e a2 w2 q => ?_) key
      have hm : Mks P b s.w.heap.size s1 [] := Mks.nil _ _
      cases e with
      | normal => exact PostM.trans hst hm q
      | exit i => exact PostM.trans hst hm q
      | ret => exact PostM.trans hst hm q
      | goto l => exact q
      | panic ch => exact q
      | outgrown => exact q
    · exact h.elim
  · exact h.elim
theorem codeA_ok {C : Cx} (hm : P.follows .mixedOrders = true) (hT : TbOk P C.tb) (hD : SpecsOk P C.specs) {call : CallA} (hcall : CallOk P call) {N : Nat} :
    ∀ (c : Code), okCode N c = true → drawsOk c = true → ∀ (b : Bool), (hasD c = true → b = true) → ∀ (K : Tr → Hp → Prop) (X : Nat → Tr → Hp → Prop) (Rt : Tr → Hp → Prop) (f : Tr) (s : St) (a : Act), Ok s → FR s f.get a → a.tmps.size = N →
      codeA C call c K X Rt f s.h → c.wp P (PostQ P b s N a.defers K X Rt) a s.w
  | .skip, _, _, b, hb, K, X, Rt, f, s, a, hok, hf, hN, h => wp_skip (PostM.here hok hf hN h)
  | .region id ops d, hs, hd, b, hb, K, X, Rt, f, s, a, hok, hf, hN, h => by
    have hops : ∀ o ∈ ops.toList, dstOk N o = true := by
      unfold okCode at hs
      exact List.all_eq_true.1 hs
    cases d with
    | false =>
      rw [codeA_reg] at h
      split at h
      · exact wp_region_list (opsA_ok hT hD hcall hops ops.toList hops s f a K hok hf hN h (fun a' w' hp => hp.m))
      · rename_i pre o hla
        have hap := lastD_app _ _ _ hla
        have hbt : b = true := hb (by simp only [hasD, hla])
        refine wp_region_list ?_
        rw [hap]
        refine wpList_snoc (Q' := fun e a2 w2 => match e with | .normal => Post s N a.defers (fun f h => match dfrM C.tb f h o with | some _ => K f h | none => False) a2 w2 | _ => False) (fun e a2 w2 hne h2 => by cases e <;> first | exact absurd rfl hne | exact h2.elim) (fun a2 w2 h2 => ?_) pre a s.w
          (opsA_ok hT hD hcall hops pre (fun o ho => hops o (by rw [hap]; exact List.mem_append_left _ ho)) s f a _ hok hf hN h (fun a' w' hp => hp))
        obtain ⟨⟨s2, f2, rfl, q2, q3, q4, q5⟩, q6, q7⟩ := h2
        have q5 : match dfrM C.tb f2 s2.h o with | some _ => K f2 s2.h | none => False := q5
        split at q5
        · rename_i id hdf
          unfold dfrM at hdf
          split at hdf
          · rename_i c hop hgd hdst
            split at hdf
            · rename_i x T hc hargs htys
              split at hdf
              · rename_i id' ti hx hl
                split at hdf
                · rename_i bm kt vt l hid
                  have ha : c.args = #[x] := by have := congrArg List.toArray hargs; simpa using this
                  have ht : c.argTypes = #[T] := by have := congrArg List.toArray htys; simpa using this
                  have hv := ev_R q4 x
                  rw [hx] at hv
                  have hv2 := hv
                  simp only [R] at hv2
                  obtain ⟨hσ, _⟩ := q3.obj _ _ hid
                  have he : a2.eval x = .map (some bm) := (hv2.2.2 _ hid).trans hσ
                  rw [he] at hv
                  obtain ⟨u, hu, _⟩ := (tb_und hT hl).und
                  unfold wpList
                  rw [if_pos (by simp [Region.wanted, hgd])]
                  left
                  unfold Oper.wp execOp
                  simp only [hop, resolve, hc, ha, ht, Sem.run_bind, Sem.run_pure, Result.andThen_ok]
                  rw [Oper.upon_defer, hdst]
                  refine ⟨⟨s2, f2, [_], rfl, q2, q3, fun t => q4 t, q5, by rw [← q6]; rfl, ⟨fun d hd => by
                    have hks : ∃ ks, d = { target := .builtin .clear #[T] o.type ks, args := #[.map (some bm)] } := ⟨_, (List.mem_singleton.1 hd).trans (congrArg (fun y => ({ target := .builtin .clear #[T] o.type _, args := y } : Deferred)) (show (#[x].map a2.eval) = #[.map (some bm)] by rw [← he]; simp))⟩
                    obtain ⟨ks, hks⟩ := hks
                    exact .inr ⟨hbt, id', bm, T, o.type, ks, u, hks, hu, hv, .inl ⟨_, hid⟩⟩, by simp⟩⟩, q7⟩
                · cases hdf
              · cases hdf
            · cases hdf
          · cases hdf
        · exact q5.elim
    | true => exact drawA_ok hm hT hD hcall hd hops hok hf hN h (fun a' w' hp => hp.m)
  | .seq x y, hs, hd, b, hb, K, X, Rt, f, s, a, hok, hf, hN, h => by
    simp only [okCode, drawsOk, Bool.and_eq_true] at hs hd
    refine wp_seq (Code.wp_mono ?_ (codeA_ok hm hT hD hcall x hs.1 hd.1 b (fun e => hb (by simp only [hasD, e, Bool.true_or])) _ X Rt f s a hok hf hN h))
    intro e a' w' hq
    cases e with
    | normal =>
      obtain ⟨⟨s2, f2, ms, h1, h2, h3, h4, h5, h6, h8⟩, h7⟩ := hq
      subst h1
      refine Code.wp_mono ?_ (codeA_ok hm hT hD hcall y hs.2 hd.2 b (fun e => hb (by simp only [hasD, e, Bool.or_true])) K X Rt f2 s2 a' h3 h4 h7 h5)
      intro e a2 w2 hq2
      rw [h6] at hq2
      cases e with
      | normal => exact PostM.trans h2 h8 hq2
      | exit i => exact PostM.trans h2 h8 hq2
      | ret => exact PostM.trans h2 h8 hq2
      | goto l => exact hq2
      | panic ch => exact hq2
      | outgrown => exact hq2
    | exit i => exact hq
    | ret => exact hq
    | goto l => exact hq
    | panic ch => exact hq
    | outgrown => exact hq
  | .cond c x y, hs, hd, b, hb, K, X, Rt, f, s, a, hok, hf, hN, h => by
    simp only [okCode, drawsOk, Bool.and_eq_true] at hs hd
    rw [codeA_cond] at h
    split at h
    · rename_i t ht
      have hr := ev_R hf c
      rw [ht] at hr
      simp only [R] at hr
      rcases br_elim h with ⟨rfl, hk⟩ | ⟨rfl, hk⟩
      · exact wp_cond_true hr (codeA_ok hm hT hD hcall x hs.1 hd.1 b (fun e => hb (by simp only [hasD, e, Bool.true_or])) K X Rt f s a hok hf hN hk)
      · exact wp_cond_false hr (codeA_ok hm hT hD hcall y hs.2 hd.2 b (fun e => hb (by simp only [hasD, e, Bool.or_true])) K X Rt f s a hok hf hN hk)
    · exact h.elim
  | .block id c, hs, hd, b, hb, K, X, Rt, f, s, a, hok, hf, hN, h => by
    simp only [okCode, drawsOk] at hs hd
    rw [codeA_block] at h
    refine wp_block (Code.wp_mono ?_ (codeA_ok hm hT hD hcall c hs hd b hb K _ Rt f s a hok hf hN h))
    intro e a' w' hq
    cases e with
    | normal => exact hq
    | exit i =>
      simp only [Exit.inBlock]
      by_cases hi : i = id
      · rw [if_pos hi]
        refine PostM.weaken hq (fun f h hk => ?_)
        subst hi
        simpa using hk
      · rw [if_neg hi]
        refine PostM.weaken hq (fun f h hk => ?_)
        have hb : Nat.beq i id = false := by
          cases hb : Nat.beq i id with
          | true => exact absurd (Nat.eq_of_beq_eq_true hb) hi
          | false => rfl
        have hk : (match Nat.beq i id with | true => K | false => X i) f h := hk
        rw [hb] at hk
        exact hk
    | ret => exact hq
    | goto l => exact hq
    | panic ch => exact hq
    | outgrown => exact hq
  | .loop c, hs, hd, b, hb, K, X, Rt, f, s, a, hok, hf, hN, h => by
    simp only [okCode, Bool.and_eq_true, Bool.not_eq_true'] at hs
    simp only [drawsOk] at hd
    obtain ⟨hs, hnd⟩ := hs
    have hbf : hasD c = true → false = true := fun e => by rw [hnd] at e; cases e
    rw [codeA_loop] at h
    obtain ⟨h⟩ := h
    suffices key0 : (Code.loop c).wp P (PostQ P false s N a.defers K X Rt) a s.w from Code.wp_mono (fun e a2 w2 q => by
      cases e with
      | normal => exact PostM.up q
      | exit i => exact PostM.up q
      | ret => exact PostM.up q
      | goto l => exact q
      | panic ch => exact q
      | outgrown => exact q) key0
    have pass : ∀ (e : Exit) (a' a2 : Act) (w2 : World) (s2 : St) (K2 : Tr → Hp → Prop) (ms : List Deferred), Step s s2 → a'.defers = ms ++ a.defers → Mks P false s.w.heap.size s2 ms → e ≠ .normal → PostQ P false s2 N a'.defers K2 X Rt e a2 w2 → PostQ P false s N a.defers K X Rt e a2 w2 := by
      intro e a' a2 w2 s2 K2 ms hst hde hms hne hq
      rw [hde] at hq
      cases e with
      | normal => exact absurd rfl hne
      | exit i => exact PostM.trans hst hms hq
      | ret => exact PostM.trans hst hms hq
      | goto l => exact hq
      | panic ch => exact hq
      | outgrown => exact hq
    rcases h with ⟨n, hn⟩ | ⟨nz, cs, J, μ, hnz⟩
    · refine wp_loop_rounds n ?_
      have key : ∀ (n : Nat) (f2 : Tr) (s2 : St) (a2 : Act) (ms : List Deferred), Step s s2 → Ok s2 → FR s2 f2.get a2 → a2.tmps.size = N → a2.defers = ms ++ a.defers → Mks P false s.w.heap.size s2 ms → turns n (fun K f h => codeA C call c K X Rt f h) f2 s2.h → Code.rounds P c (PostQ P false s N a.defers K X Rt) n a2 s2.w := by
        intro n
        induction n with
        | zero => intro f2 s2 a2 ms _ _ _ _ _ _ ht; exact ht.elim
        | succ n ih =>
          intro f2 s2 a2 ms hst hok2 hf2 hN2 hd2 hms ht
          simp only [turns] at ht
          simp only [Code.rounds]
          refine Code.wp_mono ?_ (codeA_ok hm hT hD hcall c hs hd false hbf _ X Rt f2 s2 a2 hok2 hf2 hN2 ht)
          intro e a3 w3 hq
          by_cases he : e = .normal
          · subst he
            obtain ⟨⟨s3, f3, ms3, h1, h2, h3, h4, h5, h6, h8⟩, h7⟩ := hq
            subst h1
            exact ih f3 s3 a3 (ms3 ++ ms) (hst.trans h2) h3 h4 h7 (by rw [h6, hd2, List.append_assoc]) (hms.app h2 hst.size h8) h5
          · have := pass e a2 a3 w3 s2 _ ms hst hd2 hms he hq
            cases e <;> first | exact absurd rfl he | exact this
      exact key n f s a [] (Step.refl s) hok hf hN rfl (Mks.nil _ _) hn
    · obtain ⟨s0, f0, hst0, hok0, hf0, hw0, hJ0, hround⟩ := normK_ok nz f s _ hok hf hnz
      have key : ∀ (m n : Nat), n < m → ∀ (vs : List AV) (s2 : St) (a2 : Act) (ms : List Deferred), Step s0 s2 → Ok s2 → FR s2 (sets (erase f0 (asg c)) cs vs).get a2 → a2.tmps.size = N → a2.defers = ms ++ a.defers → Mks P false s.w.heap.size s2 ms → vs.length = cs.length → J vs s2.h → μ vs s2.h = n → Code.rounds P c (PostQ P false s N a.defers K X Rt) m a2 s2.w := by
        intro m
        induction m with
        | zero => intro n hn; omega
        | succ m ih =>
          intro n hn vs s2 a2 ms hst hok2 hf2 hN2 hd2 hms hlen hJ hμ
          have hbr := hround vs s2.h hlen hJ
          rw [erase_eq, sets_eq] at hbr
          simp only [Code.rounds]
          refine Code.wp_mono ?_ (codeA_ok hm hT hD hcall c hs hd false hbf _ X Rt _ s2 a2 hok2 hf2 hN2 hbr)
          intro e a3 w3 hq
          by_cases he : e = .normal
          · subst he
            obtain ⟨⟨s1, f1, ms1, h1, h2, h3, h4, ⟨nzb, hbk⟩, h9, h11⟩, h10⟩ := hq
            subst h1
            have hms1 : Mks P false s.w.heap.size s1 (ms1 ++ ms) := hms.app h2 (hst0.trans hst).size h11
            obtain ⟨s3, f3, hst1, h3, h4, hw1, ⟨h5, h6, h7, h8⟩⟩ := normK_ok nzb f1 s1 _ h3 h4 hbk
            rw [← hw1]
            replace hms1 := (hms1.step hst1).cut s0.h.length
            replace h2 := h2.trans hst1
            obtain ⟨hc1, hc2⟩ := cutOk_spec h6
            have hst3 : Step s0 s3 := hst.trans h2
            have hfr : FR (s3.cut s0.h.length) (erase f0 (asg c)).get a3 := by
              intro t
              rw [erase_get]
              by_cases ht : t ∈ asg c
              · rw [if_pos ht]; simp only [R]
              · rw [if_neg ht]
                have e1 := congrArg (fun f => f.get t) h5
                simp only [erase_get, if_neg ht] at e1
                have hr := h4 t
                rw [e1] at hr
                refine R_cut _ _ hr (fun id hid => kn_lt ?_)
                exact ids_kn _ _ id (hf0 t) hid
            refine ih (μ (cs.map fun c => viewB s0.h.length s3.h (f3.get c)) (s3.h.take s0.h.length)) (by omega) (cs.map fun c => viewB s0.h.length s3.h (f3.get c)) (s3.cut s0.h.length) a3 (ms1 ++ ms) (cut_step hst3 (Nat.le_refl _)) (cut_ok h3 hc2) ?_ h10 (by rw [h9, hd2, List.append_assoc]) hms1 (by simp) h7 rfl
            refine FR.sets cs _ _ hfr (fun i c v hc hv => ?_)
            rw [List.getElem?_map, hc] at hv
            cases hv
            refine viewB_R h3 (h4 c) (fun id hid => hc1 id (idsVs_mem (c := viewB s0.h.length s3.h (f3.get c)) (List.mem_map.2 ⟨c, List.mem_of_getElem? hc, rfl⟩) hid))
          · have := pass e a2 a3 w3 s2 _ ms (hst0.trans hst) hd2 hms he hq
            cases e <;> first | exact absurd rfl he | exact this
      have hfr0 : FR s0 (sets (erase f0 (asg c)) cs (cs.map f0.get)).get a := by
        refine FR.sets cs _ _ (fun t => ?_) (fun i c v hc hv => ?_)
        · rw [erase_get]
          by_cases ht : t ∈ asg c
          · rw [if_pos ht]; simp only [R]
          · rw [if_neg ht]; exact hf0 t
        · rw [List.getElem?_map, hc] at hv
          cases hv
          exact hf0 c
      rw [← hw0]
      exact wp_loop_rounds (μ (cs.map f0.get) s0.h + 1) (key _ _ (Nat.lt_succ_self _) (cs.map f0.get) s0 a [] (Step.refl s0) hok0 hfr0 hN rfl (Mks.nil _ _) (by simp) hJ0 rfl)
  | .exit id, _, _, b, hb, K, X, Rt, f, s, a, hok, hf, hN, h => wp_exit (show PostM P b s N a.defers (X id) a s.w from PostM.here hok hf hN h)
  | .scope c, hs, hd, b, hb, K, X, Rt, f, s, a, hok, hf, hN, h => by
    simp only [okCode, drawsOk] at hs hd
    rw [codeA_scope] at h
    refine wp_scope_straight (Code.wp_mono ?_ (codeA_ok hm hT hD hcall c hs hd b hb K X Rt f s a hok hf hN h))
    intro e a' w' hq
    cases e <;> exact hq
  | .label l, _, _, b, hb, K, X, Rt, f, s, a, hok, hf, hN, h => wp_label (show PostM P b s N a.defers K a s.w from PostM.here hok hf hN h)
  | .ret, _, _, b, hb, K, X, Rt, f, s, a, hok, hf, hN, h => wp_ret (show PostM P b s N a.defers Rt a s.w from PostM.here hok hf hN h)
  | .rangeFunc g ps asn bd, hs, _, b, hb, K, X, Rt, f, s, a, hok, hf, hN, h => range_ok hT hD hcall hs hok hf hN h
  | .goto _, _, _, _, _, _, _, _, _, _, _, _, _, _, h => False.elim h
  | .refuse _, _, _, _, _, _, _, _, _, _, _, _, _, _, h => False.elim h
end
end Av
namespace Av
open Go

section
variable {P : Program} {tb : Tb}
theorem results_list (hT : TbOk P tb) {s : St} (hok : Ok s) {f : Tr} {a : Act} (hf : FR s f.get a) {F : ResultVar → Sem Value} (hF : ∀ t, F (.tmp t) = pure (a.tmps.getD t undef)) (hF2 : ∀ x t, F (.cell x t) = (do loadVar t (← asAddr (a.tmps.getD x undef)))) : ∀ (rs : List ResultVar) (k : List AV → Prop), resAs tb f s.h k rs →
    ∃ vs cvs, (rs.mapM F).run P s.w = .ok cvs s.w ∧ RL s vs cvs ∧ k vs
  | [], k, h => ⟨[], [], by simp, by simp only [RL], h⟩
  | r :: rs, k, h => by
    have one : ∃ v cv, (F r).run P s.w = .ok cv s.w ∧ R s v cv ∧ resAs tb f s.h (fun vs => k (v :: vs)) rs := by
      cases r with
      | tmp t => exact ⟨f.get t, a.tmps.getD t undef, by rw [hF]; rfl, hf t, h⟩
      | cell x T =>
        simp only [resAs, resA] at h
        split at h
        · rename_i ti id off hl hx
          split at h
          · rename_i T' cs hc
            split at h
            · rename_i v hv
              have hr := hf x
              rw [hx] at hr
              simp only [R] at hr
              obtain ⟨_, b, hp, hσ⟩ := hr
              have hσ := hσ _ _ hc
              obtain ⟨b', hσ', hrc⟩ := cells_RC hok hc
              rw [hσ] at hσ'
              cases hσ'
              obtain ⟨cv, hrun, hR⟩ := load_RC (P := P) hT hl hv (RC_drop off hrc)
              exact ⟨v, cv, by rw [hF2]; simp [hp, asAddr, hrun], hR, h⟩
            · exact h.elim
          · exact h.elim
        · exact h.elim
    obtain ⟨v, cv, h1, h2, h3⟩ := one
    obtain ⟨vs, cvs, h4, h5, h6⟩ := results_list hT hok hf hF hF2 rs _ h3
    refine ⟨v :: vs, cv :: cvs, ?_, by simp only [RL]; exact ⟨cv, cvs, rfl, h2, h5⟩, h6⟩
    rw [List.mapM_cons, Sem.run_bind, h1, Result.andThen_ok, Sem.run_bind, h4, Result.andThen_ok]
    rfl
theorem results_ok (hT : TbOk P tb) {s : St} (hok : Ok s) {f : Tr} {a : Act} (hf : FR s f.get a) {fn : Func} {K : AV → Hp → Prop} (h : retA tb fn.results.toList f s.h K) :
    ∃ v cv, (results fn a.tmps).run P s.w = .ok cv s.w ∧ R s v cv ∧ K v s.h := by
  unfold retA at h
  obtain ⟨F, hF, hF2, he⟩ : ∃ F : ResultVar → Sem Value, (∀ t, F (.tmp t) = pure (a.tmps.getD t undef)) ∧ (∀ x t, F (.cell x t) = (do loadVar t (← asAddr (a.tmps.getD x undef)))) ∧
      results fn a.tmps = (do let vs ← fn.results.mapM F; pure (if h : vs.size = 1 then vs[0] else .tuple vs)) := ⟨_, fun _ => rfl, fun _ _ => rfl, rfl⟩
  obtain ⟨vs, cvs, h1, h2, h3⟩ := results_list (P := P) hT hok hf hF hF2 _ _ h
  rw [he, Array.mapM_eq_mapM_toList, Sem.run_bind, map_eq_pure_bind, Sem.run_bind, h1]
  split at h3
  · rename_i v
    rw [force_eq] at h3
    simp only [RL] at h2
    obtain ⟨cv, l, rfl, h4, rfl⟩ := h2
    exact ⟨v, cv, by simp, h4, h3⟩
  · rename_i hne
    rw [force_eq] at h3
    refine ⟨.tup vs, .tuple cvs.toArray, ?_, by simp only [R]; exact ⟨cvs, rfl, h2⟩, h3⟩
    have hlen : cvs.length = vs.length := RL_vals h2
    have : cvs.length ≠ 1 := by
      intro h
      rw [hlen] at h
      obtain ⟨v, rfl⟩ := List.length_eq_one_iff.1 h
      exact hne v rfl
    simp [this]

/-- A function's code is as the reckoning needs it. -/
structure FnOk (P : Program) (g : FuncId) (fn : Func) : Prop where
  get : P.funcs[g]? = some fn
  name : (fn.name == "runtime.NumGoroutine") = false
  code : match fn.body with | some c => okCode fn.ntmps c = true ∧ drawsOk c = true | none => False
theorem FnOk.enters {g : FuncId} {fn : Func} (h : FnOk P g fn) : Enters P g := by
  have hc := h.code
  split at hc
  · rename_i c hb
    exact ⟨fn, c, h.get, h.name, hb⟩
  · exact hc.elim
theorem init_ok {s : St} {a : Act} : ∀ (vs : List AV) (cs : List Value) (n : Nat) (f : Tr) (k : Tr → Prop), RL s vs cs → FR s f.get a → (∀ i c, cs[i]? = some c → a.tmps.getD (n + i) undef = c) → initK f n vs k → ∃ f', FR s f'.get a ∧ k f'
  | [], cs, n, f, k, _, hf, _, h => ⟨f, hf, h⟩
  | v :: vs, cs, n, f, k, hl, hf, hg, h => by
    simp only [initK, force_eq, Tr.setK_eq] at h
    simp only [RL] at hl
    obtain ⟨c, cs', rfl, h1, h2⟩ := hl
    have h0 := hg 0 c rfl
    rw [Nat.add_zero] at h0
    refine init_ok vs cs' (n + 1) _ k h2 (hf.set (by rw [h0]; exact h1)) (fun i c' hc => ?_) h
    rw [show n + 1 + i = n + (i + 1) by omega]
    exact hg (i + 1) c' (by simpa using hc)
theorem mk_get : ∀ (d n : Nat), (Tr.mk d).get n = .any
  | 0, _ => rfl
  | d + 1, n => by
    cases n with
    | zero => rfl
    | succ n =>
      simp only [Tr.mk, Tr.get]
      split <;> exact mk_get d _
/-! ### A function leaves: marks of loops over iterators, and builtin functions that were put off -/
def LeavesB (P : Program) (fn : Func) (tmps : Array Value) (R : Value → World → Prop) : List Deferred → World → Prop
  | [], w => ∃ v, (results fn tmps).run P w = .ok v w ∧ R v w
  | d :: ds, w => (∃ r w', d.target = .collected r ∧ (Instr.takeDeferred r).run P w = .ok [] w' ∧ LeavesB P fn tmps R ds w') ∨
      (∃ b ts ty cs v w', d.target = .builtin b ts ty cs ∧ (Go.invoke d.target d.args).run P w = .ok (.value v) w' ∧ LeavesB P fn tmps R ds w')
theorem step_builtin {fr : Frame} {cs : List Frame} {w w' : World} {d : Deferred} {ds : List Deferred} {b : Builtin} {ts : Array TypeId} {ty : TypeId} {ks : Array Bool} {v : Value}
    (hm : fr.mode = .returning) (hd : fr.defers = d :: ds) (ht : d.target = .builtin b ts ty ks) (hi : (Go.invoke d.target d.args).run P w = .ok (.value v) w') :
    step P (lone fr cs w) = .next (lone { fr with defers := ds } cs w') := by
  obtain ⟨t, a⟩ := d
  simp only at ht hi
  subst ht
  refine step_lone_go ?_
  simp [stepG, unwind, callDeferred, hm, hd, hi]
theorem leaves_stepsB {fn : Func} {tmps : Array Value} {R : Value → World → Prop} : ∀ (ds : List Deferred) (w : World) (fr : Frame) (cs : List Frame), fr.mode = .returning → fr.defers = ds → fr.tmps = tmps → P.funcs[fr.fn]? = some fn → fr.kind = .normal → LeavesB P fn tmps R ds w →
    ∃ v w' fr', R v w' ∧ Comes P (lone fr cs w) (lone fr' cs w') (.returned v) ∧ fr'.fn = fr.fn ∧ fr'.leaving P w' (.returned v)
  | [], w, fr, cs, hu, hd, ht, hf, hk, h => by
    obtain ⟨v, hr, hR⟩ := h
    exact ⟨v, w, fr, hR, Steps.refl P _, rfl, hu, hd, hk, fn, hf, ht ▸ hr⟩
  | d :: ds, w, fr, cs, hu, hd, ht, hf, hk, h => by
    rcases h with ⟨r, w', htar, htake, hrest⟩ | ⟨b, ts, ty, ks, v, w', htar, hinv, hrest⟩
    · have h1 := step_collected (P := P) (cs := cs) (by rw [hu]; simp) hd htar htake
      obtain ⟨v, w2, fr', hR, hs, hfn, hl⟩ := leaves_stepsB ds w' { fr with defers := [] ++ ds } cs hu rfl ht hf hk hrest
      exact ⟨v, w2, fr', hR, Comes.of_steps (.one h1) hs, hfn, hl⟩
    · have h1 := step_builtin (P := P) (cs := cs) hu hd htar hinv
      obtain ⟨v, w2, fr', hR, hs, hfn, hl⟩ := leaves_stepsB ds w' { fr with defers := ds } cs hu rfl ht hf hk hrest
      exact ⟨v, w2, fr', hR, Comes.of_steps (.one h1) hs, hfn, hl⟩
def postB (P : Program) (fn : Func) (R : Value → World → Prop) : Exit → Act → World → Prop
  | .normal, a, w | .ret, a, w => LeavesB P fn a.tmps R a.defers w
  | _, _, _ => False
theorem calls_of_wpB {f : FuncId} {fn : Func} {c : Code} {args : Array Value} {w : World} {R : Value → World → Prop} (hf : P.funcs[f]? = some fn) (hb : fn.body = some c)
    (h : c.wp P (postB P fn R) { tmps := args ++ Array.replicate (fn.ntmps - args.size) undef, defers := [] } w) : Calls P f args w fun e w' => ∃ v, e = .returned v ∧ R v w' := by
  intro cs
  let b : Frame := { (default : Frame) with fn := f, kind := .normal }
  have henter : Frame.enter P f args .normal =
      b.at { tmps := args ++ Array.replicate (fn.ntmps - args.size) undef, defers := [] } [.code c] := by
    simp [Frame.enter, Frame.at, hf, hb, b]
  obtain ⟨e, a', w', hq, harr⟩ := h b [] cs
  rw [← henter] at harr
  cases e with
  | normal =>
    obtain ⟨v, w2, fr', hR, hs, hfn, hl⟩ := leaves_stepsB a'.defers w' { b.at a' [] with mode := .returning } cs rfl rfl rfl hf rfl hq
    exact ⟨.returned v, w2, fr', ⟨v, rfl, hR⟩, Comes.of_steps (Steps.trans harr (.one step_end)) hs, hfn, hl⟩
  | ret =>
    obtain ⟨todo, hs0⟩ := harr
    obtain ⟨v, w2, fr', hR, hs, hfn, hl⟩ := leaves_stepsB a'.defers w' { b.at a' todo with mode := .returning } cs rfl rfl rfl hf rfl hq
    exact ⟨.returned v, w2, fr', ⟨v, rfl, hR⟩, Comes.of_steps hs0 hs, hfn, hl⟩
  | panic chain => exact hq.elim
  | exit id => exact hq.elim
  | goto l => exact hq.elim
  | outgrown => exact hq.elim
theorem noDead_get : ∀ {h : Hp} {id : Nat}, noDead h = true → h[id]? ≠ some .dead
  | [], id, _, e => by simp at e
  | o :: h, id, hn, e => by
    simp only [noDead, Bool.and_eq_true] at hn
    cases id with
    | zero =>
      simp only [List.getElem?_cons_zero, Option.some.injEq] at e
      subst e
      cases hn.1
    | succ id => exact noDead_get hn.2 (by simpa using e)
theorem noDead_set : ∀ {h : Hp} {id : Nat} {o : OObj}, noDead h = true → noDead (h.set id (.oth o)) = true
  | [], id, o, hn => hn
  | x :: h, 0, o, hn => by
    simp only [noDead, Bool.and_eq_true] at hn
    simp only [List.set_cons_zero, noDead, Bool.true_and]
    exact hn.2
  | x :: h, id + 1, o, hn => by
    simp only [noDead, Bool.and_eq_true] at hn
    simp only [List.set_cons_succ, noDead, Bool.and_eq_true]
    exact ⟨hn.1, noDead_set hn.2⟩
/-- A map is cleared. -/
theorem clear_map {s : St} (hok : Ok s) {id bm : Nat} {o : OObj} {T ty : TypeId} {ks : Array Bool} {u : TypeDesc} (hu : P.underlying T = some u) (hv : R s (.oth id) (.map (some bm))) (hid : s.h[id]? = some (.oth o)) :
    ∃ s' v, (Go.invoke (.builtin .clear #[T] ty ks) #[.map (some bm)]).run P s.w = .ok (.value v) s'.w ∧ Step s s' ∧ Ok s' ∧ ∃ o', s'.h = s.h.set id (.oth o') := by
  simp only [R] at hv
  have hσ := hv.2.2 o hid
  have core : ∀ (kt vt : Ty) (es : Array MapEntry) (ck : Nat), keyTy kt = true → s.w.heap[bm]? = some (.map es ck) → ∃ s' v, (Go.invoke (.builtin .clear #[T] ty ks) #[.map (some bm)]).run P s.w = .ok (.value v) s'.w ∧ Step s s' ∧ Ok s' ∧ ∃ o', s'.h = s.h.set id (.oth o') := by
    intro kt vt es ck hkt hb
    have hgb : Gb s.w { s.w with heap := s.w.heap.setIfInBounds bm (.map #[] ck) } (blkOf (s.σ id)) := by
      rw [← hσ]
      refine ⟨rfl, rfl, rfl, Nat.le_refl _, by simp, fun q _ hq => ?_⟩
      exact (Go.MapKept.heap_set hb).2 q (fun e => hq (by rw [e]; rfl))
    have hbb : ∀ b, blkOf (s.σ id) = some b → blkOf (s.σ id) = some b ∨ s.w.heap.size ≤ b := fun b h => .inl h
    have hst := St.turn_step hid (.oth _ (.mapD bm kt vt [] [] ck) _) hgb hbb
    have hobj : ObjR (s.turn id (.oth (.mapD bm kt vt [] [] ck)) (s.σ id) { s.w with heap := s.w.heap.setIfInBounds bm (.map #[] ck) }) id (.oth (.mapD bm kt vt [] [] ck)) :=
      ⟨by simp only [St.turn, upd_same]; exact hσ.symm, hkt, #[], (Go.MapKept.heap_set hb).1, rfl, fun i en x hi _ => by simp at hi, by simp, rfl, by simp, by simp⟩
    refine ⟨_, .tuple #[], ?_, hst, St.turn_ok hok hid (.oth _ _ _) hgb hbb hobj, _, rfl⟩
    simp only [Go.invoke, builtin]
    simp [Builtin.clear_, run_underlying hu, Go.MapKept.run_getObj_map hb, Go.MapKept.run_setObj_map _ hb, Result.andThen, St.turn]
  have hob := hok.obj id _ hid
  cases o with
  | map bm' kt vt l =>
    obtain ⟨e, hkt, es, hb, _⟩ := hob
    rw [← hσ] at e
    cases e
    exact core kt vt es _ hkt hb
  | mapD bm' kt vt l bs ck =>
    obtain ⟨e, hkt, es, hb, _⟩ := hob
    rw [← hσ] at e
    cases e
    exact core kt vt es ck hkt hb
  | iter mid bm' n seen =>
    obtain ⟨r, e, _⟩ := hob
    rw [← hσ] at e
    cases e
/-- The marks of loops are taken away; maps that were put off to be cleared are cleared. -/
theorem marks_leave {b : Bool} {fn : Func} {R0 : Value → World → Prop} {s0 : St} {f : Tr} {a : Act} {ds : List Deferred} {I : Hp → Prop} (hI : b = true → ∀ h, I h → noDead h = true ∧ ∀ id o o', h[id]? = some (.oth o) → I (h.set id (.oth o')))
    (hds : ∀ s', Step s0 s' → Ok s' → FR s' f.get a → I s'.h → LeavesB P fn a.tmps R0 ds s'.w) :
    ∀ (ms : List Deferred) (s : St), Step s0 s → Ok s → FR s f.get a → I s.h → Mks P b s0.w.heap.size s ms → LeavesB P fn a.tmps R0 (ms ++ ds) s.w
  | [], s, hst, hok, hf, hh, _ => hds s hst hok hf hh
  | d :: ms, s, hst, hok, hf, hh, hm => by
    rcases hm.each d List.mem_cons_self with ⟨D, rfl, hB, hbk⟩ | ⟨hb, id, bm, T, ty, ks, u, rfl, hu, hv, ho⟩
    · refine .inl ⟨D, _, rfl, run_takeDeferred hbk.at_, ?_⟩
      have hnd : ({ target := .collected D, args := #[] } :: ms.filter fun d => match d.target with | .collected _ => true | _ => false).Nodup := hm.nd
      refine marks_leave hI hds ms (s.world _) (book_step hst hbk hB) (book_ok hok hbk) (fun t => R_sim (book_sim hbk) _ _ (hf t)) hh ⟨fun d' hd' => ?_, (List.nodup_cons.1 hnd).2⟩
      rcases hm.each d' (List.mem_cons_of_mem _ hd') with ⟨D', h1, h2, h3⟩ | ⟨h1, id, bm, T, ty, ks, u, h2, h3, h4, h5⟩
      · refine .inl ⟨D', h1, h2, book_other h3 ?_⟩
        rintro rfl
        refine (List.nodup_cons.1 hnd).1 (List.mem_filter.2 ⟨h1 ▸ hd', rfl⟩)
      · exact .inr ⟨h1, id, bm, T, ty, ks, u, h2, h3, R_sim (book_sim hbk) _ _ h4, h5⟩
    · obtain ⟨hnd, hset⟩ := hI hb _ hh
      obtain ⟨o, ho⟩ : ∃ o, s.h[id]? = some (.oth o) := by
        rcases ho with h1 | h1
        · exact h1
        · exact absurd h1 (noDead_get hnd)
      obtain ⟨s', v, hrun, hst2, hok2, o', hh2⟩ := clear_map (P := P) (ty := ty) (ks := ks) hok hu hv ho
      refine .inr ⟨_, _, _, _, v, s'.w, rfl, hrun, ?_⟩
      refine marks_leave hI hds ms s' (hst.trans hst2) hok2 (hf.step hst2) (by rw [hh2]; exact hset id o o' ho) ⟨fun d' hd' => ?_, ?_⟩
      · have := (hm.step hst2).each d' (List.mem_cons_of_mem _ hd')
        exact this
      · exact hm.nd
theorem resAs_cells {tb : Tb} {f : Tr} {h h' : Hp} (hc : ∀ (id : Nat) (T : TypeId) (cs : List AV), h[id]? = some (AObj.cells T cs) → h'[id]? = some (AObj.cells T cs)) : ∀ (rs : List ResultVar) {k k' : List AV → Prop}, (∀ vs, k vs → k' vs) → resAs tb f h k rs → resAs tb f h' k' rs
  | [], k, k', hkk, hk => hkk _ hk
  | r :: rs, k, k', hkk, hk => by
    have one : ∀ {k k' : AV → Prop}, (∀ v, k v → k' v) → resA tb f h k r → resA tb f h' k' r := by
      intro k k' hkk hr
      cases r with
      | tmp t => exact hkk _ hr
      | cell x T =>
        simp only [resA] at hr ⊢
        split at hr
        · rename_i ti id off hl hx
          split at hr
          · rename_i T' cs hcs
            simp only [hc _ _ _ hcs]
            split at hr
            · rename_i v hv
              exact hkk _ hr
            · exact hr.elim
          · exact hr.elim
        · exact hr.elim
    exact one (fun v hv => resAs_cells hc rs (fun vs h => hkk _ h) hv) hk
theorem bodyA_ok {C : Cx} (hm : P.follows .mixedOrders = true) (hT : TbOk P C.tb) (hD : SpecsOk P C.specs) {call : CallA} (hcall : CallOk P call) {g : FuncId} {fn : Func} (hf : FnOk P g fn) {args : List AV} {s : St} {K : AV → Hp → Prop} (h : bodyA C call fn args s.h K) (hok : Ok s) {cs : List Value} (hr : RL s args cs) :
    Calls P g cs.toArray s.w fun e w' => ∃ s' v cr, e = .returned cr ∧ s'.w = w' ∧ Step s s' ∧ Ok s' ∧ R s' v cr ∧ K v s'.h := by
  unfold bodyA at h
  split at h
  · rename_i c hb hle
    have hcode := hf.code
    rw [hb] at hcode
    refine Calls.mono (calls_of_wpB (R := fun cr w' => ∃ s' v, s'.w = w' ∧ Step s s' ∧ Ok s' ∧ R s' v cr ∧ K v s'.h) hf.get hb ?_) (by
      rintro e w' ⟨cr, rfl, s', v, h1, h2, h3, h4, h5⟩
      exact ⟨s', v, cr, rfl, h1, h2, h3, h4, h5⟩)
    have hlen : cs.length = args.length := RL_vals hr
    have hle := Nat.le_of_ble_eq_true hle
    have hget : ∀ i c, cs[i]? = some c → (cs.toArray ++ Array.replicate (fn.ntmps - cs.toArray.size) undef).getD (0 + i) undef = c := by
      intro i c hc
      have hlt := (List.getElem?_eq_some_iff.1 hc).1
      rw [Nat.zero_add, Array.getD_eq_getD_getElem?, Array.getElem?_append_left (by simpa using hlt)]
      simp [hc]
    have walk : ∀ (b : Bool) (Kr : Tr → Hp → Prop) (I : Hp → Hp → Prop), (hasD c = true → b = true) → (∀ f h, Kr f h → I h h) → (b = true → ∀ h0 f, Kr f h0 → ∀ h, I h0 h → noDead h = true ∧ ∀ id o o', h[id]? = some (.oth o) → I h0 (h.set id (.oth o'))) → (∀ f h0, Kr f h0 → ∀ h, I h0 h → retA C.tb fn.results.toList f h K) →
        initK (Tr.mk (depthOf fn.ntmps)) 0 args (fun f => codeA C call c Kr (fun _ _ _ => False) Kr f s.h) →
        c.wp P (postB P fn (fun cr w' => ∃ s' v, s'.w = w' ∧ Step s s' ∧ Ok s' ∧ R s' v cr ∧ K v s'.h)) { tmps := cs.toArray ++ Array.replicate (fn.ntmps - cs.toArray.size) undef, defers := [] } s.w := by
      intro b Kr I hb hI0 hI hret h
      obtain ⟨f', hf', hk⟩ := init_ok (a := { tmps := cs.toArray ++ Array.replicate (fn.ntmps - cs.toArray.size) undef, defers := [] }) args cs 0 _ _ hr (fun t => by rw [mk_get]; simp only [R]) hget h
      refine Code.wp_mono ?_ (codeA_ok hm hT hD hcall c hcode.1 hcode.2 b hb _ _ _ f' s _ hok hf' (by simp; omega) hk)
      intro e a' w' hq
      have fin : ∀ {a' : Act} {w' : World}, PostM P b s fn.ntmps [] Kr a' w' → LeavesB P fn a'.tmps (fun cr w' => ∃ s' v, s'.w = w' ∧ Step s s' ∧ Ok s' ∧ R s' v cr ∧ K v s'.h) a'.defers w' := by
        rintro a' w' ⟨⟨s2, f2, ms, rfl, h2, h3, h4, h5, h6, h7⟩, h8⟩
        rw [h6]
        refine marks_leave (s0 := s) (f := f2) (I := I s2.h) (fun e => hI e s2.h f2 h5) (fun s' q1 q2 q3 q4 => ?_) ms s2 h2 h3 h4 (hI0 _ _ h5) h7
        obtain ⟨v, cv, h8, h9, h10⟩ := results_ok (P := P) hT q2 q3 (hret f2 s2.h h5 s'.h q4)
        exact ⟨cv, h8, s', v, rfl, q1, q2, h9, h10⟩
      cases e with
      | normal => exact fin hq
      | ret => exact fin hq
      | exit i =>
        obtain ⟨⟨_, _, _, _, _, _, _, h5, _⟩, _⟩ := hq
        exact h5.elim
      | goto l => exact hq.elim
      | panic ch => exact hq.elim
      | outgrown => exact hq.elim
    split at h
    · rename_i hd
      exact walk false _ (fun h0 h => h = h0) (fun e => by rw [hd] at e; cases e) (fun _ _ _ => rfl) (fun e => by cases e) (fun f h0 hk h he => by rw [he]; exact hk) h
    · rename_i hd
      have hrd : ∀ (f : Tr) (h0 : Hp), retD C.tb fn.results.toList f h0 K → noDead h0 = true ∧ retA C.tb fn.results.toList f h0 (fun v _ => ∀ h', K v h') := by
        intro f h0 hk
        unfold retD at hk
        split at hk
        · rename_i hn; exact ⟨hn, hk⟩
        · exact hk.elim
      refine walk true _ (fun h0 h => noDead h = true ∧ ∀ (id : Nat) (T : TypeId) (cs : List AV), h0[id]? = some (AObj.cells T cs) → h[id]? = some (AObj.cells T cs)) (fun _ => rfl) (fun f h0 hk => ⟨(hrd f h0 hk).1, fun _ _ _ e => e⟩) (fun _ h0 f hk h hI => ⟨hI.1, fun id o o' ho => ⟨noDead_set hI.1, fun id' T cs e => ?_⟩⟩) (fun f h0 hk h hI => ?_) h
      · have e2 := hI.2 id' T cs e
        have hne : id ≠ id' := by
          rintro rfl
          rw [ho] at e2
          cases e2
        rw [List.getElem?_set_ne hne]
        exact e2
      · have h2 := (hrd f h0 hk).2
        unfold retA at h2 ⊢
        refine resAs_cells hI.2 _ (fun vs hv => ?_) h2
        split at hv <;> (rw [force_eq] at hv; simp only [force_eq]; exact hv _)
  · exact h.elim
/-- Functions that are walked through, to a depth. -/
noncomputable def callN (C : Cx) : Nat → CallA
  | 0, _, _, _, _ => False
  | n + 1, g, xs, h, K => match lkf C.fns g with
    | some fn => bodyA C (fun g xs h K => callN C n g xs h K) fn xs h K
    | none => False
def FnsOk (P : Program) (l : List (FuncId × Func)) : Prop := ∀ g fn, lkf l g = some fn → FnOk P g fn
theorem callN_ok {C : Cx} (hm : P.follows .mixedOrders = true) (hT : TbOk P C.tb) (hD : SpecsOk P C.specs) (hF : FnsOk P C.fns) : ∀ n, CallOk P (callN C n)
  | 0 => fun g xs h K hk => hk.elim
  | n + 1 => fun g xs h K hk => by
    simp only [callN] at hk
    split at hk
    · rename_i fn hl
      have hfn := hF g fn hl
      refine ⟨hfn.enters, fun s hs hok cs hr => ?_⟩
      subst hs
      exact bodyA_ok hm hT hD (callN_ok hm hT hD hF n) hfn hk hok hr
    · exact hk.elim
theorem FnsOk.nil : FnsOk P [] := fun g fn h => by cases h
theorem FnsOk.cons {g : FuncId} {fn : Func} {l : List (FuncId × Func)} (h : FnOk P g fn) (hl : FnsOk P l) : FnsOk P ((g, fn) :: l) := by
  intro g' fn' h'
  simp only [lkf] at h'
  cases hb : Nat.beq g g' with
  | true =>
    rw [hb] at h'
    have := Nat.eq_of_beq_eq_true hb
    cases h'
    exact this ▸ h
  | false =>
    rw [hb] at h'
    exact hl g' fn' h'
/-- What a function returns, by its body. -/
theorem spec_body {C : Cx} (hm : P.follows .mixedOrders = true) (hT : TbOk P C.tb) (hD : SpecsOk P C.specs) {call : CallA} (hcall : CallOk P call) {g : FuncId} {fn : Func} (hf : FnOk P g fn) {sp : DSpec}
    (h : ∀ ys p r, sp ys = some (p, r) → p → bodyA C call fn ys [] (fun v h => (viewR h v fun y => .ok y none).sat fun y _ => y = r)) : SpecOk P g sp := by
  refine ⟨hf.enters, fun ys p r hsp hp s hok hh cs hr => ?_⟩
  have hb := h ys p r hsp hp
  rw [← hh] at hb
  refine Calls.mono (bodyA_ok hm hT hD hcall hf hb hok hr) ?_
  rintro e w' ⟨s', v, cr, rfl, rfl, hst, hok', hv, hK⟩
  obtain ⟨y, ob, his, rfl⟩ := Res.sat_is hK
  have hFo : ∀ b, s'.F b → Own s' b := fun b hb => .inl hb
  obtain ⟨z, hz, hR⟩ := viewR_ok hok' (SubH.refl _) (F := s'.F) hFo v cr _ y ob hv (fun _ b hb => hok'.dis b hb) his
  obtain ⟨rfl, _⟩ := hz
  have hcut : s'.cut 0 = s'.callee s'.F := by
    unfold St.cut St.callee
    rw [List.take_zero]
  refine ⟨s'.cut 0, cr, rfl, rfl, cut_step hst (by rw [hh]; exact Nat.le_refl _), cut_ok hok' (fun id T cs hlt => by omega), by rw [hcut]; rfl, by rw [hcut]; exact hR⟩
end
end Av
namespace Av
open Go

theorem br_dec {p : Prop} [Decidable p] {x y : Prop} (h1 : p → x) (h2 : ¬ p → y) : br (decide p) x y :=
  br_intro (fun h => h1 (of_decide_eq_true h)) (fun h => h2 (of_decide_eq_false h))
theorem br_ndec {p : Prop} [Decidable p] {x y : Prop} (h1 : ¬ p → x) (h2 : p → y) : br (!decide p) x y :=
  br_intro (fun h => h1 (by simpa using h)) (fun h => h2 (by simpa using h))
theorem br_ne {a b : Int} {x y : Prop} (h1 : a ≠ b → x) (h2 : a = b → y) : br (a != b) x y :=
  br_intro (fun h => h1 (by simpa using h)) (fun h => h2 (by simpa using h))
theorem br_eq {a b : Int} {x y : Prop} (h1 : a = b → x) (h2 : a ≠ b → y) : br (a == b) x y :=
  br_intro (fun h => h1 (by simpa using h)) (fun h => h2 (by simpa using h))
theorem br_kt {p : Prop} {i : Decidable p} {x y : Prop} (hp : p) (h : x) : br (@decide p i) x y := .t (decide_eq_true hp) h
theorem br_kf {p : Prop} {i : Decidable p} {x y : Prop} (hp : ¬ p) (h : y) : br (@decide p i) x y := .f (decide_eq_false hp) h
theorem br_nt {a b : Int} {x y : Prop} (hp : a ≠ b) (h : x) : br (a != b) x y := .t (by simpa using hp) h
theorem br_nf {a b : Int} {x y : Prop} (hp : a = b) (h : y) : br (a != b) x y := .f (by simpa using hp) h
theorem br_et {a b : Int} {x y : Prop} (hp : a = b) (h : x) : br (a == b) x y := .t (by simpa using hp) h
theorem br_ef {a b : Int} {x y : Prop} (hp : a ≠ b) (h : y) : br (a == b) x y := .f (by simpa using hp) h
theorem need_in {p : Prop} {i : Decidable p} {x : Prop} (hp : p) (h : x) : @need p i x := @need.mk p i x hp h
theorem idx_nat {α : Type} {l : List α} {i : Nat} {k : α → Prop} (h1 : i < l.length) (h : ∀ x, l[i]? = some x → k x) : idx l (i : Int) k :=
  idx_intro (by omega) (by omega) (fun x hx => h x (by simpa using hx))
theorem idx_kn {α : Type} {l : List α} {i : Nat} {y : α} {k : α → Prop} (hy : l[i]? = some y) (h : k y) : idx l (i : Int) k :=
  .mk y (by omega) (by simpa using hy) h
theorem idx_ki {α : Type} {l : List α} {i : Int} {y : α} {k : α → Prop} (hy : l[i.toNat]? = some y) (h0 : 0 ≤ i) (h : k y) : idx l i k :=
  .mk y h0 hy h
theorem idx_cl {α : Type} {l : List α} {i : Int} {k : α → Prop} (h : match l[i.toNat]? with | some x => (0 ≤ i ∧ i < l.length) ∧ k x | none => False) : idx l i k := by
  split at h
  · rename_i x hx
    exact idx_intro h.1.1 h.1.2 (fun y hy => by rw [hx] at hy; cases hy; exact h.2)
  · exact h.elim
theorem loop_inv {ms : List Nat} {body : (Tr → Hp → Prop) → Tr → Hp → Prop} {f : Tr} {h : Hp} (nz : List NZ) (cs : List Nat) (J : List AV → Hp → Prop) (μ : List AV → Hp → Nat) (hh : normK nz f h fun f h => J (cs.map f.get) h ∧
    ∀ vs h', vs.length = cs.length → J vs h' →
      eraseK f ms fun f0 => setsK f0 cs vs fun f1 => body (fun f2 h2 => backP ms cs f0 h.length J μ (μ vs h') f2 h2) f1 h') : loopP ms body f h :=
  .mk (.inr ⟨nz, cs, J, μ, hh⟩)
theorem back_intro {ms cs : List Nat} {f0 : Tr} {L : Nat} {J : List AV → Hp → Prop} {μ : List AV → Hp → Nat} {m : Nat} {f2 : Tr} {h2 : Hp} (h1 : eraseK f2 ms fun f => f = f0) (h3 : cutOk L (cs.map fun c => viewB L h2 (f2.get c)) h2 = true) (hJ : J (cs.map fun c => viewB L h2 (f2.get c)) (h2.take L)) (hm : μ (cs.map fun c => viewB L h2 (f2.get c)) (h2.take L) < m) : backP ms cs f0 L J μ m f2 h2 :=
  .mk [] (show backQ ms cs f0 L J μ m f2 h2 from ⟨by rw [erase_eq] at h1; exact h1, h3, hJ, hm⟩)
theorem frz_auto {xs : List AV} {P : Tr → Hp → Prop} {f : Tr} {h : Hp} (hh : normK (autoNZ xs f h) f h P) : frzP xs P f h := .mk _ hh
theorem draw_plain {P : Tr → Hp → Prop} {f : Tr} {h : Hp} (hh : P f h) : drawP P f h := .mk [] hh
theorem loop_turns {ms : List Nat} {body : (Tr → Hp → Prop) → Tr → Hp → Prop} {f : Tr} {h : Hp} (n : Nat) (hh : turns n body f h) : loopP ms body f h := .mk (.inl ⟨n, hh⟩)
section
variable {P : Program}
theorem SpecsOk.nil : SpecsOk P [] := fun g sp h => by cases h
theorem SpecsOk.consI {g : FuncId} {sp : ISpec} {l : List (FuncId × Spec)} (h : IterOk P g sp) (hl : SpecsOk P l) : SpecsOk P ((g, .i sp) :: l) := by
  intro g' sp' h'
  simp only [lks] at h'
  cases hb : Nat.beq g g' with
  | true =>
    rw [hb] at h'
    have := Nat.eq_of_beq_eq_true hb
    cases h'
    exact this ▸ h
  | false =>
    rw [hb] at h'
    exact hl g' sp' h'
theorem SpecsOk.cons {g : FuncId} {sp : DSpec} {l : List (FuncId × Spec)} (h : SpecOk P g sp) (hl : SpecsOk P l) : SpecsOk P ((g, .d sp) :: l) := by
  intro g' sp' h'
  simp only [lks] at h'
  cases hb : Nat.beq g g' with
  | true =>
    rw [hb] at h'
    have := Nat.eq_of_beq_eq_true hb
    cases h'
    exact this ▸ h
  | false =>
    rw [hb] at h'
    exact hl g' sp' h'
/-- A nil slice reads as an empty list. -/
def nzV : Option Ty → AV → AV
  | some t, .nsl => .lst t []
  | _, v => v
def nzL : List (Option Ty) → List AV → List AV
  | t :: ts, v :: vs => nzV t v :: nzL ts vs
  | _, vs => vs
theorem nzV_R {s : St} {t : Option Ty} {v : AV} {c : Value} (h : R s v c) : R s (nzV t v) c := by
  unfold nzV
  split
  · simp only [R] at h ⊢
    subst h
    exact ⟨none, 0, rfl, by simp, fun h => absurd rfl h⟩
  · exact h
theorem nzL_RL {s : St} : ∀ (ts : List (Option Ty)) (vs : List AV) (cs : List Value), RL s vs cs → RL s (nzL ts vs) cs
  | [], vs, cs, h => by simpa only [nzL] using h
  | t :: ts, [], cs, h => by simpa only [nzL] using h
  | t :: ts, v :: vs, cs, h => by
    simp only [nzL, RL] at h ⊢
    obtain ⟨c, cs', rfl, h1, h2⟩ := h
    exact ⟨c, cs', rfl, nzV_R h1, nzL_RL ts vs cs' h2⟩
def nz (ts : List (Option Ty)) (sp : DSpec) : DSpec := fun ys => sp (nzL ts ys)
theorem SpecOk.nz {g : FuncId} {sp : DSpec} (h : SpecOk P g sp) (ts : List (Option Ty)) : SpecOk P g (nz ts sp) :=
  ⟨h.1, fun ys p r hsp hp s hok hh cs hr => h.2 (nzL ts ys) p r hsp hp s hok hh cs (nzL_RL ts ys cs hr)⟩
end
end Av
