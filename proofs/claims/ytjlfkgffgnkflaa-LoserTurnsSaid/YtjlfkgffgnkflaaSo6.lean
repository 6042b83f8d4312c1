/-
  An abstract reading of values and memory: calls of functions that make arrays and give them away.
-/
import Derived.Test.YtjlfkgffgnkflaaSo5
namespace Av
open Go Go.Proofs

structure GRes where
  arrs : List FRes
  v : AV
abbrev GSpec := List AV → Option (Prop × GRes)
def objsG (l : List FRes) : Hp := l.map fun r => .arr r.T r.t r.l false 0
mutual
def shV (f : Nat → Nat × Nat) : AV → AV
  | .own i _ n => .own (f i).1 (f i).2 n
  | .agg cs => .agg (shL f cs)
  | .tup cs => .tup (shL f cs)
  | v => v
def shL (f : Nat → Nat × Nat) : List AV → List AV
  | [] => []
  | c :: cs => shV f c :: shL f cs
end
mutual
def simpG (n : Nat) : AV → Bool
  | .own i _ _ => Nat.blt i n
  | .agg cs => simpGs n cs
  | .tup cs => simpGs n cs
  | .int _ _ => true
  | .bool _ => true
  | .str _ => true
  | .nsl => true
  | .zsl _ => true
  | _ => false
def simpGs (n : Nat) : List AV → Bool
  | [] => true
  | c :: cs => simpG n c && simpGs n cs
end
def goodG (r : GRes) : Bool := simpG r.arrs.length r.v && r.arrs.all fun x => flatT x.t
noncomputable def genA (sp : GSpec) (xs : List AV) (h : Hp) (K : AV → Hp → Prop) : Prop :=
  (viewsR h xs fun ys => match sp ys with
    | some (p, r) => match goodG r with
      | true => needC p (.ok (.tup ys) none)
      | false => .bad
    | none => .bad).sat fun v _ => match v with
      | .tup ys => match sp ys with
        | some (_, r) => lenK h fun n => catK h (objsG r.arrs) fun h' => K (shV (fun i => (n + i, 0)) r.v) h'
        | none => False
      | _ => False
/-- A function makes arrays, and gives them in what it returns. -/
def GOk (P : Program) (g : FuncId) (sp : GSpec) : Prop :=
  Enters P g ∧ ∀ ys p r, sp ys = some (p, r) → p → ∀ s, Ok s → s.h = [] → ∀ cs, RL s ys cs →
    Calls P g cs.toArray s.w fun e w' => ∃ s' cr, ∃ f : Nat → Nat × Nat, e = .returned cr ∧ s'.w = w' ∧ Step s s' ∧ Ok s' ∧ R s' (shV f r.v) cr ∧
      (∀ i x, r.arrs[i]? = some x → ∃ fl, s'.h[(f i).1]? = some (.arr x.T x.t x.l fl (f i).2)) ∧ ∀ i j, i < r.arrs.length → j < r.arrs.length → (f i).1 = (f j).1 → i = j
section
variable {P : Program}
theorem gen_body {C : Cx} (hm : P.follows .mixedOrders = true) (hT : TbOk P C.tb) (hD : SpecsOk P C.specs) {call : CallA} (hcall : CallOk P call) {g : FuncId} {fn : Func} (hf : FnOk P g fn) {sp : GSpec}
    (h : ∀ ys p r, sp ys = some (p, r) → p → bodyA C call fn ys [] (fun v h => ∃ f : Nat → Nat × Nat, v = shV f r.v ∧ (∀ i x, r.arrs[i]? = some x → ∃ fl, h[(f i).1]? = some (.arr x.T x.t x.l fl (f i).2)) ∧ ∀ i j, i < r.arrs.length → j < r.arrs.length → (f i).1 = (f j).1 → i = j)) : GOk P g sp := by
  refine ⟨hf.enters, fun ys p r hsp hp s hok hh cs hr => ?_⟩
  have hb := h ys p r hsp hp
  rw [← hh] at hb
  refine Calls.mono (bodyA_ok hm hT hD hcall hf hb hok hr) ?_
  rintro e w' ⟨s', v, cr, rfl, rfl, hst, hok', hv, f, rfl, h1, h2⟩
  exact ⟨s', cr, f, rfl, rfl, hst, hok', hv, h1, h2⟩
mutual
theorem sh_R {s1 s2 : St} {f g : Nat → Nat × Nat} {n : Nat} (hown : ∀ i m cr, i < n → R s1 (.own (f i).1 (f i).2 m) cr → R s2 (.own (g i).1 (g i).2 m) cr) : ∀ (v : AV) (cr : Value), simpG n v = true → R s1 (shV f v) cr → R s2 (shV g v) cr
  | .own i _ m, cr, hs, h => by
    simp only [simpG] at hs
    simp only [shV] at h ⊢
    exact hown i m cr (by simpa using hs) h
  | .agg cs, cr, hs, h => by
    simp only [simpG] at hs
    simp only [shV, R] at h ⊢
    obtain ⟨vs, hv, h1, h2⟩ := h
    exact ⟨vs, hv, sh_RL hown cs vs hs h1, h2⟩
  | .tup cs, cr, hs, h => by
    simp only [simpG] at hs
    simp only [shV, R] at h ⊢
    obtain ⟨vs, hv, h1⟩ := h
    exact ⟨vs, hv, sh_RL hown cs vs hs h1⟩
  | .int _ _, cr, _, h => by simpa only [shV, R] using h
  | .bool _, cr, _, h => by simpa only [shV, R] using h
  | .str _, cr, _, h => by simpa only [shV, R] using h
  | .any, _, hs, _ => by simp [simpG] at hs
  | .und, _, hs, _ => by simp [simpG] at hs
  | .nilp, _, hs, _ => by simp [simpG] at hs
  | .nsl, cr, _, h => by simpa only [shV, R] using h
  | .zsl _, cr, _, h => by simpa only [shV, R] using h
  | .ptr _ _, _, hs, _ => by simp [simpG] at hs
  | .optr _ _ _ _ _, _, hs, _ => by simp [simpG] at hs
  | .pv _, _, hs, _ => by simp [simpG] at hs
  | .lst _ _, _, hs, _ => by simp [simpG] at hs
  | .tlst _ _, _, hs, _ => by simp [simpG] at hs
  | .osl _ _ _ _, _, hs, _ => by simp [simpG] at hs
  | .tosl _ _ _ _, _, hs, _ => by simp [simpG] at hs
  | .fn _ _ _, _, hs, _ => by simp [simpG] at hs
  | .nilfn, _, hs, _ => by simp [simpG] at hs
  | .iface _ _, _, hs, _ => by simp [simpG] at hs
  | .nili, _, hs, _ => by simp [simpG] at hs
theorem sh_RL {s1 s2 : St} {f g : Nat → Nat × Nat} {n : Nat} (hown : ∀ i m cr, i < n → R s1 (.own (f i).1 (f i).2 m) cr → R s2 (.own (g i).1 (g i).2 m) cr) : ∀ (cs : List AV) (vs : List Value), simpGs n cs = true → RL s1 (shL f cs) vs → RL s2 (shL g cs) vs
  | [], vs, _, h => by simpa only [shL, RL] using h
  | c :: cs, vs, hs, h => by
    simp only [simpGs, Bool.and_eq_true] at hs
    simp only [shL, RL] at h ⊢
    obtain ⟨v, vs', hv, h1, h2⟩ := h
    exact ⟨v, vs', hv, sh_R hown c v hs.1 h1, sh_RL hown cs vs' hs.2 h2⟩
end
theorem objsG_get {l : List FRes} {i : Nat} {o : AObj} (h : (objsG l)[i]? = some o) : ∃ x, l[i]? = some x ∧ o = .arr x.T x.t x.l false 0 := by
  unfold objsG at h
  rw [List.getElem?_map] at h
  cases hx : l[i]? with
  | none => rw [hx] at h; cases h
  | some x => rw [hx] at h; exact ⟨x, rfl, (Option.some.inj h).symm⟩
theorem genA_ok {g : FuncId} {sp : GSpec} (hG : GOk P g sp) {xs : List AV} {h : Hp} {K : AV → Hp → Prop} (hk : genA sp xs h K) :
    Enters P g ∧ ∀ s, s.h = h → Ok s → ∀ cs, RL s xs cs →
      Calls P g cs.toArray s.w fun e w' => ∃ s' v cr, e = .returned cr ∧ s'.w = w' ∧ Step s s' ∧ Ok s' ∧ R s' v cr ∧ K v s'.h := by
  refine ⟨hG.1, fun s hs hok cs hr => ?_⟩
  subst hs
  obtain ⟨v, ob, his, hk⟩ := Res.sat_is hk
  obtain ⟨ys, h3, h4⟩ := viewsR_ok hok (SubH.refl _) (F := fun _ => False) (fun b hb => hb.elim) _ _ _ v ob hr (fun _ b _ hb => hb) his
  split at h3
  · rename_i p r hspz
    split at h3
    · rename_i hgood
      obtain ⟨hp, rfl, rfl⟩ := h3
      simp only [hspz, lenK_eq, catK_eq] at hk
      unfold goodG at hgood
      rw [Bool.and_eq_true, List.all_eq_true] at hgood
      refine Calls.mono (hG.2 ys p r hspz hp _ (callee_ok hok (fun b hb => hb.elim)) rfl _ h4) ?_
      rintro e w' ⟨s', cr, f, rfl, rfl, hst, hok', hR, harr, hinj⟩
      have hgrew : Grew s.w s'.w := ⟨hst.os, hst.tape, hst.output, hst.drawn, hst.size, fun b hb => (hst.keep b hb (fun ⟨id, o, h, _⟩ => by simp [St.callee] at h)).2⟩
      let s2 : St := ⟨fun id => if id < s.h.length then s.σ id else s'.σ (f (id - s.h.length)).1, s.h ++ objsG r.arrs, s'.w, s.F⟩
      have hnew : ∀ i x b, r.arrs[i]? = some x → blkOf (s'.σ (f i).1) = some b → s.w.heap.size ≤ b := by
        intro i x b hx hb
        obtain ⟨fl, ho⟩ := harr i x hx
        rcases Nat.lt_or_ge b s.w.heap.size with hlt | hge
        · exact absurd ⟨_, _, ho, rfl, hb⟩ (hst.keep b hlt (fun ⟨id, o, h, _⟩ => by simp [St.callee] at h)).1
        · exact hge
      have hold : ∀ {id : Nat} {o : AObj}, id < s.h.length → s2.h[id]? = some o → s.h[id]? = some o := by
        intro id o hlt ho
        have ho : (s.h ++ objsG r.arrs)[id]? = some o := ho
        rwa [List.getElem?_append_left hlt] at ho
      have hnw : ∀ {id : Nat} {o : AObj}, ¬ id < s.h.length → s2.h[id]? = some o → ∃ x, r.arrs[id - s.h.length]? = some x ∧ o = .arr x.T x.t x.l false 0 := by
        intro id o hlt ho
        have ho : (s.h ++ objsG r.arrs)[id]? = some o := ho
        rw [List.getElem?_append_right (by omega)] at ho
        exact objsG_get ho
      have hsig1 : ∀ {id : Nat}, id < s.h.length → s2.σ id = s.σ id := fun hlt => if_pos hlt
      have hsig2 : ∀ {id : Nat}, ¬ id < s.h.length → s2.σ id = s'.σ (f (id - s.h.length)).1 := fun hlt => if_neg hlt
      have hownI : ∀ b, b < s.w.heap.size → OwnI s2 b → OwnI s b := by
        rintro b hlt ⟨id, o, h1, h2, h3⟩
        by_cases hid : id < s.h.length
        · rw [hsig1 hid] at h3
          exact ⟨id, o, hold hid h1, h2, h3⟩
        · rw [hsig2 hid] at h3
          obtain ⟨x, hx, _⟩ := hnw hid h1
          exact absurd (hnew _ x b hx h3) (by omega)
      have hst2 : Step s s2 := {
        os := hgrew.os
        tape := hgrew.tape
        output := hgrew.output
        drawn := hgrew.drawn
        size := hgrew.size
        kn := fun id hid => by
          have hlt := kn_lt hid
          unfold Av.kn at hid ⊢
          show (match (s.h ++ objsG r.arrs)[id]? with | some .resv => false | some _ => true | none => false) = true
          rw [List.getElem?_append_left hlt]
          exact hid
        keep := fun b hlt hn => ⟨fun h1 => hn (hownI b hlt h1), hgrew.block b hlt⟩
        frn := rfl
        cells := fun id T cs' hid hc => by
          have hlt := kn_lt hid
          exact ⟨hsig1 hlt, cs', hold hlt hc⟩
        arr := fun id T t l' f' g' hid hc => by
          have hlt := kn_lt hid
          exact ⟨l', f', g', hold hlt hc, Nat.le_refl _, fun _ => ⟨hsig1 hlt, rfl⟩⟩ }
      have hok2 : Ok s2 := {
        obj := fun id o hid => by
          by_cases hlt : id < s.h.length
          · have ho := hold hlt hid
            cases ha : o.alive with
            | false => cases o <;> first | trivial | cases ha
            | true => exact ObjR_mono hst2 (hsig1 hlt) (fun b hbb => hgrew.block b (own_lt hok ⟨id, o, ho, ha, hbb⟩)) (hok.obj id o ho)
          · obtain ⟨x, hx, rfl⟩ := hnw hlt hid
            obtain ⟨fl, ho⟩ := harr _ x hx
            obtain ⟨qs, hrow, hone, hel, _⟩ := hok'.obj _ _ ho
            refine ⟨qs, ?_, hone, fun i y hi => flat_RT _ _ _ (hgood.2 x (List.mem_of_getElem? hx)) (hel i y hi), fun h => by cases h⟩
            rw [hsig2 hlt]
            exact hrow
        inj := fun i j o p b hi hj hao hap hbi hbj => by
          by_cases hil : i < s.h.length
          · rw [hsig1 hil] at hbi
            have hbl := own_lt hok ⟨i, o, hold hil hi, hao, hbi⟩
            by_cases hjl : j < s.h.length
            · rw [hsig1 hjl] at hbj
              exact hok.inj i j o p b (hold hil hi) (hold hjl hj) hao hap hbi hbj
            · rw [hsig2 hjl] at hbj
              obtain ⟨x, hx, _⟩ := hnw hjl hj
              exact absurd (hnew _ x b hx hbj) (by omega)
          · rw [hsig2 hil] at hbi
            obtain ⟨x, hx, _⟩ := hnw hil hi
            by_cases hjl : j < s.h.length
            · rw [hsig1 hjl] at hbj
              have hbl := own_lt hok ⟨j, p, hold hjl hj, hap, hbj⟩
              exact absurd (hnew _ x b hx hbi) (by omega)
            · rw [hsig2 hjl] at hbj
              obtain ⟨y, hy, _⟩ := hnw hjl hj
              obtain ⟨fl, ho⟩ := harr _ x hx
              obtain ⟨fl2, ho2⟩ := harr _ y hy
              have h5 := hok'.inj _ _ _ _ b ho ho2 rfl rfl hbi hbj
              have := hinj _ _ (List.getElem?_eq_some_iff.1 hx).1 (List.getElem?_eq_some_iff.1 hy).1 h5
              omega
        fb := fun b hb => Nat.lt_of_lt_of_le (hok.fb b hb) hgrew.size
        dis := fun b ho hF => hok.dis b (hownI b (hok.fb b hF) ho) hF }
      refine ⟨s2, _, cr, rfl, rfl, hst2, hok2, ?_, hk⟩
      refine sh_R (s1 := s') (s2 := s2) (f := f) (g := fun i => (s.h.length + i, 0)) (n := r.arrs.length) (fun i m c hi hc => ?_) r.v cr hgood.1 hR
      obtain ⟨x, hx⟩ : ∃ x, r.arrs[i]? = some x := ⟨_, List.getElem?_eq_getElem hi⟩
      obtain ⟨fl, ho⟩ := harr i x hx
      simp only [R] at hc ⊢
      obtain ⟨_, base, cap, hcr, hc⟩ := hc
      obtain ⟨_, hc2⟩ := hc _ _ _ _ _ ho
      obtain ⟨hle, len, hσ⟩ := hc2 rfl
      have hget : s2.h[s.h.length + i]? = some (.arr x.T x.t x.l false 0) := by
        show (s.h ++ objsG r.arrs)[s.h.length + i]? = _
        rw [List.getElem?_append_right (by omega), Nat.add_sub_cancel_left, objsG, List.getElem?_map, hx]
        rfl
      refine ⟨by unfold Av.kn; rw [hget], base, cap, hcr, fun T t' l' f2 g0 hq => ?_⟩
      rw [hget] at hq
      cases hq
      refine ⟨Nat.le_refl _, fun _ => ⟨hle, len, ?_⟩⟩
      rw [hsig2 (by omega), Nat.add_sub_cancel_left]
      exact hσ
    · exact h3.elim
  · exact h3.elim
/-- Functions that are walked through, to a depth, and those that give arrays. -/
def lkg : List (FuncId × GSpec) → FuncId → Option GSpec
  | [], _ => none
  | (a, t) :: l, g => match Nat.beq a g with
    | true => some t
    | false => lkg l g
noncomputable def callG (G : List (FuncId × GSpec)) (C : Cx) : Nat → CallA
  | 0, _, _, _, _ => False
  | n + 1, g, xs, h, K => match lkg G g with
    | some sp => genA sp xs h K
    | none => match lkf C.fns g with
      | some fn => bodyA C (fun g xs h K => callG G C n g xs h K) fn xs h K
      | none => False
def GsOk (P : Program) (G : List (FuncId × GSpec)) : Prop := ∀ g sp, lkg G g = some sp → GOk P g sp
theorem GsOk.nil : GsOk P [] := fun g t h => by cases h
theorem GsOk.cons {f : FuncId} {sp : GSpec} {G : List (FuncId × GSpec)} (h : GOk P f sp) (hG : GsOk P G) : GsOk P ((f, sp) :: G) := by
  intro g t' hg
  simp only [lkg] at hg
  split at hg
  · rename_i hb
    have := Nat.eq_of_beq_eq_true hb
    cases hg
    exact this ▸ h
  · exact hG g t' hg
theorem callG_ok {G : List (FuncId × GSpec)} {C : Cx} (hm : P.follows .mixedOrders = true) (hT : TbOk P C.tb) (hD : SpecsOk P C.specs) (hF : FnsOk P C.fns) (hG : GsOk P G) : ∀ n, CallOk P (callG G C n)
  | 0 => fun g xs h K hk => hk.elim
  | n + 1 => fun g xs h K hk => by
    simp only [callG] at hk
    split at hk
    · rename_i sp hl
      exact genA_ok (hG g sp hl) hk
    · split at hk
      · rename_i fn hl
        have hfn := hF g fn hl
        refine ⟨hfn.enters, fun s hs hok cs hr => ?_⟩
        subst hs
        exact bodyA_ok hm hT hD (callG_ok hm hT hD hF hG n) hfn hk hok hr
      · exact hk.elim
end
end Av
