/-
  An abstract reading of values and memory: a region whose order is drawn; code.
-/
import Derived.Test.YtmegjnanieafbaaAvl
namespace Av
open Go

section
variable {P : Program} {C : Cx} {ops : Array Oper} {base : Nat} {G : Nat → Nat → AV} {H : Nat → Hp} {V : Nat → AV} {B : Nat → Option AObj} {E : Nat → Bool} {N : Nat} {ds : List Deferred}
theorem drawn_run (hT : TbOk P C.tb) (hD : SpecsOk P C.specs) (T : Trc C ops base G H V B E) (hdr : drawOk ops = true) (hN : ∀ o ∈ ops.toList, dstOk N o = true) {Q : Exit → Act → World → Prop} :
    ∀ (fuel : Nat) (listed : Array Bool) (s : St) (a : Act), listed.size = ops.size → cntF (fun i => listed.getD i false) ops.size = fuel → DInv ops base G H B N ds (fun i => listed.getD i false) s a →
      (∀ s' a', Step s s' → Ok s' → s'.h = H ops.size → (∀ t, R s' (G ops.size t) (a'.tmps.getD t undef)) → a'.tmps.size = N → a'.defers = ds → Q .normal a' s'.w) →
      wpAny P .any ops Q fuel listed a s.w := by
  obtain ⟨hed, hcf⟩ := drawOk_spec hdr
  -- when nothing is ready all has run
  have stuck : ∀ listed : Array Bool, listed.size = ops.size → Region.ready .any ops listed = [] → ∀ i, i < ops.size → listed.getD i false = true := by
    intro listed hsz hr i
    induction i using Nat.strongRecOn with
    | _ i ih =>
      intro hi
      cases hl : listed.getD i false with
      | true => rfl
      | false =>
        exfalso
        obtain ⟨o, ho⟩ := ops_get hi
        have hm : i ∈ Region.ready .any ops listed := by
          rw [mem_ready]
          refine ⟨?_, o, ho, fun e he hb => ?_⟩
          · rw [Array.getD_eq_getD_getElem?] at hl ⊢
            rw [Array.getElem?_eq_getElem (by omega)] at hl ⊢
            exact hl
          · have h1 := hed i o ho
            unfold edgesOk at h1
            rw [Bool.and_eq_true, List.all_eq_true] at h1
            have h2 := h1.1 e (Array.mem_toList_iff.2 he)
            rw [hb] at h2
            have h3 : e.on < i := by simpa using h2
            exact ih e.on h3 (by omega)
        rw [hr] at hm
        cases hm
  have done : ∀ (listed : Array Bool) (s : St) (a : Act), (∀ i, i < ops.size → listed.getD i false = true) → DInv ops base G H B N ds (fun i => listed.getD i false) s a →
      (∀ s' a', Step s s' → Ok s' → s'.h = H ops.size → (∀ t, R s' (G ops.size t) (a'.tmps.getD t undef)) → a'.tmps.size = N → a'.defers = ds → Q .normal a' s'.w) → Q .normal a s.w := by
    intro listed s a hall I hQ
    refine hQ s a (Step.refl s) I.ok ?_ (fun t => ?_) I.size I.dfr
    · apply List.ext_getElem?
      intro id
      by_cases hid : id < base + ops.size
      · rw [I.get hid, LW_all ops.size hall, ← T.hget id ops.size (Nat.le_refl _), List.getD_eq_getElem?_getD, List.getElem?_eq_getElem (by rw [T.lenk _ (Nat.le_refl _)]; exact hid)]
        rfl
      · rw [List.getElem?_eq_none (by rw [I.len]; omega), List.getElem?_eq_none (by rw [T.lenk _ (Nat.le_refl _)]; omega)]
    · have := I.fr t
      rw [LW_all ops.size hall, ← T.fget t ops.size (Nat.le_refl _)] at this
      exact this
  intro fuel
  induction fuel with
  | zero =>
    intro listed s a hsz hc I hQ
    have hall := cntF_zero ops.size hc
    refine ⟨?_, done listed s a hall I hQ⟩
    cases hr : Region.ready .any ops listed with
    | nil => rfl
    | cons i l =>
      exfalso
      have hm : i ∈ Region.ready .any ops listed := by rw [hr]; simp
      obtain ⟨h0, o, ho, _⟩ := mem_ready.1 hm
      have hlt := ops_lt ho
      have := hall i hlt
      rw [Array.getD_eq_getD_getElem?, Array.getElem?_eq_getElem (by omega)] at this h0
      simp only [Option.getD_some] at this h0
      rw [this] at h0
      cases h0
  | succ fuel ih =>
    intro listed s a hsz hc I hQ
    refine ⟨fun hr => done listed s a (stuck listed hsz hr) I hQ, fun i hm => ?_⟩
    obtain ⟨h0, o, ho, hall⟩ := mem_ready.1 hm
    have hlt := ops_lt ho
    have h0' : listed.getD i false = false := by
      rw [Array.getD_eq_getD_getElem?, Array.getElem?_eq_getElem (by omega)] at h0 ⊢
      exact h0
    have hset : (fun k => (listed.setIfInBounds i true).getD k false) = fun k => listed.getD k false || decide (k = i) := by
      funext k
      rw [Array.getD_eq_getD_getElem?, Array.getD_eq_getD_getElem?, Array.getElem?_setIfInBounds]
      by_cases hk : k = i
      · subst hk
        simp [show k < listed.size by omega]
      · rw [if_neg (fun e => hk e.symm)]
        simp [hk]
    refine I.next hT hD T hdr hN ho h0' (fun e he hb => hall e (Array.mem_toList_iff.1 he) hb) ?_
    intro s' a' hst I'
    refine ih (listed.setIfInBounds i true) s' a' (by simpa using hsz) ?_ (by rw [hset]; exact I') (fun s2 a2 h1 => hQ s2 a2 (hst.trans h1))
    rw [hset]
    have := cntF_add (S := fun k => listed.getD k false) (j := i) h0' ops.size
    rw [if_pos hlt] at this
    omega

/-- The state with room for n blocks. -/
def St.room (s : St) (n : Nat) (w' : World) : St := ⟨s.σ, s.h ++ List.replicate n .resv, w', s.F⟩
theorem room_get {s : St} {n : Nat} {w' : World} {id : Nat} {o : AObj} (h : (s.room n w').h[id]? = some o) : s.h[id]? = some o ∨ o = .resv := by
  have h : (s.h ++ List.replicate n AObj.resv)[id]? = some o := h
  rw [List.getElem?_append] at h
  split at h
  · exact .inl h
  · rw [List.getElem?_replicate] at h
    split at h
    · exact .inr (by cases h; rfl)
    · cases h
theorem room_own {s : St} {n : Nat} {w' : World} {b : Nat} (h : OwnI (s.room n w') b) : OwnI s b := by
  obtain ⟨id, o, h1, h2, h3⟩ := h
  rcases room_get h1 with h4 | rfl
  · exact ⟨id, o, h4, h2, h3⟩
  · cases h2
theorem room_step {s : St} (n : Nat) {w' : World} (hw : Grew s.w w') : Step s (s.room n w') where
  os := hw.os
  tape := hw.tape
  output := hw.output
  size := hw.size
  kn := fun id h => by
    unfold kn at h ⊢
    have hlt : id < s.h.length := by
      rcases Nat.lt_or_ge id s.h.length with h1 | h1
      · exact h1
      · rw [List.getElem?_eq_none h1] at h; cases h
    show (match (s.h ++ List.replicate n AObj.resv)[id]? with | some .resv => false | some _ => true | none => false) = true
    rw [List.getElem?_append_left hlt]
    exact h
  keep := fun b hb hn => ⟨fun h => hn (room_own h), hw.block b hb⟩
  frn := rfl
  cells := fun id T cs' _ hc => by
    rcases room_get hc with h1 | h1
    · exact ⟨rfl, cs', h1⟩
    · cases h1
  arr := fun id T t l' f' g _ hc => by
    rcases room_get hc with h1 | h1
    · exact ⟨l', f', g, h1, Nat.le_refl _, fun _ => ⟨rfl, rfl⟩⟩
    · cases h1
theorem room_ok {s : St} (hok : Ok s) (n : Nat) {w' : World} (hw : Grew s.w w') : Ok (s.room n w') where
  obj := fun id o hid => by
    rcases room_get hid with h1 | rfl
    · cases ha : o.alive with
      | false => cases o <;> first | trivial | cases ha
      | true => exact ObjR_mono (room_step n hw) rfl (fun b hb => hw.block b (own_lt hok ⟨id, o, h1, ha, hb⟩)) (hok.obj id o h1)
    · trivial
  inj := fun i j o p b hi hj ho hp hbi hbj => by
    rcases room_get hi with h1 | rfl
    · rcases room_get hj with h2 | rfl
      · exact hok.inj i j o p b h1 h2 ho hp hbi hbj
      · cases hp
    · cases ho
  fb := fun b hb => Nat.lt_of_lt_of_le (hok.fb b hb) hw.size
  dis := fun b h => hok.dis b (room_own h)

theorem drawA_ok (hm : P.follows .mixedOrders = true) (hT : TbOk P C.tb) (hD : SpecsOk P C.specs) (hdr : drawOk ops = true) (hN : ∀ o ∈ ops.toList, dstOk N o = true) {s : St} (hok : Ok s) {f : Tr} {a : Act} (hf : FR s f.get a) (ha : a.tmps.size = N)
    {K : Tr → Hp → Prop} (h : drawA C ops f s.h K) {Q : Exit → Act → World → Prop} (hQ : ∀ a' w', Post s N a.defers K a' w' → Q .normal a' w') {id : Nat} : (Code.region id ops true).wp P Q a s.w := by
  refine wp_region_any hm ?_
  unfold drawA at h
  obtain ⟨G, H, V, B, E, f', hG, hH, htk, hf', hK⟩ := drawGo_trace _ _ _ _ _ h
  have hlen : ops.toList.length = ops.size := Array.length_toList
  rw [Nat.zero_add, hlen] at hf' hK
  have T : Trc C ops s.h.length G H V B E := {
    tk := fun k o ho => by
      have := htk k o (by simpa using ho)
      rwa [Nat.zero_add] at this
    len := by rw [hH]; simp
    rsv := fun c hc => by
      rw [hH, List.getElem?_append_right (by omega), Nat.add_sub_cancel_left, List.getElem?_replicate, if_pos hc] }
  have hgrew : Grew s.w { s.w with drawn := s.w.drawn + 1 } := ⟨rfl, rfl, rfl, Nat.le_refl _, fun _ _ => rfl⟩
  have hst := room_step (s := s) ops.size hgrew
  have hok' := room_ok hok ops.size hgrew
  have hnone : ∀ (β : Type) (w : Nat → Bool) (val : Nat → β) (x0 : β), LW w val x0 (fun i => (Array.replicate ops.size false).getD i false) ops.size = x0 := fun β w val x0 =>
    LW_none ops.size (fun i hi _ => by rw [Array.getD_eq_getD_getElem?, Array.getElem?_replicate, if_pos hi]; rfl)
  have hcnt : ∀ m, m ≤ ops.size → cntF (fun i => (Array.replicate ops.size false).getD i false) m = m := by
    intro m
    induction m with
    | zero => intro _; rfl
    | succ m ih =>
      intro hm
      simp only [cntF]
      rw [ih (by omega)]
      have : (Array.replicate ops.size false).getD m false = false := by
        rw [Array.getD_eq_getD_getElem?, Array.getElem?_replicate, if_pos (by omega)]; rfl
      rw [this]
      rfl
  have hfalse : ∀ i, (Array.replicate ops.size false).getD i false = false := fun i => by
    rw [Array.getD_eq_getD_getElem?, Array.getElem?_replicate]
    split <;> rfl
  have I : DInv ops s.h.length G H B N a.defers (fun i => (Array.replicate ops.size false).getD i false) (s.room ops.size { s.w with drawn := s.w.drawn + 1 }) a := {
    hp := by
      apply List.ext_getElem?
      intro id
      by_cases hid : id < s.h.length + ops.size
      · rw [List.getElem?_map, List.getElem?_range hid]
        simp only [Option.map_some]
        rw [hnone, hH, List.getD_eq_getElem?_getD]
        show (s.h ++ List.replicate ops.size AObj.resv)[id]? = _
        rw [List.getElem?_eq_getElem (by simpa using hid)]
        rfl
      · rw [List.getElem?_map, List.getElem?_eq_none (l := List.range _) (by rw [List.length_range]; omega)]
        show (s.h ++ List.replicate ops.size AObj.resv)[id]? = _
        rw [List.getElem?_eq_none (by simp; omega)]
        rfl
    fr := fun t => by
      rw [hnone, hG]
      exact R_mono hst _ _ (hf t)
    ok := hok'
    size := ha
    dfr := rfl
    cl := fun j o e hj => by rw [hfalse] at hj; cases hj
    mkd := fun k c _ _ hk => by rw [hfalse] at hk; cases hk }
  refine drawn_run hT hD T hdr hN ops.size _ _ a (by simp) (hcnt _ (Nat.le_refl _)) I ?_
  intro s' a' h1 h2 h3 h4 h5 h6
  exact hQ _ _ ⟨⟨s', f', rfl, hst.trans h1, h2, fun t => by rw [hf']; exact h4 t, by rw [h3]; exact hK⟩, h6, h5⟩
end
end Av
