/-
  An abstract reading of values and memory: a region whose order is drawn; code.
-/
import Derived.Test.YtjlfkgffgnkflaaAvl
namespace Av
open Go

section
variable {P : Program} {sg : Nat → Bool} {C : Cx} {ops : Array Oper} {base : Nat} {G : Nat → Nat → AV} {H : Nat → Hp} {V : Nat → AV} {B : Nat → Option AObj} {E : Nat → Bool} {N : Nat} {ds : List Deferred}
/-- When nothing is ready all has run. -/
theorem stuck (hed : ∀ j o, ops[j]? = some o → edgesOk j o = true) {listed : Array Bool} (hsz : listed.size = ops.size) (hr : Region.ready .any ops listed = []) : ∀ i, i < ops.size → listed.getD i false = true := by
  intro i
  induction i using Nat.strongRecOn with
  | _ i ih =>
    intro hi
    cases hl : listed.getD i false with
    | true => rfl
    | false =>
      exfalso
      obtain ⟨o, ho⟩ := ops_get hi
      have hm : i ∈ Region.ready .any ops listed := by
        rw [mem_ready]
        refine ⟨?_, o, ho, fun e he hb => ?_⟩
        · rw [Array.getD_eq_getD_getElem?] at hl ⊢
          rw [Array.getElem?_eq_getElem (by omega)] at hl ⊢
          exact hl
        · have h1 := hed i o ho
          unfold edgesOk at h1
          rw [Bool.and_eq_true, List.all_eq_true] at h1
          have h2 := h1.1 e (Array.mem_toList_iff.2 he)
          rw [hb] at h2
          have h3 : e.on < i := by simpa using h2
          exact ih e.on h3 (by omega)
      rw [hr] at hm
      cases hm
theorem ready_at {listed : Array Bool} (hsz : listed.size = ops.size) {i : Nat} (hm : i ∈ Region.ready .any ops listed) : ∃ o, ops[i]? = some o ∧ i < ops.size ∧ listed.getD i false = false ∧ ∀ e ∈ o.after.toList, Region.binds .any e = true → listed.getD e.on false = true := by
  obtain ⟨h0, o, ho, hall⟩ := mem_ready.1 hm
  have hlt := ops_lt ho
  refine ⟨o, ho, hlt, ?_, fun e he hb => hall e (Array.mem_toList_iff.1 he) hb⟩
  rw [Array.getD_eq_getD_getElem?, Array.getElem?_eq_getElem (by omega)] at h0 ⊢
  exact h0
theorem listed_set {listed : Array Bool} (hsz : listed.size = ops.size) {i : Nat} (hlt : i < ops.size) : (fun k => (listed.setIfInBounds i true).getD k false) = fun k => listed.getD k false || decide (k = i) := by
  funext k
  rw [Array.getD_eq_getD_getElem?, Array.getD_eq_getD_getElem?, Array.getElem?_setIfInBounds]
  by_cases hk : k = i
  · subst hk
    simp [show k < listed.size by omega]
  · rw [if_neg (fun e => hk e.symm)]
    simp [hk]
theorem drawn_run (hT : TbOk P C.tb) (hD : SpecsOk P C.specs) (T : Trc sg C ops base G H V B E) {mc : Oper → Oper → Bool} (hed : ∀ j o, ops[j]? = some o → edgesOk j o = true) (hcf : ∀ i j x o, ops[i]? = some x → ops[j]? = some o → i < j → confM mc ops x o = true → Bef ops i j) (hmc : MCok mc ops sg base G H B) (hN : ∀ o ∈ ops.toList, dstOk N o = true) {lo hi : Nat} (hsg : ∀ k, sg k = true ↔ lo ≤ k ∧ k < hi) (hhi : hi ≤ ops.size)
    (hbar : hi < ops.size → (∀ i, i < hi → Bef ops i hi) ∧ (∀ k, hi < k → k < ops.size → Bef ops hi k)) {Q : Exit → Act → World → Prop} :
    ∀ (fuel : Nat) (listed : Array Bool) (s : St) (a : Act), listed.size = ops.size → cntF (fun i => listed.getD i false) ops.size = fuel → DInv sg ops base G H B N ds (fun i => listed.getD i false) s a →
      (∀ k, k < lo → listed.getD k false = true) → (∀ k, hi ≤ k → k < ops.size → listed.getD k false = false) →
      (∀ fuel' listed' s' a', listed'.size = ops.size → cntF (fun i => listed'.getD i false) ops.size = fuel' → (∀ k, k < hi → listed'.getD k false = true) → (∀ k, hi ≤ k → k < ops.size → listed'.getD k false = false) →
        (∀ j o e, listed'.getD j false = true → ops[j]? = some o → e ∈ o.after.toList → Region.binds .any e = true → listed'.getD e.on false = true) →
        Step s s' → Ok s' → s'.h = H ops.size → (∀ t, R s' (G ops.size t) (a'.tmps.getD t undef)) → a'.tmps.size = N → a'.defers = ds → wpAny P .any ops Q fuel' listed' a' s'.w) →
      wpAny P .any ops Q fuel listed a s.w := by
  have done : ∀ (fuel : Nat) (listed : Array Bool) (s : St) (a : Act), listed.size = ops.size → cntF (fun i => listed.getD i false) ops.size = fuel → (∀ i, i < hi → listed.getD i false = true) → (∀ k, hi ≤ k → k < ops.size → listed.getD k false = false) → DInv sg ops base G H B N ds (fun i => listed.getD i false) s a →
      (∀ fuel' listed' s' a', listed'.size = ops.size → cntF (fun i => listed'.getD i false) ops.size = fuel' → (∀ k, k < hi → listed'.getD k false = true) → (∀ k, hi ≤ k → k < ops.size → listed'.getD k false = false) →
        (∀ j o e, listed'.getD j false = true → ops[j]? = some o → e ∈ o.after.toList → Region.binds .any e = true → listed'.getD e.on false = true) →
        Step s s' → Ok s' → s'.h = H ops.size → (∀ t, R s' (G ops.size t) (a'.tmps.getD t undef)) → a'.tmps.size = N → a'.defers = ds → wpAny P .any ops Q fuel' listed' a' s'.w) → wpAny P .any ops Q fuel listed a s.w := by
    intro fuel listed s a hsz hc hall hhigh I hQ
    refine hQ fuel listed s a hsz hc hall hhigh I.cl (Step.refl s) I.ok ?_ (fun t => ?_) I.size I.dfr
    · apply List.ext_getElem?
      intro id
      by_cases hid : id < base + ops.size
      · rw [I.get hid, LW_all ops.size (fun i _ hw => hall i ((hsg i).1 (wH_sg hw)).2), ← T.hget id ops.size (Nat.le_refl _), List.getD_eq_getElem?_getD, List.getElem?_eq_getElem (by rw [T.lenk _ (Nat.le_refl _)]; exact hid)]
        rfl
      · rw [List.getElem?_eq_none (by rw [I.len]; omega), List.getElem?_eq_none (by rw [T.lenk _ (Nat.le_refl _)]; omega)]
    · have := I.fr t
      rw [LW_all ops.size (fun i _ hw => hall i ((hsg i).1 (wF_sg hw)).2), ← T.fget t ops.size (Nat.le_refl _)] at this
      exact this
  intro fuel
  induction fuel with
  | zero =>
    intro listed s a hsz hc I hlo hhigh hQ
    have hall := cntF_zero ops.size hc
    exact done 0 listed s a hsz hc (fun i hi' => hall i (by omega)) hhigh I hQ
  | succ fuel ih =>
    intro listed s a hsz hc I hlo hhigh hQ
    by_cases hall : ∀ i, i < hi → listed.getD i false = true
    · exact done _ listed s a hsz hc hall hhigh I hQ
    · refine ⟨fun hr => absurd (fun i hi' => stuck hed hsz hr i (by omega)) hall, fun i hm => ?_⟩
      obtain ⟨o, ho, hlt, h0', hrd⟩ := ready_at hsz hm
      have hrd' : ∀ o' e, ops[i]? = some o' → e ∈ o'.after.toList → Region.binds .any e = true → listed.getD e.on false = true := fun o' e ho' he hb => by
        rw [ho] at ho'; cases ho'; exact hrd e he hb
      have hihi : i < hi := by
        rcases Nat.lt_trichotomy i hi with h | h | h
        · exact h
        · subst h
          exact absurd (fun k hk => ((hbar hlt).1 k hk).ready I.cl hrd') hall
        · have h1 := ((hbar (by omega)).2 i h hlt).ready I.cl hrd'
          have h2 := hhigh hi (Nat.le_refl _) (by omega)
          rw [show listed.getD hi false = true from h1] at h2
          cases h2
      have hloi : lo ≤ i := by
        rcases Nat.lt_or_ge i lo with h | h
        · rw [hlo i h] at h0'; cases h0'
        · exact h
      have hset := listed_set (ops := ops) hsz hlt
      refine I.next hT hD T hcf hmc hN ho ((hsg i).2 ⟨hloi, hihi⟩) h0' hrd ?_
      intro s' a' hst I'
      have hk : ∀ k, (listed.setIfInBounds i true).getD k false = (listed.getD k false || decide (k = i)) := fun k => congrFun hset k
      refine ih (listed.setIfInBounds i true) s' a' (by simpa using hsz) ?_ (by rw [hset]; exact I') (fun k h => by rw [hk, hlo k h]; rfl) (fun k h h' => by rw [hk, hhigh k h h']; simp; omega) (fun f2 l2 s2 a2 e1 e2 e3 e4 e5 h1 => hQ f2 l2 s2 a2 e1 e2 e3 e4 e5 (hst.trans h1))
      rw [hset]
      have := cntF_add (S := fun k => listed.getD k false) (j := i) h0' ops.size
      rw [if_pos hlt] at this
      omega

/-- The state with room for n blocks. -/
def St.room (s : St) (n : Nat) (w' : World) : St := ⟨s.σ, s.h ++ List.replicate n .resv, w', s.F⟩
theorem room_get {s : St} {n : Nat} {w' : World} {id : Nat} {o : AObj} (h : (s.room n w').h[id]? = some o) : s.h[id]? = some o ∨ o = .resv := by
  have h : (s.h ++ List.replicate n AObj.resv)[id]? = some o := h
  rw [List.getElem?_append] at h
  split at h
  · exact .inl h
  · rw [List.getElem?_replicate] at h
    split at h
    · exact .inr (by cases h; rfl)
    · cases h
theorem room_own {s : St} {n : Nat} {w' : World} {b : Nat} (h : OwnI (s.room n w') b) : OwnI s b := by
  obtain ⟨id, o, h1, h2, h3⟩ := h
  rcases room_get h1 with h4 | rfl
  · exact ⟨id, o, h4, h2, h3⟩
  · cases h2
theorem room_step {s : St} (n : Nat) {w' : World} (hw : Grew s.w w') : Step s (s.room n w') where
  os := hw.os
  tape := hw.tape
  output := hw.output
  drawn := hw.drawn
  size := hw.size
  kn := fun id h => by
    unfold kn at h ⊢
    have hlt : id < s.h.length := by
      rcases Nat.lt_or_ge id s.h.length with h1 | h1
      · exact h1
      · rw [List.getElem?_eq_none h1] at h; cases h
    show (match (s.h ++ List.replicate n AObj.resv)[id]? with | some .resv => false | some _ => true | none => false) = true
    rw [List.getElem?_append_left hlt]
    exact h
  keep := fun b hb hn => ⟨fun h => hn (room_own h), hw.block b hb⟩
  frn := rfl
  cells := fun id T cs' _ hc => by
    rcases room_get hc with h1 | h1
    · exact ⟨rfl, cs', h1⟩
    · cases h1
  arr := fun id T t l' f' g _ hc => by
    rcases room_get hc with h1 | h1
    · exact ⟨l', f', g, h1, Nat.le_refl _, fun _ => ⟨rfl, rfl⟩⟩
    · cases h1
theorem room_ok {s : St} (hok : Ok s) (n : Nat) {w' : World} (hw : Grew s.w w') : Ok (s.room n w') where
  obj := fun id o hid => by
    rcases room_get hid with h1 | rfl
    · cases ha : o.alive with
      | false => cases o <;> first | trivial | cases ha
      | true => exact ObjR_mono (room_step n hw) rfl (fun b hb => hw.block b (own_lt hok ⟨id, o, h1, ha, hb⟩)) (hok.obj id o h1)
    · trivial
  inj := fun i j o p b hi hj ho hp hbi hbj => by
    rcases room_get hi with h1 | rfl
    · rcases room_get hj with h2 | rfl
      · exact hok.inj i j o p b h1 h2 ho hp hbi hbj
      · cases hp
    · cases ho
  fb := fun b hb => Nat.lt_of_lt_of_le (hok.fb b hb) hw.size
  dis := fun b h => hok.dis b (room_own h)

/-! ### Room that is given back -/
theorem trim_ok {s : St} (hok : Ok s) {k : Hp → Prop} (h : trimK s.h k) : ∃ s', s'.w = s.w ∧ Step s s' ∧ Ok s' ∧ k s'.h := by
  have key : ∀ (h : Hp) (k : Hp → Prop), trimK h k → ∃ h' n, h = h' ++ List.replicate n .resv ∧ k h' := by
    intro h
    induction h with
    | nil => exact fun k hk => ⟨[], 0, rfl, hk⟩
    | cons o h ih =>
      intro k hk
      simp only [trimK] at hk
      obtain ⟨r, n, rfl, h2⟩ := ih _ hk
      split at h2
      · split at h2
        · exact ⟨[], n + 1, by simp [List.replicate_succ], h2⟩
        · exact ⟨_, n, by simp, h2⟩
      · exact ⟨_, n, by simp, h2⟩
  obtain ⟨h', n, he, hk⟩ := key s.h k h
  have up : ∀ {i : Nat} {o : AObj}, h'[i]? = some o → s.h[i]? = some o := fun {i o} hi => by
    rw [he, List.getElem?_append_left (List.getElem?_eq_some_iff.1 hi).1]
    exact hi
  have down : ∀ {i : Nat} {o : AObj}, s.h[i]? = some o → o ≠ .resv → h'[i]? = some o := fun {i o} hi ho => by
    rw [he, List.getElem?_append] at hi
    split at hi
    · exact hi
    · rw [List.getElem?_replicate] at hi
      split at hi
      · cases hi; exact absurd rfl ho
      · cases hi
  have own : ∀ {b : Nat}, OwnI ⟨s.σ, h', s.w, s.F⟩ b → OwnI s b := fun {b} ⟨i, o, h1, h2, h3⟩ => ⟨i, o, up h1, h2, h3⟩
  have hst : Step s ⟨s.σ, h', s.w, s.F⟩ := {
    os := rfl
    tape := rfl
    output := rfl
    drawn := Nat.le_refl _
    size := Nat.le_refl _
    kn := fun i hi => by
      unfold Av.kn at hi ⊢
      cases ho : s.h[i]? with
      | none => rw [ho] at hi; cases hi
      | some o =>
        rw [ho] at hi
        have hne : o ≠ .resv := by rintro rfl; cases hi
        show (match h'[i]? with | some .resv => false | some _ => true | none => false) = true
        rw [down ho hne]
        exact hi
    keep := fun b _ hn => ⟨fun h => hn (own h), rfl⟩
    frn := rfl
    cells := fun i T cs' _ hc => ⟨rfl, cs', up hc⟩
    arr := fun i T t l' f' g _ hc => ⟨l', f', g, up hc, Nat.le_refl _, fun _ => ⟨rfl, rfl⟩⟩ }
  refine ⟨⟨s.σ, h', s.w, s.F⟩, rfl, hst, ?_, hk⟩
  exact {
    obj := fun i o hi => ObjR_mono hst rfl (fun _ _ => rfl) (hok.obj i o (up hi))
    inj := fun i j o p b hi hj ho hp => hok.inj i j o p b (up hi) (up hj) ho hp
    fb := hok.fb
    dis := fun b h => hok.dis b (own h) }
theorem trim_post {s : St} {N : Nat} {ds : List Deferred} {K : Tr → Hp → Prop} {f : Tr} {a : Act} (hok : Ok s) (hf : FR s f.get a) (hN : a.tmps.size = N) (hds : a.defers = ds) (h : trimK s.h fun h => K f h) : Post s N ds K a s.w := by
  obtain ⟨s', hw, hst, hok', hk⟩ := trim_ok hok h
  exact ⟨⟨s', f, hw, hst, hok', hf.step hst, hk⟩, hds, hN⟩
theorem wpAny_done {Q : Exit → Act → World → Prop} {listed : Array Bool} {a : Act} {w : World} (hsz : listed.size = ops.size) (hall : ∀ i, i < ops.size → listed.getD i false = true) (hQ : Q .normal a w) : ∀ fuel, wpAny P .any ops Q fuel listed a w := by
  have hr : Region.ready .any ops listed = [] := by
    cases hr : Region.ready .any ops listed with
    | nil => rfl
    | cons i l =>
      exfalso
      have hm : i ∈ Region.ready .any ops listed := by rw [hr]; simp
      obtain ⟨o, ho, hlt, h0, _⟩ := ready_at hsz hm
      rw [hall i hlt] at h0
      cases h0
  intro fuel
  cases fuel with
  | zero => exact ⟨hr, hQ⟩
  | succ n => exact ⟨fun _ => hQ, fun i hm => by rw [hr] at hm; cases hm⟩
theorem trimK_some : ∀ {h : Hp} {k : Hp → Prop}, trimK h k → ∃ h', k h'
  | [], k, hk => ⟨[], hk⟩
  | o :: h, k, hk => by
    simp only [trimK] at hk
    obtain ⟨r, h2⟩ := trimK_some hk
    split at h2
    · split at h2
      · exact ⟨_, h2⟩
      · exact ⟨_, h2⟩
    · exact ⟨_, h2⟩
/-- Why the order of a region does not matter. -/
inductive DMode (C : Cx) (ops : Array Oper) (K : Tr → Hp → Prop) (f : Tr) : Prop where
  | all (h : drawOkM (fun _ _ => true) ops = true) : DMode C ops K f
  | known (hb : hasBar C ops.toList = false) (h : drawOkM (mcF f ops) ops = true) : DMode C ops K f
  | left (hb : hasBar C ops.toList = false) (hs : ssaGo ops.toList = true) (hk : ∀ f2 h2, K f2 h2 → drawOkM (mcE f2.get) ops = true) : DMode C ops K f
theorem DMode.next {K : Tr → Hp → Prop} {f f2 : Tr} (h : DMode C ops K f) (hb : hasBar C ops.toList = true) : DMode C ops K f2 := by
  cases h with
  | all h => exact .all h
  | known hb2 _ => rw [hb] at hb2; cases hb2
  | left hb2 _ _ => rw [hb] at hb2; cases hb2
theorem drawGo_ok {call : CallA} (hT : TbOk P C.tb) (hD : SpecsOk P C.specs) (hcall : CallOk P call) (hN : ∀ o ∈ ops.toList, dstOk N o = true) (hbars : barsOk C ops = true) {K : Tr → Hp → Prop} {Q : Exit → Act → World → Prop} :
    ∀ (n : Nat) (l : List Oper) (i base : Nat) (f : Tr) (s : St) (a : Act) (listed : Array Bool) (fuel : Nat), l.length ≤ n → l = ops.toList.drop i → i ≤ ops.size → listed.size = ops.size → cntF (fun i => listed.getD i false) ops.size = fuel →
      (∀ k, k < i → listed.getD k false = true) → (∀ k, i ≤ k → k < ops.size → listed.getD k false = false) → Ok s → FR s f.get a → a.tmps.size = N → a.defers = ds →
      s.h.length = base + ops.size → (∀ c, c < ops.size → s.h[base + c]? = some .resv) → drawGo C call ops base i l f s.h K → DMode C ops K f → (∀ a' w', Post s N ds K a' w' → Q .normal a' w') → wpAny P .any ops Q fuel listed a s.w := by
  intro n
  induction n with
  | zero =>
    intro l i base f s a listed fuel hl hle hi hsz hc hlow hhigh hok hf ha hds hlen hrsv h hmf hQ
    have hnil : l = [] := List.eq_nil_of_length_eq_zero (by omega)
    have hi2 : i = ops.size := by
      have := congrArg List.length hle
      rw [hnil, List.length_drop, Array.length_toList] at this
      simp at this
      omega
    subst hnil
    exact wpAny_done hsz (fun k hk => hlow k (by omega)) (hQ _ _ (trim_post hok hf ha hds h)) _
  | succ n ih =>
    intro l i base f s a listed fuel hl hle hi hsz hc hlow hhigh hok hf ha hds hlen hrsv h hmf hQ
    obtain ⟨m, G, H, V, B, E, f', sgm⟩ := drawGo_trace _ _ _ _ _ _ h
    have hll : l.length = ops.size - i := by rw [hle, List.length_drop, Array.length_toList]
    have hm := sgm.le
    have hget : ∀ k, l[k]? = ops[i + k]? := fun k => by rw [hle, List.getElem?_drop]; simp
    let sg : Nat → Bool := fun k => decide (i ≤ k) && decide (k < i + m)
    have hsg : ∀ k, sg k = true ↔ i ≤ k ∧ k < i + m := fun k => by simp [sg]
    have hH0 : H 0 = s.h := (sgm.low 0 (by omega)).2
    have T : Trc sg C ops base G H V B E := {
      tk := fun k o ho hs => by
        obtain ⟨h1, h2⟩ := (hsg k).1 hs
        have := sgm.tk (k - i) o (by omega) (by rw [hget, show i + (k - i) = k by omega]; exact ho)
        rwa [show i + (k - i) = k by omega] at this
      stay := fun k _ hs => by
        have hs' : ¬ (i ≤ k ∧ k < i + m) := fun h => by rw [(hsg k).2 h] at hs; cases hs
        rcases Nat.lt_or_ge k i with h1 | h1
        · rw [(sgm.low k (by omega)).1, (sgm.low k (by omega)).2, (sgm.low (k + 1) (by omega)).1, (sgm.low (k + 1) (by omega)).2]
          exact ⟨rfl, rfl⟩
        · rw [(sgm.high k (by omega)).1, (sgm.high k (by omega)).2, (sgm.high (k + 1) (by omega)).1, (sgm.high (k + 1) (by omega)).2]
          exact ⟨rfl, rfl⟩
      len := by rw [hH0]; exact hlen
      rsv := fun c hc => by rw [hH0]; exact hrsv c hc }
    have hend : H ops.size = H (i + m) ∧ G ops.size = f'.get := by
      have := sgm.high ops.size (by omega)
      exact ⟨this.2, this.1⟩
    have hfin := sgm.fin
    have hrest : l.drop m = ops.toList.drop (i + m) := by rw [hle, List.drop_drop]
    obtain ⟨mc, hdk, hmc⟩ : ∃ mc, drawOkM mc ops = true ∧ MCok mc ops sg base G H B := by
      cases hmf with
      | all h => exact ⟨_, h, MCok.all⟩
      | known hb h => exact ⟨_, h, MCok.known T (sgm.low 0 (by omega)).1⟩
      | left hb hs hk =>
        have hfin := hfin
        cases hd : l.drop m with
        | nil =>
          rw [hd] at hfin
          have hfin : trimK (H (i + m)) fun h => K f' h := hfin
          obtain ⟨h2, hK⟩ := trimK_some hfin
          exact ⟨_, hk _ _ hK, MCok.left T hs hend.2⟩
        | cons o rest =>
          rw [hd] at hfin
          have := hasBar_no hb o (by
            have : o ∈ l.drop m := by rw [hd]; exact List.mem_cons_self
            rw [hrest] at this
            exact List.mem_of_mem_drop this)
          rw [hfin.1] at this
          cases this
    obtain ⟨hed, hcf⟩ := drawOk_spec hdk
    have hwn : ∀ k, k < ops.size → sg k = true → listed.getD k false = false := fun k hk hs => hhigh k ((hsg k).1 hs).1 hk
    have I : DInv sg ops base G H B N ds (fun i => listed.getD i false) s a := {
      hp := by
        apply List.ext_getElem?
        intro id
        by_cases hid : id < base + ops.size
        · rw [List.getElem?_map, List.getElem?_range hid]
          simp only [Option.map_some]
          rw [LW_none ops.size (fun k hk hw => hwn k hk (wH_sg hw)), hH0, List.getD_eq_getElem?_getD, List.getElem?_eq_getElem (by omega)]
          rfl
        · rw [List.getElem?_map, List.getElem?_eq_none (l := List.range _) (by rw [List.length_range]; omega), List.getElem?_eq_none (by omega)]
          rfl
      fr := fun t => by
        rw [LW_none ops.size (fun k hk hw => hwn k hk (wF_sg hw)), (sgm.low 0 (by omega)).1]
        exact hf t
      ok := hok
      size := ha
      dfr := hds
      cl := fun j o e hj ho he hb => by
        have h1 := hed j o ho
        unfold edgesOk at h1
        rw [Bool.and_eq_true, List.all_eq_true] at h1
        have h2 := h1.1 e he
        rw [hb] at h2
        have h3 : e.on < j := by simpa using h2
        refine hlow _ ?_
        rcases Nat.lt_or_ge j i with h4 | h4
        · omega
        · rw [hhigh j h4 (ops_lt ho)] at hj; cases hj
      mkd := fun k c hk _ hS hw => by
        rw [hwn k hk (wH_sg hw)] at hS; cases hS }
    refine drawn_run hT hD T hed hcf hmc hN hsg (by omega) (fun hlt => ?_) fuel listed s a hsz hc I hlow (fun k h1 h2 => hhigh k (by omega) h2) ?_
    · obtain ⟨o, ho⟩ := ops_get hlt
      have hd : l.drop m = o :: ops.toList.drop (i + m + 1) := by
        rw [hrest, List.drop_eq_getElem_cons (by simpa using hlt)]
        congr 1
        have := ho
        rw [Array.getElem?_eq_getElem hlt] at this
        simpa using Option.some.inj this
      rw [hd] at hfin
      exact barsOk_spec hbars ho hfin.1
    · intro fuel' listed' s' a' hsz' hc' hlow' hhigh' hcl' hst hok' hh' hf' ha' hds'
      rw [hend.1] at hh'
      rw [hend.2] at hf'
      rcases Nat.lt_or_ge (i + m) ops.size with hlt | hge
      · obtain ⟨o, ho⟩ := ops_get hlt
        have hd : l.drop m = o :: ops.toList.drop (i + m + 1) := by
          rw [hrest, List.drop_eq_getElem_cons (by simpa using hlt)]
          congr 1
          have := ho
          rw [Array.getElem?_eq_getElem hlt] at this
          simpa using Option.some.inj this
        rw [hd] at hfin
        obtain ⟨hb, hops⟩ := hfin
        have hbar := barsOk_spec hbars ho hb
        have hbt : hasBar C ops.toList = true := by
          cases hh : hasBar C ops.toList with
          | true => rfl
          | false =>
            have := hasBar_no hh o (by
              obtain ⟨hl2, he⟩ := Array.getElem?_eq_some_iff.1 ho
              rw [← he]
              exact Array.mem_toList_iff.2 (Array.getElem_mem hl2))
            rw [hb] at this
            cases this
        have hmem : o ∈ ops.toList := by
          obtain ⟨hl2, he⟩ := Array.getElem?_eq_some_iff.1 ho
          rw [← he]
          exact Array.mem_toList_iff.2 (Array.getElem_mem hl2)
        have hun := hhigh' (i + m) (Nat.le_refl _) hlt
        have hcadd := cntF_add (S := fun k => listed'.getD k false) (j := i + m) hun ops.size
        rw [if_pos hlt] at hcadd
        obtain ⟨q, rfl⟩ : ∃ q, fuel' = q + 1 := ⟨fuel' - 1, by omega⟩
        refine ⟨fun hr => ?_, fun k hk => ?_⟩
        · rw [stuck hed hsz' hr (i + m) hlt] at hun; cases hun
        · obtain ⟨o', ho', hlt', h0', hrd⟩ := ready_at hsz' hk
          have hki : k = i + m := by
            rcases Nat.lt_trichotomy k (i + m) with h1 | h1 | h1
            · rw [hlow' k h1] at h0'; cases h0'
            · exact h1
            · have := (hbar.2 k h1 hlt').ready hcl' (fun o2 e ho2 he hb2 => by rw [ho'] at ho2; cases ho2; exact hrd e he hb2)
              rw [show listed'.getD (i + m) false = true from this] at hun; cases hun
          subst hki
          rw [← hh'] at hops
          obtain ⟨st, hwt, hstt, hokt, hops⟩ := trim_ok hok' hops
          have hft : FR st f'.get a' := FR.step (g := f'.get) hf' hstt
          rw [← hwt]
          refine opA1_ok hT hD hcall hN ho (hN o hmem) hokt hft ha' hops ?_
          rintro a2 w2 ⟨⟨s2, f2, rfl, st2, ok2, fr2, hk2⟩, hd2, hs2⟩
          have hset := listed_set (ops := ops) hsz' hlt
          have hkk : ∀ k, (listed'.setIfInBounds (i + m) true).getD k false = (listed'.getD k false || decide (k = i + m)) := fun k => congrFun hset k
          have hst3 := room_step (s := s2) ops.size (Grew.refl s2.w)
          have hlr : (ops.toList.drop (i + m + 1)).length = ops.size - (i + m + 1) := by rw [List.length_drop, Array.length_toList]
          refine ih (ops.toList.drop (i + m + 1)) (i + m + 1) s2.h.length f2 (s2.room ops.size s2.w) a2 (listed'.setIfInBounds (i + m) true) q (by omega) rfl (by omega) (by simpa using hsz') ?_ ?_ ?_ (room_ok ok2 ops.size (Grew.refl s2.w)) (fr2.step hst3) hs2 (hd2.trans hds') ?_ ?_ hk2 (hmf.next hbt) ?_
          · rw [hset]; omega
          · intro k hk
            rw [hkk]
            by_cases h1 : k = i + m
            · simp [h1]
            · rw [hlow' k (by omega)]; rfl
          · intro k h1 h2
            rw [hkk, hhigh' k (by omega) h2]
            simp
            omega
          · show (s2.h ++ List.replicate ops.size AObj.resv).length = _
            simp
          · intro c hc
            show (s2.h ++ List.replicate ops.size AObj.resv)[_]? = _
            rw [List.getElem?_append_right (by omega), Nat.add_sub_cancel_left, List.getElem?_replicate, if_pos hc]
          · intro a3 w3 hp
            exact hQ a3 w3 ((((hp.trans hst3).trans st2).trans hstt).trans hst)
      · have hnil : l.drop m = [] := by rw [hrest]; exact List.drop_eq_nil_of_le (by simpa using hge)
        rw [hnil] at hfin
        have hfin : trimK (H (i + m)) fun h => K f' h := hfin
        rw [← hh'] at hfin
        exact wpAny_done hsz' (fun k hk => hlow' k (by omega)) (hQ _ _ ((trim_post (K := K) hok' hf' ha' hds' hfin).trans hst)) _

theorem drawC_ok {call : CallA} (hm : P.follows .mixedOrders = true) (hT : TbOk P C.tb) (hD : SpecsOk P C.specs) (hcall : CallOk P call) (hdr : (drawOk ops || Nat.ble 2 (stores ops.toList)) = true) (hN : ∀ o ∈ ops.toList, dstOk N o = true) {s : St} (hok : Ok s) {f : Tr} {a : Act} (hf : FR s f.get a) (ha : a.tmps.size = N)
    {K : Tr → Hp → Prop} (h : drawC C call ops f s.h K) {Q : Exit → Act → World → Prop} (hQ : ∀ a' w', Post s N a.defers K a' w' → Q .normal a' w') {id : Nat} : (Code.region id ops true).wp P Q a s.w := by
  refine wp_region_any hm ?_
  have hgrew : Grew s.w { s.w with drawn := s.w.drawn + 1 } := ⟨rfl, rfl, rfl, Nat.le_succ _, Nat.le_refl _, fun _ _ => rfl⟩
  have hst := room_step (s := s) ops.size hgrew
  have hfalse : ∀ i, (Array.replicate ops.size false).getD i false = false := fun i => by
    rw [Array.getD_eq_getD_getElem?, Array.getElem?_replicate]
    split <;> rfl
  have hcnt : ∀ m, m ≤ ops.size → cntF (fun i => (Array.replicate ops.size false).getD i false) m = m := by
    intro m
    induction m with
    | zero => intro _; rfl
    | succ m ih =>
      intro hm
      simp only [cntF]
      rw [ih (by omega), hfalse m]
      rfl
  have go : ∀ (K' : Tr → Hp → Prop), barsOk C ops = true → DMode C ops K' f → (lenK s.h fun b => roomK s.h ops.size fun h => drawGo C call ops b 0 ops.toList f h K') → (∀ a' w', Post s N a.defers K' a' w' → Q .normal a' w') → wpAny P .any ops Q ops.size (Array.replicate ops.size false) a { s.w with drawn := s.w.drawn + 1 } := by
    intro K' hbars hmode h hQ
    simp only [lenK_eq, roomK_eq] at h
    refine drawGo_ok hT hD hcall hN hbars ops.toList.length ops.toList 0 s.h.length f (s.room ops.size { s.w with drawn := s.w.drawn + 1 }) a _ ops.size (Nat.le_refl _) (by simp) (by omega) (by simp) (hcnt _ (Nat.le_refl _)) (fun k hk => by omega) (fun k _ _ => hfalse k) (room_ok hok ops.size hgrew) (hf.step hst) ha rfl ?_ ?_ h hmode ?_
    · show (s.h ++ List.replicate ops.size AObj.resv).length = _
      simp
    · intro c hc
      show (s.h ++ List.replicate ops.size AObj.resv)[_]? = _
      rw [List.getElem?_append_right (by omega), Nat.add_sub_cancel_left, List.getElem?_replicate, if_pos hc]
    · intro a' w' hp
      exact hQ a' w' (hp.trans hst)
  have hnb : hasBar C ops.toList = false → barsOk C ops = true := fun hb => by unfold barsOk; rw [hb]
  unfold drawC at h
  split at h
  · split at h
    · rename_i hchk
      rw [Bool.and_eq_true] at hchk
      exact go K hchk.2 (.all hchk.1) h hQ
    · exact h.elim
  · rename_i hb
    split at h
    · rename_i hchk
      exact go K (hnb hb) (.known hb hchk) h hQ
    · split at h
      · rename_i hs
        refine go _ (hnb hb) (.left hb hs ?_) h ?_
        · intro f2 h2 hk
          split at hk
          · rename_i hd; exact hd
          · exact hk.elim
        · intro a' w' hp
          obtain ⟨⟨s2, f2, h1, h2, h3, h4, h5⟩, h6, h7⟩ := hp
          refine hQ a' w' ⟨⟨s2, f2, h1, h2, h3, h4, ?_⟩, h6, h7⟩
          split at h5
          · exact h5
          · exact h5.elim
      · exact h.elim
  · rename_i hst2
    split at h
    · rename_i hchk
      rw [hst2, Bool.or_false] at hdr
      exact go K hchk (.all hdr) h hQ
    · exact h.elim
theorem drawA_ok {call : CallA} (hm : P.follows .mixedOrders = true) (hT : TbOk P C.tb) (hD : SpecsOk P C.specs) (hcall : CallOk P call) (hdr : (drawOk ops || Nat.ble 2 (stores ops.toList)) = true) (hN : ∀ o ∈ ops.toList, dstOk N o = true) {s : St} (hok : Ok s) {f : Tr} {a : Act} (hf : FR s f.get a) (ha : a.tmps.size = N)
    {K : Tr → Hp → Prop} (h : drawA C call ops f s.h K) {Q : Exit → Act → World → Prop} (hQ : ∀ a' w', Post s N a.defers K a' w' → Q .normal a' w') {id : Nat} : (Code.region id ops true).wp P Q a s.w := by
  unfold drawA at h
  split at h
  · obtain ⟨nz, hh⟩ := h
    obtain ⟨s1, f1, h1, h2, h3, h4, h5⟩ := normK_ok nz f s _ hok hf hh
    have := drawC_ok hm hT hD hcall hdr hN h2 h3 ha h5 (Q := Q) (fun a' w' hp => hQ a' w' (hp.trans h1)) (id := id)
    rw [h4] at this
    exact this
  · exact drawC_ok hm hT hD hcall hdr hN hok hf ha h hQ
end
end Av
