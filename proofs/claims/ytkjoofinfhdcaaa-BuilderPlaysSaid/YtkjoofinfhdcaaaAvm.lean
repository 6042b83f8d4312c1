/-
  An abstract reading of values and memory: a region whose order is drawn; code.
-/
import Derived.Test.YtkjoofinfhdcaaaAvl
namespace Av
open Go

section
variable {P : Program} {sg : Nat → Bool} {C : Cx} {ops : Array Oper} {base : Nat} {G : Nat → Nat → AV} {H : Nat → Hp} {V : Nat → AV} {B : Nat → Option AObj} {E : Nat → Bool} {N : Nat} {ds : List Deferred}
theorem stuck (hed : ∀ j o, ops[j]? = some o → edgesOk j o = true) {listed : Array Bool} (hsz : listed.size = ops.size) (hr : Region.ready .any ops listed = []) : ∀ i, i < ops.size → listed.getD i false = true := by
 intro i
 induction i using Nat.strongRecOn with
 | _ i ih =>
  intro hi
  cases hl : listed.getD i false with
  | true => rfl
  | false =>
   exfalso
   obtain ⟨o, ho⟩ := ops_get hi
   have hm : i ∈ Region.ready .any ops listed := by
    rw [mem_ready]
    refine ⟨?_, o, ho, fun e he hb => ?_⟩
    ·rw [Array.getD_eq_getD_getElem?] at hl ⊢
     rw [Array.getElem?_eq_getElem (by omega)] at hl ⊢
     exact hl
    ·have h1 := hed i o ho
     unfold edgesOk at h1
     rw [Bool.and_eq_true, List.all_eq_true] at h1
     have h2 := h1.1 e (Array.mem_toList_iff.2 he)
     rw [hb] at h2
     have h3 : e.on < i := by simpa using h2
     exact ih e.on h3 (by omega)
   rw [hr] at hm
   cases hm
theorem ready_at {listed : Array Bool} (hsz : listed.size = ops.size) {i : Nat} (hm : i ∈ Region.ready .any ops listed) : ∃ o, ops[i]? = some o ∧ i < ops.size ∧ listed.getD i false = false ∧ ∀ e ∈ o.after.toList, Region.binds .any e = true → listed.getD e.on false = true := by
 obtain ⟨h0, o, ho, hall⟩ := mem_ready.1 hm
 have hlt := ops_lt ho
 refine ⟨o, ho, hlt, ?_, fun e he hb => hall e (Array.mem_toList_iff.1 he) hb⟩
 rw [Array.getD_eq_getD_getElem?, Array.getElem?_eq_getElem (by omega)] at h0 ⊢
 exact h0
theorem listed_set {listed : Array Bool} (hsz : listed.size = ops.size) {i : Nat} (hlt : i < ops.size) : (fun k => (listed.setIfInBounds i true).getD k false) = fun k => listed.getD k false || decide (k = i) := by
 funext k
 rw [Array.getD_eq_getD_getElem?, Array.getD_eq_getD_getElem?, Array.getElem?_setIfInBounds]
 by_cases hk : k = i
 ·subst hk
  simp [show k < listed.size by omega]
 ·rw [if_neg (fun e => hk e.symm)]
  simp [hk]
theorem drawn_run (hT : TbOk P C.tb) (hD : SpecsOk P C.specs) (T : Trc sg C ops base G H V B E) {mc : Oper → Oper → Bool} (hed : ∀ j o, ops[j]? = some o → edgesOk j o = true) (hcf : ∀ i j x o, ops[i]? = some x → ops[j]? = some o → i < j → confM mc ops x o = true → Bef ops i j) {prt : Prt} (hprt : PRok C ops sg base G H V B E prt) (hmc : MCok mc ops sg base G H B prt) (hN : ∀ o ∈ ops.toList, dstOk N o = true) {lo hi : Nat} (hsg : ∀ k, sg k = true ↔ lo ≤ k ∧ k < hi) (hhi : hi ≤ ops.size)
  (hbar : hi < ops.size → (∀ i, i < hi → Bef ops i hi) ∧ (∀ k, hi < k → k < ops.size → Bef ops hi k)) {Q : Exit → Act → World → Prop} :
  ∀ (fuel : Nat) (listed : Array Bool) (s : St) (a : Act), listed.size = ops.size → cntF (fun i => listed.getD i false) ops.size = fuel → DInv sg ops base G H B prt N ds (fun i => listed.getD i false) s a →
   (∀ k, k < lo → listed.getD k false = true) → (∀ k, hi ≤ k → k < ops.size → listed.getD k false = false) →
   (∀ fuel' listed' s' a', listed'.size = ops.size → cntF (fun i => listed'.getD i false) ops.size = fuel' → (∀ k, k < hi → listed'.getD k false = true) → (∀ k, hi ≤ k → k < ops.size → listed'.getD k false = false) →
    (∀ j o e, listed'.getD j false = true → ops[j]? = some o → e ∈ o.after.toList → Region.binds .any e = true → listed'.getD e.on false = true) →
    Step s s' → Ok s' → s'.h = H ops.size → (∀ t, R s' (G ops.size t) (a'.tmps.getD t undef)) → a'.tmps.size = N → a'.defers = ds → wpAny P .any ops Q fuel' listed' a' s'.w) →
   wpAny P .any ops Q fuel listed a s.w := by
 have done : ∀ (fuel : Nat) (listed : Array Bool) (s : St) (a : Act), listed.size = ops.size → cntF (fun i => listed.getD i false) ops.size = fuel → (∀ i, i < hi → listed.getD i false = true) → (∀ k, hi ≤ k → k < ops.size → listed.getD k false = false) → DInv sg ops base G H B prt N ds (fun i => listed.getD i false) s a →
   (∀ fuel' listed' s' a', listed'.size = ops.size → cntF (fun i => listed'.getD i false) ops.size = fuel' → (∀ k, k < hi → listed'.getD k false = true) → (∀ k, hi ≤ k → k < ops.size → listed'.getD k false = false) →
    (∀ j o e, listed'.getD j false = true → ops[j]? = some o → e ∈ o.after.toList → Region.binds .any e = true → listed'.getD e.on false = true) →
    Step s s' → Ok s' → s'.h = H ops.size → (∀ t, R s' (G ops.size t) (a'.tmps.getD t undef)) → a'.tmps.size = N → a'.defers = ds → wpAny P .any ops Q fuel' listed' a' s'.w) → wpAny P .any ops Q fuel listed a s.w := by
  intro fuel listed s a hsz hc hall hhigh I hQ
  refine hQ fuel listed s a hsz hc hall hhigh I.cl (Step.refl s) I.ok ?_ (fun t => ?_) I.size I.dfr
  ·apply List.ext_getElem?
   intro id
   by_cases hid : id < base + ops.size
   ·rw [I.get hid, FW_all ops.size (fun i _ hw => hall i ((hsg i).1 (wH_sg hw)).2), ← T.hget hprt id ops.size (Nat.le_refl _), List.getD_eq_getElem?_getD, List.getElem?_eq_getElem (by rw [T.lenk _ (Nat.le_refl _)]; exact hid)]
    rfl
   ·rw [List.getElem?_eq_none (by rw [I.len]; omega), List.getElem?_eq_none (by rw [T.lenk _ (Nat.le_refl _)]; omega)]
  ·have := I.fr t
   rw [LW_all ops.size (fun i _ hw => hall i ((hsg i).1 (wF_sg hw)).2), ← T.fget t ops.size (Nat.le_refl _)] at this
   exact this
 intro fuel
 induction fuel with
 | zero =>
  intro listed s a hsz hc I hlo hhigh hQ
  have hall := cntF_zero ops.size hc
  exact done 0 listed s a hsz hc (fun i hi' => hall i (by omega)) hhigh I hQ
 | succ fuel ih =>
  intro listed s a hsz hc I hlo hhigh hQ
  by_cases hall : ∀ i, i < hi → listed.getD i false = true
  ·exact done _ listed s a hsz hc hall hhigh I hQ
  ·refine ⟨fun hr => absurd (fun i hi' => stuck hed hsz hr i (by omega)) hall, fun i hm => ?_⟩
   obtain ⟨o, ho, hlt, h0', hrd⟩ := ready_at hsz hm
   have hrd' : ∀ o' e, ops[i]? = some o' → e ∈ o'.after.toList → Region.binds .any e = true → listed.getD e.on false = true := fun o' e ho' he hb => by
    rw [ho] at ho'; cases ho'; exact hrd e he hb
   have hihi : i < hi := by
    rcases Nat.lt_trichotomy i hi with h | h | h
    ·exact h
    ·subst h
     exact absurd (fun k hk => ((hbar hlt).1 k hk).ready I.cl hrd') hall
    ·have h1 := ((hbar (by omega)).2 i h hlt).ready I.cl hrd'
     have h2 := hhigh hi (Nat.le_refl _) (by omega)
     rw [show listed.getD hi false = true from h1] at h2
     cases h2
   have hloi : lo ≤ i := by
    rcases Nat.lt_or_ge i lo with h | h
    ·rw [hlo i h] at h0'; cases h0'
    ·exact h
   have hset := listed_set (ops := ops) hsz hlt
   refine I.next hT hD T hcf hprt hmc hN ho ((hsg i).2 ⟨hloi, hihi⟩) h0' hrd ?_
   intro s' a' hst I'
   have hk : ∀ k, (listed.setIfInBounds i true).getD k false = (listed.getD k false || decide (k = i)) := fun k => congrFun hset k
   refine ih (listed.setIfInBounds i true) s' a' (by simpa using hsz) ?_ (by rw [hset]; exact I') (fun k h => by rw [hk, hlo k h]; rfl) (fun k h h' => by rw [hk, hhigh k h h']; simp; omega) (fun f2 l2 s2 a2 e1 e2 e3 e4 e5 h1 => hQ f2 l2 s2 a2 e1 e2 e3 e4 e5 (hst.trans h1))
   rw [hset]
   have := cntF_add (S := fun k => listed.getD k false) (j := i) h0' ops.size
   rw [if_pos hlt] at this
   omega

def St.room (s : St) (n : Nat) (w' : World) : St := ⟨s.σ, s.h ++ List.replicate n .resv, w', s.F⟩
theorem room_get {s : St} {n : Nat} {w' : World} {id : Nat} {o : AObj} (h : (s.room n w').h[id]? = some o) : s.h[id]? = some o ∨ o = .resv := by
 have h : (s.h ++ List.replicate n AObj.resv)[id]? = some o := h
 rw [List.getElem?_append] at h
 split at h
 ·exact .inl h
 ·rw [List.getElem?_replicate] at h
  split at h
  ·exact .inr (by cases h; rfl)
  ·cases h
theorem room_own {s : St} {n : Nat} {w' : World} {b : Nat} (h : OwnI (s.room n w') b) : OwnI s b := by
 obtain ⟨id, o, h1, h2, h3⟩ := h
 rcases room_get h1 with h4 | rfl
 ·exact ⟨id, o, h4, h2, h3⟩
 ·cases h2
theorem room_step {s : St} (n : Nat) {w' : World} (hw : Grew s.w w') : Step s (s.room n w') where
 os := hw.os
 tape := hw.tape
 output := hw.output
 drawn := hw.drawn
 size := hw.size
 kn := fun id h => by
  unfold kn at h ⊢
  have hlt : id < s.h.length := by
   rcases Nat.lt_or_ge id s.h.length with h1 | h1
   ·exact h1
   ·rw [List.getElem?_eq_none h1] at h; cases h
  show (match (s.h ++ List.replicate n AObj.resv)[id]? with | some .resv => false | some _ => true | none => false) = true
  rw [List.getElem?_append_left hlt]
  exact h
 keep := fun b hb hn => ⟨fun h => hn (room_own h), hw.block b hb⟩
 frn := rfl
 cells := fun id T cs' _ hc => by
  rcases room_get hc with h1 | h1
  ·exact ⟨rfl, cs', h1⟩
  ·cases h1
 oth := fun id o' _ hc => by
  rcases room_get hc with h1 | h1
  ·exact ⟨rfl, o', h1⟩
  ·cases h1
 arr := fun id T t l' f' g _ hc => by
  rcases room_get hc with h1 | h1
  ·exact ⟨l', f', g, h1, Nat.le_refl _, fun _ => ⟨rfl, rfl⟩⟩
  ·cases h1
theorem room_ok {s : St} (hok : Ok s) (n : Nat) {w' : World} (hw : Grew s.w w') : Ok (s.room n w') where
 obj := fun id o hid => by
  rcases room_get hid with h1 | rfl
  ·cases ha : o.alive with
   | false => cases o <;> first | trivial | cases ha
   | true => exact ObjR_mono (room_step n hw) rfl (fun b hb => hw.block b (own_lt hok ⟨id, o, h1, ha, hb⟩)) (hok.obj id o h1)
  ·trivial
 inj := fun i j o p b hi hj ho hp hbi hbj => by
  rcases room_get hi with h1 | rfl
  ·rcases room_get hj with h2 | rfl
   ·exact hok.inj i j o p b h1 h2 ho hp hbi hbj
   ·cases hp
  ·cases ho
 fb := fun b hb => Nat.lt_of_lt_of_le (hok.fb b hb) hw.size
 dis := fun b h => hok.dis b (room_own h)

/-! ### Room that is given back -/
theorem trim_ok {s : St} (hok : Ok s) {k : Hp → Prop} (h : trimK s.h k) : ∃ s', s'.w = s.w ∧ Step s s' ∧ Ok s' ∧ k s'.h := by
 have key : ∀ (h : Hp) (k : Hp → Prop), trimK h k → ∃ h' n, h = h' ++ List.replicate n .resv ∧ k h' := by
  intro h
  induction h with
  | nil => exact fun k hk => ⟨[], 0, rfl, hk⟩
  | cons o h ih =>
   intro k hk
   simp only [trimK] at hk
   obtain ⟨r, n, rfl, h2⟩ := ih _ hk
   split at h2
   ·split at h2
    ·exact ⟨[], n + 1, by simp [List.replicate_succ], h2⟩
    ·exact ⟨_, n, by simp, h2⟩
   ·exact ⟨_, n, by simp, h2⟩
 obtain ⟨h', n, he, hk⟩ := key s.h k h
 have up : ∀ {i : Nat} {o : AObj}, h'[i]? = some o → s.h[i]? = some o := fun {i o} hi => by
  rw [he, List.getElem?_append_left (List.getElem?_eq_some_iff.1 hi).1]
  exact hi
 have down : ∀ {i : Nat} {o : AObj}, s.h[i]? = some o → o ≠ .resv → h'[i]? = some o := fun {i o} hi ho => by
  rw [he, List.getElem?_append] at hi
  split at hi
  ·exact hi
  ·rw [List.getElem?_replicate] at hi
   split at hi
   ·cases hi; exact absurd rfl ho
   ·cases hi
 have own : ∀ {b : Nat}, OwnI ⟨s.σ, h', s.w, s.F⟩ b → OwnI s b := fun {b} ⟨i, o, h1, h2, h3⟩ => ⟨i, o, up h1, h2, h3⟩
 have hst : Step s ⟨s.σ, h', s.w, s.F⟩ := {
  os := rfl
  tape := rfl
  output := rfl
  drawn := Nat.le_refl _
  size := Nat.le_refl _
  kn := fun i hi => by
   unfold Av.kn at hi ⊢
   cases ho : s.h[i]? with
   | none => rw [ho] at hi; cases hi
   | some o =>
    rw [ho] at hi
    have hne : o ≠ .resv := by rintro rfl; cases hi
    show (match h'[i]? with | some .resv => false | some _ => true | none => false) = true
    rw [down ho hne]
    exact hi
  keep := fun b _ hn => ⟨fun h => hn (own h), rfl⟩
  frn := rfl
  cells := fun i T cs' _ hc => ⟨rfl, cs', up hc⟩
  oth := fun i o' _ hc => ⟨rfl, o', up hc⟩
  arr := fun i T t l' f' g _ hc => ⟨l', f', g, up hc, Nat.le_refl _, fun _ => ⟨rfl, rfl⟩⟩ }
 refine ⟨⟨s.σ, h', s.w, s.F⟩, rfl, hst, ?_, hk⟩
 exact {
  obj := fun i o hi => ObjR_mono hst rfl (fun _ _ => rfl) (hok.obj i o (up hi))
  inj := fun i j o p b hi hj ho hp => hok.inj i j o p b (up hi) (up hj) ho hp
  fb := hok.fb
  dis := fun b h => hok.dis b (own h) }
theorem trim_post {s : St} {N : Nat} {ds : List Deferred} {K : Tr → Hp → Prop} {f : Tr} {a : Act} (hok : Ok s) (hf : FR s f.get a) (hN : a.tmps.size = N) (hds : a.defers = ds) (h : trimK s.h fun h => K f h) : Post s N ds K a s.w := by
 obtain ⟨s', hw, hst, hok', hk⟩ := trim_ok hok h
 exact ⟨⟨s', f, hw, hst, hok', hf.step hst, hk⟩, hds, hN⟩
theorem wpAny_done {Q : Exit → Act → World → Prop} {listed : Array Bool} {a : Act} {w : World} (hsz : listed.size = ops.size) (hall : ∀ i, i < ops.size → listed.getD i false = true) (hQ : Q .normal a w) : ∀ fuel, wpAny P .any ops Q fuel listed a w := by
 have hr : Region.ready .any ops listed = [] := by
  cases hr : Region.ready .any ops listed with
  | nil => rfl
  | cons i l =>
   exfalso
   have hm : i ∈ Region.ready .any ops listed := by rw [hr]; simp
   obtain ⟨o, ho, hlt, h0, _⟩ := ready_at hsz hm
   rw [hall i hlt] at h0
   cases h0
 intro fuel
 cases fuel with
 | zero => exact ⟨hr, hQ⟩
 | succ n => exact ⟨fun _ => hQ, fun i hm => by rw [hr] at hm; cases hm⟩
theorem trimK_some : ∀ {h : Hp} {k : Hp → Prop}, trimK h k → ∃ h', k h'
 | [], k, hk => ⟨[], hk⟩
 | o :: h, k, hk => by
  simp only [trimK] at hk
  obtain ⟨r, h2⟩ := trimK_some hk
  split at h2
  ·split at h2
   ·exact ⟨_, h2⟩
   ·exact ⟨_, h2⟩
  ·exact ⟨_, h2⟩
inductive DMode (C : Cx) (ops : Array Oper) (K : Tr → Hp → Prop) (f : Tr) (cur : Hp) (base : Nat) : Prop where
 | all (h : drawOkM (fun _ _ => true) ops = true) : DMode C ops K f cur base
 | known (hb : hasBar C ops ops.toList = false) (hc : Hp) (hh : ∀ (id : Nat) o, hc[id]? = some o → cur[id]? = some o ∧ id < base) (h : drawOkM (mcP C.tb f hc ops) ops = true) : DMode C ops K f cur base
 | left (hb : hasBar C ops ops.toList = false) (hs : ssaGo ops.toList = true) (hk : ∀ f2 h2, K f2 h2 → drawOkM (mcE ops f2.get) ops = true) : DMode C ops K f cur base
theorem DMode.next {K : Tr → Hp → Prop} {f f2 : Tr} {cur cur2 : Hp} {base base2 : Nat} (h : DMode C ops K f cur base) (hb : hasBar C ops ops.toList = true) : DMode C ops K f2 cur2 base2 := by
 cases h with
 | all h => exact .all h
 | known hb2 _ _ _ => rw [hb] at hb2; cases hb2
 | left hb2 _ _ => rw [hb] at hb2; cases hb2
def BsOk (P : Program) (ops : Array Oper) (N : Nat) (ds : List Deferred) (s0 : St) (bs : Oper → Tr → Hp → (Tr → Hp → Prop) → Prop) (Q : Exit → Act → World → Prop) : Prop :=
 ∀ (j : Nat) (o : Oper) (s : St) (f : Tr) (a : Act) (K : Tr → Hp → Prop) (next : Act → World → Prop), ops[j]? = some o → dstOk N o = true → Step s0 s → Ok s → FR s f.get a → a.tmps.size = N → a.defers = ds → bs o f s.h K → (∀ a' w', Post s N a.defers K a' w' → next a' w') → wpOp P ops Q j next a s.w
theorem drawGo_ok {bs : Oper → Tr → Hp → (Tr → Hp → Prop) → Prop} (hT : TbOk P C.tb) (hD : SpecsOk P C.specs) {s0 : St} (hN : ∀ o ∈ ops.toList, dstOk N o = true) (hbars : barsOk C ops = true) {K : Tr → Hp → Prop} {Q : Exit → Act → World → Prop} (hbs : BsOk P ops N ds s0 bs Q) :
  ∀ (n : Nat) (l : List Oper) (i base : Nat) (f : Tr) (s : St) (a : Act) (listed : Array Bool) (fuel : Nat), l.length ≤ n → l = ops.toList.drop i → i ≤ ops.size → listed.size = ops.size → cntF (fun i => listed.getD i false) ops.size = fuel →
   (∀ k, k < i → listed.getD k false = true) → (∀ k, i ≤ k → k < ops.size → listed.getD k false = false) → Ok s → FR s f.get a → a.tmps.size = N → a.defers = ds → Step s0 s →
   s.h.length = base + ops.size → (∀ c, c < ops.size → s.h[base + c]? = some .resv) → drawGo C bs ops base i l f s.h K → DMode C ops K f s.h base → (∀ a' w', Post s N ds K a' w' → Q .normal a' w') → wpAny P .any ops Q fuel listed a s.w := by
 intro n
 induction n with
 | zero =>
  intro l i base f s a listed fuel hl hle hi hsz hc hlow hhigh hok hf ha hds hst0 hlen hrsv h hmf hQ
  have hnil : l = [] := List.eq_nil_of_length_eq_zero (by omega)
  have hi2 : i = ops.size := by
   have := congrArg List.length hle
   rw [hnil, List.length_drop, Array.length_toList] at this
   simp at this
   omega
  subst hnil
  exact wpAny_done hsz (fun k hk => hlow k (by omega)) (hQ _ _ (trim_post hok hf ha hds h)) _
 | succ n ih =>
  intro l i base f s a listed fuel hl hle hi hsz hc hlow hhigh hok hf ha hds hst0 hlen hrsv h hmf hQ
  obtain ⟨m, G, H, V, B, E, f', sgm⟩ := drawGo_trace _ _ _ _ _ _ h
  have hll : l.length = ops.size - i := by rw [hle, List.length_drop, Array.length_toList]
  have hm := sgm.le
  have hget : ∀ k, l[k]? = ops[i + k]? := fun k => by rw [hle, List.getElem?_drop]; simp
  let sg : Nat → Bool := fun k => decide (i ≤ k) && decide (k < i + m)
  have hsg : ∀ k, sg k = true ↔ i ≤ k ∧ k < i + m := fun k => by simp [sg]
  have hH0 : H 0 = s.h := (sgm.low 0 (by omega)).2
  have T : Trc sg C ops base G H V B E := {
   tk := fun k o ho hs => by
    obtain ⟨h1, h2⟩ := (hsg k).1 hs
    have := sgm.tk (k - i) o (by omega) (by rw [hget, show i + (k - i) = k by omega]; exact ho)
    rwa [show i + (k - i) = k by omega] at this
   stay := fun k _ hs => by
    have hs' : ¬ (i ≤ k ∧ k < i + m) := fun h => by rw [(hsg k).2 h] at hs; cases hs
    rcases Nat.lt_or_ge k i with h1 | h1
    ·rw [(sgm.low k (by omega)).1, (sgm.low k (by omega)).2, (sgm.low (k + 1) (by omega)).1, (sgm.low (k + 1) (by omega)).2]
     exact ⟨rfl, rfl⟩
    ·rw [(sgm.high k (by omega)).1, (sgm.high k (by omega)).2, (sgm.high (k + 1) (by omega)).1, (sgm.high (k + 1) (by omega)).2]
     exact ⟨rfl, rfl⟩
   len := by rw [hH0]; exact hlen
   rsv := fun c hc => by rw [hH0]; exact hrsv c hc }
  have hend : H ops.size = H (i + m) ∧ G ops.size = f'.get := by
   have := sgm.high ops.size (by omega)
   exact ⟨this.2, this.1⟩
  have hfin := sgm.fin
  have hrest : l.drop m = ops.toList.drop (i + m) := by rw [hle, List.drop_drop]
  obtain ⟨mc, prt, hdk, hprt, hmc⟩ : ∃ mc prt, drawOkM mc ops = true ∧ PRok C ops sg base G H V B E prt ∧ MCok mc ops sg base G H B prt := by
   cases hmf with
   | all h => exact ⟨_, _, h, PRok.none, MCok.all⟩
   | known hb hc hh h =>
    have hh2 : ∀ (id : Nat) o, hc[id]? = some o → (H 0)[id]? = some o ∧ id < base := by rw [hH0]; exact hh
    exact ⟨_, _, h, PRok.known T (sgm.low 0 (by omega)).1 hh2, MCok.known T (sgm.low 0 (by omega)).1 hh2⟩
   | left hb hs hk =>
    have hfin := hfin
    cases hd : l.drop m with
    | nil =>
     rw [hd] at hfin
     have hfin : trimK (H (i + m)) fun h => K f' h := hfin
     obtain ⟨h2, hK⟩ := trimK_some hfin
     exact ⟨_, _, hk _ _ hK, PRok.none, MCok.left T hs hend.2⟩
    | cons o rest =>
     rw [hd] at hfin
     have := hasBar_no hb o (by
      have : o ∈ l.drop m := by rw [hd]; exact List.mem_cons_self
      rw [hrest] at this
      exact List.mem_of_mem_drop this)
     rw [hfin.1] at this
     cases this
  obtain ⟨hed, hcf⟩ := drawOk_spec hdk
  have hwn : ∀ k, k < ops.size → sg k = true → listed.getD k false = false := fun k hk hs => hhigh k ((hsg k).1 hs).1 hk
  have I : DInv sg ops base G H B prt N ds (fun i => listed.getD i false) s a := {
   hp := by
    apply List.ext_getElem?
    intro id
    by_cases hid : id < base + ops.size
    ·rw [List.getElem?_map, List.getElem?_range hid]
     simp only [Option.map_some]
     rw [FW_none ops.size (fun k hk hw => hwn k hk (wH_sg hw)), hH0, List.getD_eq_getElem?_getD, List.getElem?_eq_getElem (by omega)]
     rfl
    ·rw [List.getElem?_map, List.getElem?_eq_none (l := List.range _) (by rw [List.length_range]; omega), List.getElem?_eq_none (by omega)]
     rfl
   fr := fun t => by
    rw [LW_none ops.size (fun k hk hw => hwn k hk (wF_sg hw)), (sgm.low 0 (by omega)).1]
    exact hf t
   ok := hok
   size := ha
   dfr := hds
   cl := fun j o e hj ho he hb => by
    have h1 := hed j o ho
    unfold edgesOk at h1
    rw [Bool.and_eq_true, List.all_eq_true] at h1
    have h2 := h1.1 e he
    rw [hb] at h2
    have h3 : e.on < j := by simpa using h2
    refine hlow _ ?_
    rcases Nat.lt_or_ge j i with h4 | h4
    ·omega
    ·rw [hhigh j h4 (ops_lt ho)] at hj; cases hj
   mkd := fun k c hk _ hS hw => by
    rw [hwn k hk (wH_sg hw)] at hS; cases hS }
  refine drawn_run hT hD T hed hcf hprt hmc hN hsg (by omega) (fun hlt => ?_) fuel listed s a hsz hc I hlow (fun k h1 h2 => hhigh k (by omega) h2) ?_
  ·obtain ⟨o, ho⟩ := ops_get hlt
   have hd : l.drop m = o :: ops.toList.drop (i + m + 1) := by
    rw [hrest, List.drop_eq_getElem_cons (by simpa using hlt)]
    congr 1
    have := ho
    rw [Array.getElem?_eq_getElem hlt] at this
    simpa using Option.some.inj this
   rw [hd] at hfin
   exact barsOk_spec hbars ho hfin.1
  ·intro fuel' listed' s' a' hsz' hc' hlow' hhigh' hcl' hst hok' hh' hf' ha' hds'
   rw [hend.1] at hh'
   rw [hend.2] at hf'
   rcases Nat.lt_or_ge (i + m) ops.size with hlt | hge
   ·obtain ⟨o, ho⟩ := ops_get hlt
    have hd : l.drop m = o :: ops.toList.drop (i + m + 1) := by
     rw [hrest, List.drop_eq_getElem_cons (by simpa using hlt)]
     congr 1
     have := ho
     rw [Array.getElem?_eq_getElem hlt] at this
     simpa using Option.some.inj this
    rw [hd] at hfin
    obtain ⟨hb, hops⟩ := hfin
    have hbar := barsOk_spec hbars ho hb
    have hbt : hasBar C ops ops.toList = true := by
     cases hh : hasBar C ops ops.toList with
     | true => rfl
     | false =>
      have := hasBar_no hh o (by
       obtain ⟨hl2, he⟩ := Array.getElem?_eq_some_iff.1 ho
       rw [← he]
       exact Array.mem_toList_iff.2 (Array.getElem_mem hl2))
      rw [hb] at this
      cases this
    have hmem : o ∈ ops.toList := by
     obtain ⟨hl2, he⟩ := Array.getElem?_eq_some_iff.1 ho
     rw [← he]
     exact Array.mem_toList_iff.2 (Array.getElem_mem hl2)
    have hun := hhigh' (i + m) (Nat.le_refl _) hlt
    have hcadd := cntF_add (S := fun k => listed'.getD k false) (j := i + m) hun ops.size
    rw [if_pos hlt] at hcadd
    obtain ⟨q, rfl⟩ : ∃ q, fuel' = q + 1 := ⟨fuel' - 1, by omega⟩
    refine ⟨fun hr => ?_, fun k hk => ?_⟩
    ·rw [stuck hed hsz' hr (i + m) hlt] at hun; cases hun
    ·obtain ⟨o', ho', hlt', h0', hrd⟩ := ready_at hsz' hk
     have hki : k = i + m := by
      rcases Nat.lt_trichotomy k (i + m) with h1 | h1 | h1
      ·rw [hlow' k h1] at h0'; cases h0'
      ·exact h1
      ·have := (hbar.2 k h1 hlt').ready hcl' (fun o2 e ho2 he hb2 => by rw [ho'] at ho2; cases ho2; exact hrd e he hb2)
       rw [show listed'.getD (i + m) false = true from this] at hun; cases hun
     subst hki
     rw [← hh'] at hops
     obtain ⟨st, hwt, hstt, hokt, hops⟩ := trim_ok hok' hops
     have hft : FR st f'.get a' := FR.step (g := f'.get) hf' hstt
     rw [← hwt]
     refine hbs _ o st f' a' _ _ ho (hN o hmem) ((hst0.trans hst).trans hstt) hokt hft ha' hds' hops ?_
     rintro a2 w2 ⟨⟨s2, f2, rfl, st2, ok2, fr2, hk2⟩, hd2, hs2⟩
     have hset := listed_set (ops := ops) hsz' hlt
     have hkk : ∀ k, (listed'.setIfInBounds (i + m) true).getD k false = (listed'.getD k false || decide (k = i + m)) := fun k => congrFun hset k
     have hst3 := room_step (s := s2) ops.size (Grew.refl s2.w)
     have hlr : (ops.toList.drop (i + m + 1)).length = ops.size - (i + m + 1) := by rw [List.length_drop, Array.length_toList]
     refine ih (ops.toList.drop (i + m + 1)) (i + m + 1) s2.h.length f2 (s2.room ops.size s2.w) a2 (listed'.setIfInBounds (i + m) true) q (by omega) rfl (by omega) (by simpa using hsz') ?_ ?_ ?_ (room_ok ok2 ops.size (Grew.refl s2.w)) (fr2.step hst3) hs2 (hd2.trans hds') ((((hst0.trans hst).trans hstt).trans st2).trans hst3) ?_ ?_ hk2 (hmf.next hbt) ?_
     ·rw [hset]; omega
     ·intro k hk
      rw [hkk]
      by_cases h1 : k = i + m
      ·simp [h1]
      ·rw [hlow' k (by omega)]; rfl
     ·intro k h1 h2
      rw [hkk, hhigh' k (by omega) h2]
      simp
      omega
     ·show (s2.h ++ List.replicate ops.size AObj.resv).length = _
      simp
     ·intro c hc
      show (s2.h ++ List.replicate ops.size AObj.resv)[_]? = _
      rw [List.getElem?_append_right (by omega), Nat.add_sub_cancel_left, List.getElem?_replicate, if_pos hc]
     ·intro a3 w3 hp
      exact hQ a3 w3 ((((hp.trans hst3).trans st2).trans hstt).trans hst)
   ·have hnil : l.drop m = [] := by rw [hrest]; exact List.drop_eq_nil_of_le (by simpa using hge)
    rw [hnil] at hfin
    have hfin : trimK (H (i + m)) fun h => K f' h := hfin
    rw [← hh'] at hfin
    exact wpAny_done hsz' (fun k hk => hlow' k (by omega)) (hQ _ _ ((trim_post (K := K) hok' hf' ha' hds' hfin).trans hst)) _

theorem drawC_any {bs : Oper → Tr → Hp → (Tr → Hp → Prop) → Prop} (hT : TbOk P C.tb) (hD : SpecsOk P C.specs) (hdr : (drawOk ops || manyS ops) = true) (hN : ∀ o ∈ ops.toList, dstOk N o = true) {s : St} (hok : Ok s) {f : Tr} {a : Act} (hf : FR s f.get a) (ha : a.tmps.size = N)
  {K : Tr → Hp → Prop} (h : drawC C bs ops f s.h K) {Q : Exit → Act → World → Prop} (hbs : BsOk P ops N a.defers s bs Q) (hQ : ∀ a' w', Post s N a.defers K a' w' → Q .normal a' w') : wpAny P .any ops Q ops.size (Array.replicate ops.size false) a { s.w with drawn := s.w.drawn + 1 } := by
 have hgrew : Grew s.w { s.w with drawn := s.w.drawn + 1 } := ⟨rfl, rfl, rfl, Nat.le_succ _, Nat.le_refl _, fun _ _ => rfl⟩
 have hst := room_step (s := s) ops.size hgrew
 have hfalse : ∀ i, (Array.replicate ops.size false).getD i false = false := fun i => by
  rw [Array.getD_eq_getD_getElem?, Array.getElem?_replicate]
  split <;> rfl
 have hcnt : ∀ m, m ≤ ops.size → cntF (fun i => (Array.replicate ops.size false).getD i false) m = m := by
  intro m
  induction m with
  | zero => intro _; rfl
  | succ m ih =>
   intro hm
   simp only [cntF]
   rw [ih (by omega), hfalse m]
   rfl
 have go : ∀ (K' : Tr → Hp → Prop), barsOk C ops = true → DMode C ops K' f (s.h ++ List.replicate ops.size .resv) s.h.length → (lenK s.h fun b => roomK s.h ops.size fun h => drawGo C bs ops b 0 ops.toList f h K') → (∀ a' w', Post s N a.defers K' a' w' → Q .normal a' w') → wpAny P .any ops Q ops.size (Array.replicate ops.size false) a { s.w with drawn := s.w.drawn + 1 } := by
  intro K' hbars hmode h hQ
  simp only [lenK_eq, roomK_eq] at h
  refine drawGo_ok (s0 := s) hT hD hN hbars hbs ops.toList.length ops.toList 0 s.h.length f (s.room ops.size { s.w with drawn := s.w.drawn + 1 }) a _ ops.size (Nat.le_refl _) (by simp) (by omega) (by simp) (hcnt _ (Nat.le_refl _)) (fun k hk => by omega) (fun k _ _ => hfalse k) (room_ok hok ops.size hgrew) (hf.step hst) ha rfl hst ?_ ?_ h hmode ?_
  ·show (s.h ++ List.replicate ops.size AObj.resv).length = _
   simp
  ·intro c hc
   show (s.h ++ List.replicate ops.size AObj.resv)[_]? = _
   rw [List.getElem?_append_right (by omega), Nat.add_sub_cancel_left, List.getElem?_replicate, if_pos hc]
  ·intro a' w' hp
   exact hQ a' w' (hp.trans hst)
 have hnb : hasBar C ops ops.toList = false → barsOk C ops = true := fun hb => by unfold barsOk; rw [hb]
 unfold drawC at h
 split at h
 ·split at h
  ·rename_i hchk
   rw [Bool.and_eq_true] at hchk
   exact go K hchk.2 (.all hchk.1) h hQ
  ·exact h.elim
 ·rename_i hb
  split at h
  ·rename_i hchk
   exact go K (hnb hb) (.known hb s.h (fun id o hi => ⟨by rw [List.getElem?_append_left (List.getElem?_eq_some_iff.1 hi).1]; exact hi, (List.getElem?_eq_some_iff.1 hi).1⟩) hchk) h hQ
  ·split at h
   ·rename_i hs
    refine go _ (hnb hb) (.left hb hs ?_) h ?_
    ·intro f2 h2 hk
     split at hk
     ·rename_i hd; exact hd
     ·exact hk.elim
    ·intro a' w' hp
     obtain ⟨⟨s2, f2, h1, h2, h3, h4, h5⟩, h6, h7⟩ := hp
     refine hQ a' w' ⟨⟨s2, f2, h1, h2, h3, h4, ?_⟩, h6, h7⟩
     split at h5
     ·exact h5
     ·exact h5.elim
   ·exact h.elim
 ·rename_i hst2
  split at h
  ·rename_i hchk
   rw [hst2, Bool.or_false] at hdr
   exact go K hchk (.all hdr) h hQ
  ·exact h.elim
theorem drawB_any {bs : Oper → Tr → Hp → (Tr → Hp → Prop) → Prop} (hT : TbOk P C.tb) (hD : SpecsOk P C.specs) (hdr : (drawOk ops || manyS ops) = true) (hN : ∀ o ∈ ops.toList, dstOk N o = true) {s : St} (hok : Ok s) {f : Tr} {a : Act} (hf : FR s f.get a) (ha : a.tmps.size = N)
  {K : Tr → Hp → Prop} (h : drawB C bs ops f s.h K) {Q : Exit → Act → World → Prop} (hbs : BsOk P ops N a.defers s bs Q) (hQ : ∀ a' w', Post s N a.defers K a' w' → Q .normal a' w') : wpAny P .any ops Q ops.size (Array.replicate ops.size false) a { s.w with drawn := s.w.drawn + 1 } := by
 unfold drawB at h
 split at h
 ·obtain ⟨nz, hh⟩ := h
  obtain ⟨s1, f1, h1, h2, h3, h4, h5⟩ := normK_ok nz f s _ hok hf hh
  have := drawC_any hT hD hdr hN h2 h3 ha h5 (Q := Q) (fun j o s f a K next q1 q2 q3 q4 q5 q6 q7 q8 q9 => hbs j o s f a K next q1 q2 (h1.trans q3) q4 q5 q6 q7 q8 q9) (fun a' w' hp => hQ a' w' (hp.trans h1))
  rw [h4] at this
  exact this
 ·exact drawC_any hT hD hdr hN hok hf ha h hbs hQ
theorem drawB_ok {bs : Oper → Tr → Hp → (Tr → Hp → Prop) → Prop} (hm : P.follows .mixedOrders = true) (hT : TbOk P C.tb) (hD : SpecsOk P C.specs) (hdr : (drawOk ops || manyS ops) = true) (hN : ∀ o ∈ ops.toList, dstOk N o = true) {s : St} (hok : Ok s) {f : Tr} {a : Act} (hf : FR s f.get a) (ha : a.tmps.size = N)
  {K : Tr → Hp → Prop} (h : drawB C bs ops f s.h K) {Q : Exit → Act → World → Prop} (hbs : BsOk P ops N a.defers s bs Q) (hQ : ∀ a' w', Post s N a.defers K a' w' → Q .normal a' w') {id : Nat} : (Code.region id ops true).wp P Q a s.w :=
 wp_region_any hm (drawB_any hT hD hdr hN hok hf ha h hbs hQ)
theorem upon_monoQ {o : Oper} {a : Act} {K : Act → World → Prop} {Q Q' : Exit → Act → World → Prop} (hp : ∀ c a w, Q (.panic c) a w → Q' (.panic c) a w) (hl : LetsOut Q → LetsOut Q') {r : Result Next} (h : o.upon P a K Q r) : o.upon P a K Q' r := by
 cases r with
 | ok n w =>
  cases n <;> simp only [Oper.upon] at h ⊢ <;> first
   | exact h
   | exact Calls.mono h (fun e w'' he => by cases e <;> first | exact he | exact hp _ _ _ he | exact hl he)
 | halt x w => cases x <;> simp only [Oper.upon] at h ⊢ <;> first | exact h | exact hp _ _ _ h
theorem wpOp_monoQ {ops : Array Oper} {i : Nat} {a : Act} {w : World} {K : Act → World → Prop} {Q Q' : Exit → Act → World → Prop} (hp : ∀ c a w, Q (.panic c) a w → Q' (.panic c) a w) (hl : LetsOut Q → LetsOut Q') (h : wpOp P ops Q i K a w) : wpOp P ops Q' i K a w := by
 unfold wpOp at *
 split
 ·rename_i hi; rw [hi] at h; exact h
 ·rename_i o hi
  rw [hi] at h
  simp only at h
  split
  ·rename_i hw
   rw [if_pos hw] at h
   exact h.imp (upon_monoQ hp hl) (fun ⟨h1, h2⟩ => ⟨h1, hl h2⟩)
  ·rename_i hw
   rw [if_neg hw] at h
   exact h
theorem wpAny_monoQ {ops : Array Oper} {Q Q' : Exit → Act → World → Prop} (hn : ∀ a w, Q .normal a w → Q' .normal a w) (hp : ∀ c a w, Q (.panic c) a w → Q' (.panic c) a w) (hl : LetsOut Q → LetsOut Q') : ∀ (fuel : Nat) (listed : Array Bool) (a : Act) (w : World), wpAny P .any ops Q fuel listed a w → wpAny P .any ops Q' fuel listed a w
 | 0, listed, a, w, h => ⟨h.1, hn _ _ h.2⟩
 | fuel + 1, listed, a, w, h => ⟨fun hr => hn _ _ (h.1 hr), fun i hi => wpOp_monoQ hp hl (wpOp_mono (fun a' w' h' => wpAny_monoQ hn hp hl fuel _ a' w' h') (h.2 i hi))⟩
theorem fieldAddr_any {tb : Tb} (hT : TbOk P tb) {s : St} {T : TypeId} {id o id' o' i : Nat} {cx : Value} (hx : R s (.ptr id o) cx) (h : pFieldAddr tb T (.ptr id o) i = .ok (.ptr id' o') none) : ∃ v, (∀ w, (Instr.fieldAt T cx i).run P w = .ok v w) ∧ R s (.ptr id' o') v := by
 unfold pFieldAddr at h
 split at h
 ·cases h
 ·rename_i ti hl
  split at h
  ·rename_i fs hk
   split at h
   ·cases h
   ·rename_i ft off hi
    split at h
    ·cases h
    ·rename_i tf hf
     obtain ⟨gs, hu, he⟩ := struct_und hT hl hk
     obtain ⟨g, hgf, hft, hfo⟩ := pairs_get he hi
     have hgf' : gs[i]? = some g := by simpa using hgf
     simp only [R] at hx
     obtain ⟨hkn, b, rfl, hx⟩ := hx
     cases h
     refine ⟨.pointer (some ⟨b, o + off, none⟩), fun w => ?_, ?_⟩
     ·simp [Instr.fieldAt, run_underlying hu, hgf', Instr.sureAddr, place_run hT hf hft b o w, hfo]
     ·simp only [R]
      exact ⟨hkn, b, rfl, hx⟩
  ·cases h
def LstOk (n : Nat) (listed : Array Bool) (done : List Nat) : Prop := listed.size = n ∧ ∀ i, i < n → listed[i]? = some (hasId done i)
theorem hasId_cons (j : Nat) (done : List Nat) (i : Nat) : hasId (j :: done) i = (Nat.beq j i || hasId done i) := rfl
theorem LstOk.set {n : Nat} {listed : Array Bool} {done : List Nat} (h : LstOk n listed done) (j : Nat) : LstOk n (listed.setIfInBounds j true) (j :: done) := by
 refine ⟨by simpa using h.1, fun i hi => ?_⟩
 rw [Array.getElem?_setIfInBounds, hasId_cons]
 by_cases hj : j = i
 ·subst hj
  rw [if_pos rfl, if_pos (by rw [h.1]; exact hi), Nat.beq_refl]
  rfl
 ·rw [if_neg hj, h.2 i hi]
  have : Nat.beq j i = false := by
   cases hb : Nat.beq j i with
   | false => rfl
   | true => exact absurd (Nat.eq_of_beq_eq_true hb) hj
  rw [this]
  rfl
theorem LstOk.no {n : Nat} {listed : Array Bool} {done : List Nat} (h : LstOk n listed done) {i : Nat} (hi : i < n) : listed.getD i true = hasId done i := by
 rw [Array.getD_eq_getD_getElem?, h.2 i hi]
 rfl
theorem LstOk.yes {n : Nat} {listed : Array Bool} {done : List Nat} (h : LstOk n listed done) {i : Nat} (hi : i < n) : listed.getD i false = hasId done i := by
 rw [Array.getD_eq_getD_getElem?, h.2 i hi]
 rfl
theorem rdyGo_mem {done : List Nat} : ∀ {l : List Oper} {i j : Nat}, j ∈ rdyGo done i l ↔ ∃ k o, j = i + k ∧ l[k]? = some o ∧ hasId done j = false ∧ ∀ e ∈ o.after, Region.binds .any e = true → hasId done e.on = true
 | [], i, j => by
  constructor
  ·intro h; cases h
  ·rintro ⟨k, o, _, h, _⟩; simp at h
 | o :: l, i, j => by
  have ih := fun j => rdyGo_mem (done := done) (l := l) (i := i + 1) (j := j)
  have hx : (!hasId done i && (o.after.toList.all fun e => !Region.binds .any e || hasId done e.on)) = true ↔ hasId done i = false ∧ ∀ e ∈ o.after, Region.binds .any e = true → hasId done e.on = true := by
   rw [Bool.and_eq_true, Bool.not_eq_true', List.all_eq_true]
   refine and_congr_right fun _ => ⟨fun h e he hb => ?_, fun h e he => ?_⟩
   ·have := h e (Array.mem_toList_iff.2 he)
    rw [hb] at this
    exact this
   ·cases hb : Region.binds .any e with
    | false => rfl
    | true => exact h e (Array.mem_toList_iff.1 he) hb
  have hstep : j ∈ rdyGo done (i + 1) l ↔ ∃ k o', j = i + (k + 1) ∧ l[k]? = some o' ∧ hasId done j = false ∧ ∀ e ∈ o'.after, Region.binds .any e = true → hasId done e.on = true := by
   rw [ih j]
   exact ⟨fun ⟨k, o', h1, h2⟩ => ⟨k, o', by omega, h2⟩, fun ⟨k, o', h1, h2⟩ => ⟨k, o', by omega, h2⟩⟩
  rw [rdyGo]
  split
  ·rename_i hc
   have hc := hx.1 hc
   rw [List.mem_cons, hstep]
   constructor
   ·rintro (rfl | ⟨k, o', h1, h2⟩)
    ·exact ⟨0, o, rfl, rfl, hc⟩
    ·exact ⟨k + 1, o', h1, h2⟩
   ·rintro ⟨k, o', h1, h2, h3⟩
    cases k with
    | zero => exact .inl h1
    | succ k => exact .inr ⟨k, o', h1, h2, h3⟩
  ·rename_i hc
   rw [hstep]
   constructor
   ·rintro ⟨k, o', h1, h2⟩
    exact ⟨k + 1, o', h1, h2⟩
   ·rintro ⟨k, o', h1, h2, h3⟩
    cases k with
    | zero =>
     have h1 : j = i := h1
     subst h1
     cases h2
     exact absurd (hx.2 h3) (by rw [hc]; decide)
    | succ k => exact ⟨k, o', h1, h2, h3⟩
theorem rdy_iff (hE : ∀ o ∈ ops.toList, ∀ e ∈ o.after, Region.binds .any e = true → e.on < ops.size) {listed : Array Bool} {done : List Nat} (hl : LstOk ops.size listed done) (j : Nat) : j ∈ Region.ready .any ops listed ↔ j ∈ rdyGo done 0 ops.toList := by
 rw [mem_ready, rdyGo_mem]
 constructor
 ·rintro ⟨h1, o, h2, h3⟩
  have hj : j < ops.size := (Array.getElem?_eq_some_iff.1 h2).1
  rw [hl.no hj] at h1
  have h2' : ops.toList[j]? = some o := by rw [Array.getElem?_toList]; exact h2
  refine ⟨j, o, by omega, h2', h1, fun e he hb => ?_⟩
  have := h3 e he hb
  rw [hl.yes (hE o (List.mem_of_getElem? h2') e he hb)] at this
  exact this
 ·rintro ⟨k, o, h0, h2, h1, h3⟩
  have h0 : j = k := by omega
  subst h0
  have h2' : ops[j]? = some o := by rw [← Array.getElem?_toList]; exact h2
  have hj : j < ops.size := (Array.getElem?_eq_some_iff.1 h2').1
  refine ⟨by rw [hl.no hj]; exact h1, o, h2', fun e he hb => ?_⟩
  rw [hl.yes (hE o (List.mem_of_getElem? h2) e he hb)]
  exact h3 e he hb
theorem freeGo_spec {done : List Nat} {i : Nat} {oi : Oper} : ∀ {l : List Oper} {n : Nat}, freeGo ops done i oi n l = true → ∀ k o, l[k]? = some o → n + k ≠ i → hasId done (n + k) = false → (∀ e ∈ o.after, Region.binds .any e = true → e.on ≠ i) → oi.apart ops o = true
 | [], _, _, k, o, h, _, _, _ => by simp at h
 | x :: l, n, h, k, o, hk, hne, hun, hno => by
  rw [freeGo, Bool.and_eq_true] at h
  cases k with
  | succ k => exact freeGo_spec h.2 k o hk (by omega) (by rw [show n + 1 + k = n + (k + 1) by omega]; exact hun) hno
  | zero =>
   cases hk
   have h1 := h.1
   simp only [Bool.or_eq_true] at h1
   rcases h1 with ((h1 | h1) | h1) | h1
   ·exact absurd (Nat.eq_of_beq_eq_true h1) hne
   ·rw [Nat.add_zero] at hun
    rw [hun] at h1
    cases h1
   ·obtain ⟨e, he, hb⟩ := List.any_eq_true.1 h1
    rw [Bool.and_eq_true] at hb
    exact absurd (Nat.eq_of_beq_eq_true hb.2) (hno e (Array.mem_toList_iff.1 he) hb.1)
   ·exact h1
theorem noSelL_spec : ∀ {l : List Oper}, noSelL l = true → ∀ o ∈ l, ∀ cs b, o.op ≠ .select cs b
 | [], _, o, ho, _, _ => by cases ho
 | x :: l, h, o, ho, cs, b => by
  rw [noSelL, Bool.and_eq_true] at h
  rcases List.mem_cons.1 ho with rfl | ho
  ·intro e
   have h1 := h.1
   rw [e] at h1
   cases h1
  ·exact noSelL_spec h.2 o ho cs b
theorem firstP_spec {done : List Nat} : ∀ {l : List Nat} {j : Nat} {o : Oper}, firstP ops done l = some (j, o) → j ∈ l ∧ ops[j]? = some o ∧ pureO o = true ∧ freeGo ops done j o 0 ops.toList = true
 | [], _, _, h => by cases h
 | i :: l, j, o, h => by
  rw [firstP] at h
  split at h
  ·rename_i o' ho
   split at h
   ·rename_i hp
    rw [Bool.and_eq_true] at hp
    cases h
    exact ⟨by simp, ho, hp.1, hp.2⟩
   ·obtain ⟨h1, h2⟩ := firstP_spec h
    exact ⟨by simp [h1], h2⟩
  ·obtain ⟨h1, h2⟩ := firstP_spec h
   exact ⟨by simp [h1], h2⟩
theorem allI_get {K : Nat → Oper → Prop} : ∀ {l : List Nat}, allI ops K l → ∀ i ∈ l, atI ops K i
 | [], _, i, hi => by cases hi
 | [j], h, i, hi => by
  rw [List.mem_singleton.1 hi]
  exact h
 | j :: k :: l, h, i, hi => by
  have h : both (atI ops K j) (allI ops K (k :: l)) := h
  obtain ⟨h1, h2⟩ := h
  rcases List.mem_cons.1 hi with rfl | hi
  ·exact h1
  ·exact allI_get h2 i hi
theorem pureK_ok (hT : TbOk P C.tb) {o : Oper} (hpo : pureO o = true) (hd : dstOk N o = true) {s : St} {f : Tr} {a : Act} (hf : FR s f.get a) (ha : a.tmps.size = N) {K : Tr → Prop} (h : pureK C.tb o f K) : ∃ v f', Yields P ops o v a ∧ FR s f'.get (a.put o.dst v) ∧ K f' := by
 have hg : o.guard = none := by
  unfold pureO at hpo
  split at hpo <;> first | assumption | cases hpo
 have hw : Region.wanted o (yielded ops a.tmps) = true := by simp [Region.wanted, hg]
 have hset : ∀ (d : Nat) (v : AV) (c : Value), o.dst = some d → R s v c → FR s (f.set d v).get (a.put o.dst c) := by
  intro d v c hds hv
  have hlt : d < a.tmps.size := by
   unfold dstOk at hd
   rw [hds] at hd
   rw [ha]
   simpa using hd
  rw [hds]
  exact hf.put (Step.refl s) hlt hv
 unfold pureK at h
 split at h
 ·rename_i x d hop hds
  rw [force_eq, Tr.setK_eq] at h
  exact ⟨a.eval x, _, .inl ⟨hw, fun w => by unfold execOp; rw [hop]; cases x <;> rfl⟩, hset d _ _ hds (ev_R hf x), h⟩
 ·rename_i T x i d hop hds
  split at h
  ·rename_i id o hx
   split at h
   ·rename_i id' o' hp
    rw [fN_eq, fN_eq, Tr.setK_eq] at h
    have hr := ev_R hf x
    rw [hx] at hr
    obtain ⟨v, hv, hR⟩ := fieldAddr_any hT hr hp
    refine ⟨v, _, .inl ⟨hw, fun w => ?_⟩, hset d _ _ hds hR, h⟩
    unfold execOp
    simp only [hop]
    rw [Sem.run_bind, hv w]
    rfl
   ·exact h.elim
  ·exact h.elim
 ·rename_i x d hop hds
  rw [force_eq, Tr.setK_eq] at h
  exact ⟨a.eval x, _, .inl ⟨hw, fun w => by unfold execOp; rw [hop]; cases x <;> rfl⟩, hset d _ _ hds (ev_R hf x), h⟩
 ·rename_i x d hop hds
  split at h
  ·rename_i id o hx
   rw [fN_eq, fN_eq, Tr.setK_eq] at h
   have hr := ev_R hf x
   rw [hx] at hr
   have hr0 := hr
   simp only [R] at hr
   obtain ⟨_, b, hc, _⟩ := hr
   exact ⟨a.eval x, _, .inl ⟨hw, fun w => by unfold execOp; simp only [hop, hc]; rfl⟩, hset d _ _ hds hr0, h⟩
  ·rename_i i b o hx
   rw [fN_eq, fN_eq, Tr.setK_eq] at h
   have hr := ev_R hf x
   rw [hx] at hr
   have hr0 := hr
   simp only [R] at hr
   exact ⟨a.eval x, _, .inl ⟨hw, fun w => by unfold execOp; simp only [hop, hr]; rfl⟩, hset d _ _ hds hr0, h⟩
  ·exact h.elim
 ·rename_i x i d hop hds
  split at h
  ·rename_i vs hx
   split at h
   ·rename_i v hv
    rw [force_eq, Tr.setK_eq] at h
    have hr := ev_R hf x
    rw [hx] at hr
    simp only [R] at hr
    obtain ⟨us, hc, hl⟩ := hr
    obtain ⟨u, hu, hR⟩ := RL_get hl i v hv
    refine ⟨u, _, .inl ⟨hw, fun w => ?_⟩, hset d _ _ hds hR, h⟩
    unfold execOp
    simp only [hop, hc]
    simp [Instr.extract, hu]
   ·exact h.elim
  ·exact h.elim
 ·rename_i T x i d hop hds
  split at h
  ·rename_i id m cp k n hx hi
   split at h
   ·rename_i ti hl
    split at h
    ·rename_i e hk
     split at h
     ·rename_i te he
      obtain ⟨⟨h0, hlt⟩, h⟩ := need_elim h
      rw [fN_eq, fN_eq, Tr.setK_eq] at h
      have hrx := ev_R hf x
      rw [hx] at hrx
      simp only [R] at hrx
      obtain ⟨hkn, b, hc, hσ⟩ := hrx
      have hri := ev_R hf i
      rw [hi] at hri
      simp only [R] at hri
      refine ⟨.pointer (some ⟨b, n.toNat * te.size, none⟩), _, .inl ⟨hw, fun w => ?_⟩, hset d _ _ hds (by simp only [R]; exact ⟨hkn, b, rfl, hσ⟩), h⟩
      have hir := index_run (P := P) hT hl hk he h0 hlt (b := b) (o := 0) (cap := cp) (k := k) w
      rw [Nat.zero_add] at hir
      unfold execOp
      simp only [hop, hc, hri]
      rw [Sem.run_bind, hir]
      rfl
     ·exact h.elim
    ·exact h.elim
   ·exact h.elim
  ·exact h.elim
 ·exact h.elim
theorem planA_ok {call : CallA} (hT : TbOk P C.tb) (hD : SpecsOk P C.specs) (hcall : CallOk P call) (hN : ∀ o ∈ ops.toList, dstOk N o = true) (hE : ∀ o ∈ ops.toList, ∀ e ∈ o.after, Region.binds .any e = true → e.on < ops.size) (hsel : noSelL ops.toList = true) {Q : Exit → Act → World → Prop} (hQp : ∀ c a w, ¬ Q (.panic c) a w) {K : Tr → Hp → Prop} :
  ∀ (n : Nat) (listed : Array Bool) (done : List Nat), LstOk ops.size listed done → ∀ (s : St) (f : Tr) (a : Act), Ok s → FR s f.get a → a.tmps.size = N → planA C call ops n done f s.h K → (∀ a' w', Post s N a.defers K a' w' → Q .normal a' w') → wpAny P .any ops Q n listed a s.w
 | 0, listed, done, hl, s, f, a, hok, hf, ha, h, hQ => by
  have h : match rdyGo done 0 ops.toList with | [] => K f s.h | _ => False := h
  split at h
  ·rename_i hr
   refine Go.wpAny_done (List.eq_nil_iff_forall_not_mem.2 fun j hj => ?_) (hQ _ _ ⟨⟨s, f, rfl, Step.refl s, hok, hf, h⟩, rfl, ha⟩) 0
   rw [rdy_iff hE hl, hr] at hj
   cases hj
  ·exact h.elim
 | n + 1, listed, done, hl, s, f, a, hok, hf, ha, h, hQ => by
  rw [planA_succ] at h
  split at h
  ·rename_i hr
   refine Go.wpAny_done (List.eq_nil_iff_forall_not_mem.2 fun j hj => ?_) (hQ _ _ ⟨⟨s, f, rfl, Step.refl s, hok, hf, h⟩, rfl, ha⟩) _
   rw [rdy_iff hE hl, hr] at hj
   cases hj
  ·rename_i i l hr
   split at h
   ·rename_i j o hj
    obtain ⟨h1, h2, h3, h4⟩ := firstP_spec hj
    rw [← hr] at h1
    obtain ⟨v, f', hy, hf', hk⟩ := pureK_ok (ops := ops) hT h3 (hN o (by rw [← Array.getElem?_toList] at h2; exact List.mem_of_getElem? h2)) hf ha h
    refine wpAny_first h2 (fun j o cs b ho => noSelL_spec hsel o (by rw [← Array.getElem?_toList] at ho; exact List.mem_of_getElem? ho) cs b) (fun c a w h => absurd h (hQp c _ w)) n listed a s.w (fun k ok hk hne hun hno => ?_) ((rdy_iff hE hl j).2 h1) hy ?_
    ·have hks : k < ops.size := (Array.getElem?_eq_some_iff.1 hk).1
     exact freeGo_spec h4 k ok (by rw [Array.getElem?_toList]; exact hk) (by omega) (by rw [Nat.zero_add, ← hl.no hks]; exact hun) hno
    ·exact planA_ok hT hD hcall hN hE hsel hQp n _ _ (hl.set j) s f' _ hok hf' (by rw [put_size]; exact ha) hk (fun a' w' hp => hQ a' w' (by rw [put_defers] at hp; exact hp))
   ·refine ⟨fun h0 => ?_, fun k hk => ?_⟩
    ·have : i ∈ Region.ready .any ops listed := (rdy_iff hE hl i).2 (by rw [hr]; simp)
     rw [h0] at this
     cases this
    ·rw [rdy_iff hE hl, hr] at hk
     have h1 := allI_get h k hk
     unfold atI at h1
     split at h1
     ·rename_i o ho
      exact opA1_ok hT hD hcall hN ho (hN o (by rw [← Array.getElem?_toList] at ho; exact List.mem_of_getElem? ho)) hok hf ha h1 (fun a' w' hp => by
       obtain ⟨⟨s', f', rfl, hst, hok', hf', hk'⟩, hdf, hsz⟩ := hp
       exact planA_ok hT hD hcall hN hE hsel hQp n _ _ (hl.set k) s' f' a' hok' hf' hsz hk' (fun a2 w2 hp2 => hQ a2 w2 (by rw [hdf] at hp2; exact hp2.trans hst)))
     ·exact h1.elim
theorem drawA_ok {call : CallA} (hm : P.follows .mixedOrders = true) (hT : TbOk P C.tb) (hD : SpecsOk P C.specs) (hcall : CallOk P call) (hdr : (drawOk ops || manyS ops) = true) (hN : ∀ o ∈ ops.toList, dstOk N o = true) {s : St} (hok : Ok s) {f : Tr} {a : Act} (hf : FR s f.get a) (ha : a.tmps.size = N)
  {K : Tr → Hp → Prop} (h : drawA C call ops f s.h K) {Q : Exit → Act → World → Prop} (hQ : ∀ a' w', Post s N a.defers K a' w' → Q .normal a' w') {id : Nat} : (Code.region id ops true).wp P Q a s.w :=
 by
 unfold drawA at h
 split at h
 ·rename_i hp
  have hsel : noSelL ops.toList = true ∧ edgesIn ops = true := by
   unfold planO at hp
   split at hp
   ·rw [Bool.and_eq_true, Bool.and_eq_true] at hp
    exact ⟨hp.2.1, hp.2.2⟩
   ·cases hp
  have hE : ∀ o ∈ ops.toList, ∀ e ∈ o.after, Region.binds .any e = true → e.on < ops.size := fun o ho e he hb => by
   have h1 := List.all_eq_true.1 (List.all_eq_true.1 hsel.2 o ho) e (Array.mem_toList_iff.2 he)
   rw [hb] at h1
   exact of_decide_eq_true h1
  refine wp_region_any hm ?_
  have hgrew : Grew s.w { s.w with drawn := s.w.drawn + 1 } := ⟨rfl, rfl, rfl, Nat.le_succ _, Nat.le_refl _, fun _ _ => rfl⟩
  have hst := room_step (s := s) 0 hgrew
  have hh : (s.room 0 { s.w with drawn := s.w.drawn + 1 }).h = s.h := by
   show s.h ++ List.replicate 0 AObj.resv = s.h
   simp
  refine wpAny_monoQ (Q := fun e a' w' => match e with | .normal => Post s N a.defers K a' w' | _ => False) (fun a' w' hp => hQ a' w' hp) (fun _ _ _ h => h.elim) (fun ⟨_, _, h⟩ => h.elim) _ _ _ _
   (planA_ok hT hD hcall hN hE hsel.1 (fun _ _ _ h => h) _ (Array.replicate ops.size false) [] ⟨Array.size_replicate, fun i hi => by rw [Array.getElem?_replicate, if_pos hi]; rfl⟩ (s.room 0 { s.w with drawn := s.w.drawn + 1 }) f a (room_ok hok 0 hgrew) (hf.step hst) ha (by rw [hh]; exact h) (fun a' w' hp => hp.trans hst))
 ·exact drawB_ok hm hT hD hdr hN hok hf ha h (fun _ _ _ _ _ _ _ q1 q2 _ q4 q5 q6 _ q8 q9 => opA1_ok hT hD hcall hN q1 q2 q4 q5 q6 q8 q9) hQ
end
end Av
