/-
  An abstract reading of values and memory: code does what is reckoned.
  An abstract reading of values and memory: code in the rounds of a loop over an iterator; what a loop lays for itself.
  An abstract reading of values and memory: code and functions do what is reckoned.
-/
import Derived.Test.YtkjoofinfhdcaaaAvm
import Derived.LoopN
import Derived.RangeFuncLeaves
import Derived.RangeFuncFrom
import Derived.LoopNIn
import Derived.TacticsIn
namespace Av
open Go

/-! ### Memory that is let go -/
def St.cut (s : St) (L : Nat) : St := ⟨s.σ, s.h.take L, s.w, s.F⟩
theorem cut_get {s : St} {L id : Nat} {o : AObj} (h : (s.cut L).h[id]? = some o) : s.h[id]? = some o ∧ id < L := by
 have h : (s.h.take L)[id]? = some o := h
 rw [List.getElem?_take] at h
 split at h
 ·rename_i hl; exact ⟨h, hl⟩
 ·cases h
theorem cut_own {s : St} {L b : Nat} (h : OwnI (s.cut L) b) : OwnI s b := by
 obtain ⟨id, o, h1, h2, h3⟩ := h
 exact ⟨id, o, (cut_get h1).1, h2, h3⟩
theorem cut_Own {s : St} {L b : Nat} (h : ¬ Own s b) : ¬ Own (s.cut L) b := by
 rintro (h1 | h1)
 ·exact h (.inl h1)
 ·exact h (.inr (cut_own h1))
theorem cut_kn {s : St} {L id : Nat} (h : kn s.h id = true) (hl : id < L) : kn (s.cut L).h id = true := by
 unfold kn at h ⊢
 show (match (s.h.take L)[id]? with | some .resv => false | some _ => true | none => false) = true
 rw [List.getElem?_take, if_pos hl]
 exact h
mutual
theorem R_cut {s : St} {L : Nat} : ∀ (a : AV) (v : Value), R s a v → (∀ id ∈ idsV a, id < L) → R (s.cut L) a v
 | .any, _, _, _ => by simp only [R]
 | .und, v, h, _ => by simpa only [R] using h
 | .bool b, v, h, _ => by simpa only [R] using h
 | .int k n, v, h, _ => by simpa only [R] using h
 | .str x, v, h, _ => by simpa only [R] using h
 | .raw _ _ _, v, h, _ => by simpa only [R] using h
 | .nilp, v, h, _ => by simpa only [R] using h
 | .nsl, v, h, _ => by simpa only [R] using h
 | .zsl _, v, h, _ => by simpa only [R] using h
 | .nilfn, v, h, _ => by simpa only [R] using h
 | .nili, v, h, _ => by simpa only [R] using h
 | .nilm, v, h, _ => by simpa only [R] using h
 | .oth id, v, h, hl => by
  simp only [R] at h ⊢
  exact ⟨cut_kn h.1 (hl id (by simp [idsV])), h.2.1, fun o ho => h.2.2 o (cut_get ho).1⟩
 | .ptr id off, v, h, hl => by
  simp only [R] at h ⊢
  obtain ⟨h1, b, hv, h2⟩ := h
  exact ⟨cut_kn h1 (hl id (by simp [idsV])), b, hv, fun T cs hc => h2 T cs (cut_get hc).1⟩
 | .csl id n cap, v, h, hl => by
  simp only [R] at h ⊢
  obtain ⟨h1, b, hv, h2⟩ := h
  exact ⟨cut_kn h1 (hl id (by simp [idsV])), b, hv, fun T cs hc => h2 T cs (cut_get hc).1⟩
 | .optr id g t i off, v, h, hl => by
  simp only [R] at h ⊢
  obtain ⟨h1, b, hv, h2⟩ := h
  exact ⟨cut_kn h1 (hl id (by simp [idsV])), b, hv, fun T t' l f g0 hc => h2 T t' l f g0 (cut_get hc).1⟩
 | .own id g n, v, h, hl => by
  simp only [R] at h ⊢
  obtain ⟨h1, b, cap, hv, h2⟩ := h
  exact ⟨cut_kn h1 (hl id (by simp [idsV])), b, cap, hv, fun T t' l f g0 hc => h2 T t' l f g0 (cut_get hc).1⟩
 | .osl id g lo n, v, h, hl => by
  simp only [R] at h ⊢
  obtain ⟨h1, b, cap, hv, h0, h2⟩ := h
  exact ⟨cut_kn h1 (hl id (by simp [idsV])), b, cap, hv, h0, fun T t' l f g0 hc => h2 T t' l f g0 (cut_get hc).1⟩
 | .tosl id g lo n, v, h, hl => by
  simp only [R] at h ⊢
  obtain ⟨⟨h1, b, cap, hv, h0, h2⟩, ht⟩ := h
  exact ⟨⟨cut_kn h1 (hl id (by simp [idsV])), b, cap, hv, h0, fun T t' l f g0 hc => h2 T t' l f g0 (cut_get hc).1⟩, ht⟩
 | .pv cs, v, h, hl => by
  simp only [R] at h ⊢
  obtain ⟨b, o, hv, hlt, hb, hc⟩ := h
  exact ⟨b, o, hv, hlt, cut_Own hb, RC_cut cs _ hc (fun id hi => hl id (by simpa only [idsV] using hi))⟩
 | .agg cs, v, h, hl => by
  simp only [R] at h ⊢
  obtain ⟨vs, hv, h1, h2⟩ := h
  exact ⟨vs, hv, RL_cut cs vs h1 (fun id hi => hl id (by simpa only [idsV] using hi)), h2⟩
 | .tup cs, v, h, hl => by
  simp only [R] at h ⊢
  obtain ⟨vs, hv, h1⟩ := h
  exact ⟨vs, hv, RL_cut cs vs h1 (fun id hi => hl id (by simpa only [idsV] using hi))⟩
 | .lst t l, v, h, _ => by simp only [R] at h ⊢; exact RLst_pure (s := s) (s2 := s.cut L) rfl (fun b => cut_Own) h
 | .tlst t l, v, h, _ => by simp only [R] at h ⊢; exact ⟨RLst_pure (s := s) (s2 := s.cut L) rfl (fun b => cut_Own) h.1, h.2⟩
 | .fn f a b, v, h, hl => by
  simp only [R] at h ⊢
  obtain ⟨xs, ys, hv, h1, h2⟩ := h
  exact ⟨xs, ys, hv, RL_cut a xs h1 (fun id hi => hl id (by simp only [idsV, List.mem_append]; exact .inl hi)), RL_cut b ys h2 (fun id hi => hl id (by simp only [idsV, List.mem_append]; exact .inr hi))⟩
 | .iface t x, v, h, hl => by
  simp only [R] at h ⊢
  obtain ⟨y, hv, h1⟩ := h
  exact ⟨y, hv, R_cut x y h1 (fun id hi => hl id (by simpa only [idsV] using hi))⟩
theorem RL_cut {s : St} {L : Nat} : ∀ (cs : List AV) (vs : List Value), RL s cs vs → (∀ id ∈ idsVs cs, id < L) → RL (s.cut L) cs vs
 | [], vs, h, _ => by simpa only [RL] using h
 | c :: cs, vs, h, hl => by
  simp only [RL] at h ⊢
  obtain ⟨v, vs', hv, h1, h2⟩ := h
  exact ⟨v, vs', hv, R_cut c v h1 (fun id hi => hl id (by simp only [idsVs, List.mem_append]; exact .inl hi)), RL_cut cs vs' h2 (fun id hi => hl id (by simp only [idsVs, List.mem_append]; exact .inr hi))⟩
theorem RC_cut {s : St} {L : Nat} : ∀ (cs : List AV) (c : Nat → Option Value), RC s cs c → (∀ id ∈ idsVs cs, id < L) → RC (s.cut L) cs c
 | [], _, _, _ => by simp only [RC]
 | x :: cs, c, h, hl => by
  simp only [RC] at h ⊢
  obtain ⟨⟨v, h0, h1, h2⟩, h3⟩ := h
  exact ⟨⟨v, h0, R_cut x v h1 (fun id hi => hl id (by simp only [idsVs, List.mem_append]; exact .inl hi)), h2⟩, RC_cut cs _ h3 (fun id hi => hl id (by simp only [idsVs, List.mem_append]; exact .inr hi))⟩
end
theorem kn_lt {h : Hp} {id : Nat} (hk : kn h id = true) : id < h.length := by
 unfold kn at hk
 rcases Nat.lt_or_ge id h.length with h1 | h1
 ·exact h1
 ·rw [List.getElem?_eq_none h1] at hk; cases hk
theorem cut_step {s0 s : St} {L : Nat} (h : Step s0 s) (hL : s0.h.length ≤ L) : Step s0 (s.cut L) where
 os := h.os
 tape := h.tape
 output := h.output
 drawn := h.drawn
 size := h.size
 kn := fun id hid => cut_kn (h.kn id hid) (Nat.lt_of_lt_of_le (kn_lt hid) hL)
 keep := fun b hb hn => ⟨fun h1 => (h.keep b hb hn).1 (cut_own h1), (h.keep b hb hn).2⟩
 frn := h.frn
 cells := fun id T cs' hid hc => h.cells id T cs' hid (cut_get hc).1
 oth := fun id o' hid hc => h.oth id o' hid (cut_get hc).1
 arr := fun id T t l' f' g hid hc => h.arr id T t l' f' g hid (cut_get hc).1
theorem cut_ok {s : St} {L : Nat} (hok : Ok s) (hL : ∀ id T cs, id < L → s.h[id]? = some (.cells T cs) → ∀ i ∈ idsVs cs, i < L) : Ok (s.cut L) where
 obj := fun id o hid => by
  obtain ⟨h1, hlt⟩ := cut_get hid
  have ho := hok.obj id o h1
  cases o with
  | resv => trivial
  | dead => trivial
  | oth o =>
   cases o with
   | map bm kt vt l =>
    obtain ⟨e, q1, es, hh, q2, q3, q4⟩ := ho
    exact ⟨e, q1, es, hh, q2, fun i en x hi hx => by obtain ⟨r1, r2, r3⟩ := q3 i en x hi hx; exact ⟨r1, RV_pure (s := s) (s2 := s.cut L) rfl (fun b => cut_Own) vt x.2 _ r2, r3⟩, q4⟩
   | mapD bm kt vt l bs ck =>
    obtain ⟨e, q1, es, hh, q2, q3, q4⟩ := ho
    exact ⟨e, q1, es, hh, q2, fun i en x hi hx => by obtain ⟨r1, r2, r3⟩ := q3 i en x hi hx; exact ⟨r1, RV_pure (s := s) (s2 := s.cut L) rfl (fun b => cut_Own) vt x.2 _ r2, r3⟩, q4⟩
   | iter mid bm n seen => exact ho
   | bxs T t m =>
    obtain ⟨e, q1, q2⟩ := ho
    exact ⟨e, q1, fun b x hx => by obtain ⟨vs, rest, r1, r2, r3, r4⟩ := q2 b x hx; exact ⟨vs, rest, r1, r2, RT_pure (s := s) (s2 := s.cut L) rfl (fun b => cut_Own) t x _ r3, r4⟩⟩
  | cells T cs =>
   obtain ⟨b, vs, rest, e, hh, hl, h2⟩ := ho
   exact ⟨b, vs, rest, e, hh, RL_cut cs vs hl (hL id T cs hlt h1), h2⟩
  | arr T t l f g =>
   obtain ⟨xs, hown, h2, hx, hf⟩ := ho
   exact ⟨xs, hown, h2, fun i x hi => RT_pure (s := s) (s2 := s.cut L) rfl (fun b => cut_Own) t x _ (hx i x hi), hf⟩
 inj := fun i j o p b hi hj => hok.inj i j o p b (cut_get hi).1 (cut_get hj).1
 fb := hok.fb
 dis := fun b h => hok.dis b (cut_own h)
theorem cutOk_spec {L : Nat} {vs : List AV} {h : Hp} (hc : cutOk L vs h = true) : (∀ id ∈ idsVs vs, id < L) ∧ ∀ id T cs, id < L → h[id]? = some (.cells T cs) → ∀ i ∈ idsVs cs, i < L := by
 unfold cutOk at hc
 rw [Bool.and_eq_true, List.all_eq_true, List.all_eq_true] at hc
 refine ⟨fun id hid => ?_, fun id T cs hlt hg i hi => ?_⟩
 ·have := hc.1 id hid
  simpa using this
 ·have hm : AObj.cells T cs ∈ h.take L := by
   have : (h.take L)[id]? = some (.cells T cs) := by rw [List.getElem?_take, if_pos hlt]; exact hg
   exact List.mem_of_getElem? this
  have := hc.2 _ hm
  simp only [List.all_eq_true] at this
  have := this i hi
  simpa using this

/-! ### Slots that are let go, and taken up -/
theorem erase_eq : ∀ (ns : List Nat) (f : Tr) (k : Tr → Prop), eraseK f ns k = k (erase f ns)
 | [], f, k => rfl
 | n :: ns, f, k => by simp only [eraseK, erase, Tr.setK_eq]; exact erase_eq ns _ k
def sets : Tr → List Nat → List AV → Tr
 | f, n :: ns, v :: vs => sets (f.set n v) ns vs
 | f, _, _ => f
theorem sets_eq : ∀ (ns : List Nat) (vs : List AV) (f : Tr) (k : Tr → Prop), setsK f ns vs k = k (sets f ns vs)
 | [], vs, f, k => by cases vs <;> rfl
 | n :: ns, [], f, k => rfl
 | n :: ns, v :: vs, f, k => by simp only [setsK, sets, Tr.setK_eq]; exact sets_eq ns vs _ k
theorem erase_get : ∀ (ns : List Nat) (f : Tr) (t : Nat), (erase f ns).get t = if t ∈ ns then .any else f.get t
 | [], f, t => by simp [erase]
 | n :: ns, f, t => by
  simp only [erase]
  rw [erase_get ns, any_set]
  by_cases h1 : t ∈ ns
  ·simp [h1]
  ·by_cases h2 : t = n
   ·simp [h2]
   ·simp [h1, h2]
theorem FR.sets {s : St} {a : Act} : ∀ (cs : List Nat) (vs : List AV) (f : Tr), FR s f.get a → (∀ (i c : Nat) (v : AV), cs[i]? = some c → vs[i]? = some v → R s v (a.tmps.getD c undef)) → FR s (Av.sets f cs vs).get a
 | [], vs, f, h, _ => by cases vs <;> exact h
 | c :: cs, [], f, h, _ => h
 | c :: cs, v :: vs, f, h, hv => by
  simp only [Av.sets]
  exact FR.sets cs vs _ (h.set (hv 0 c v rfl rfl)) (fun i c' v' h1 h2 => hv (i + 1) c' v' (by simpa using h1) (by simpa using h2))
theorem idsVs_mem {cs : List AV} {c : AV} (h : c ∈ cs) {id : Nat} (hi : id ∈ idsV c) : id ∈ idsVs cs := by
 induction cs with
 | nil => cases h
 | cons x xs ih =>
  simp only [idsVs, List.mem_append]
  rcases List.mem_cons.1 h with rfl | h1
  ·exact .inl hi
  ·exact .inr (ih h1)

theorem viewB_cases (L : Nat) (h : Hp) (v : AV) : viewB L h v = v ∨ ∃ id g n T t, ∃ l : List t.El, ∃ f, v = .own id g n ∧ L ≤ id ∧ h[id]? = some (.arr T t l f g) ∧ viewB L h v = .lst t (l.take n) := by
 unfold viewB
 split
 ·rename_i id g n
  split
  ·rename_i T t l f g' hle ho
   split
   ·rename_i hg
    exact .inr ⟨id, g, n, T, t, l, f, rfl, Nat.le_of_ble_eq_true hle, by rw [ho, Nat.eq_of_beq_eq_true hg], rfl⟩
   ·exact .inl rfl
  ·exact .inl rfl
 ·exact .inl rfl
theorem viewB_R {s : St} (hok : Ok s) {L : Nat} {v : AV} {c : Value} (h : R s v c) (hl : ∀ id ∈ idsV (viewB L s.h v), id < L) : R (s.cut L) (viewB L s.h v) c := by
 rcases viewB_cases L s.h v with e | ⟨id, g, n, T, t, l, f, rfl, hLid, ho, e⟩
 ·rw [e] at hl ⊢
  exact R_cut v c h hl
 ·rw [e]
  simp only [R] at h
  obtain ⟨_, base, cap, rfl, hr⟩ := h
  obtain ⟨_, hr2⟩ := hr T t l f g ho
  obtain ⟨hn, len, hσ⟩ := hr2 rfl
  obtain ⟨_, hcap, hb⟩ := own_RC hok ho hσ
  have key := own_view hok (F := Own (s.cut L)) (fun b hb => by
    rcases hb with h1 | h1
    ·exact .inl h1
    ·exact .inr (cut_own h1)) (id := id) (fun b hbk hF => by
    rcases hF with h1 | ⟨j, o, h1, h2, h3⟩
    ·exact hok.dis b ⟨id, _, ho, rfl, .inl hbk⟩ h1
    ·obtain ⟨h4, h5⟩ := cut_get h1
     have := hok.inj id j _ _ b ho h4 rfl h2 (.inl hbk) h3
     omega) ho (lo := 0) (n := n) (ad := base) (cap' := cap) hσ (by omega) (by omega) (fun hpos => by
    have hl0 : l ≠ [] := by rintro rfl; simp at hn; omega
    obtain ⟨b, hb, _⟩ := hb hl0
    exact ⟨b, hb, by rw [hb, Nat.zero_mul]⟩)
  rw [List.drop_zero] at key
  simp only [R]
  exact RLst_pure (s := s.callee (Own (s.cut L))) (s2 := s.cut L) rfl (fun b hb h => hb (callee_own.2 h)) key
end Av
namespace Av
open Go

/-! ### Code in a round -/
section
variable {P : Program} {r n : Nat}
theorem rows_in {row : String} {args : Array Value} {w : World} {R : Value → World → Prop} (h : Rows P row args w R) : RowsIn (Fence.wide.inRound r) n P row args w R :=
 fun c cs _ => let ⟨v, w', hr, hs⟩ := h c cs; ⟨v, w', hr, stepsIn_wide.2 hs⟩
theorem calls_in {f : FuncId} {args : Array Value} {w : World} {R : Ending → World → Prop} (h : Calls P f args w R) : CallsIn (Fence.wide.inRound r) n P f args w R := callsIn_wide.2 h
theorem oper_in {o : Oper} (hd : ∀ c, o.op ≠ .defer c) {a : Act} {w : World} {K K' : Act → World → Prop} {Q : Exit → Act → World → Prop} (hK : ∀ a w, K a w → K' a w) (h : o.wp P a w K Q) : o.wpIn (Fence.wide.inRound r) n P a w K' Q := by
 unfold Oper.wpIn
 unfold Oper.wp at h
 refine ⟨fun _ _ => trivial, ?_⟩
 rw [Oper.semAt_eq _ _ _ hd]
 generalize (execOp a.eval o).run P w = x at h ⊢
 unfold Oper.upon at h
 unfold Oper.uponIn
 split at h
 ·exact hK _ _ h
 ·exact hK _ _ h
 ·exact hK _ _ h
 ·refine ⟨(fun e => by cases e), calls_in (Calls.mono h ?_)⟩
  intro e w' he
  cases e with
  | returned v => exact hK _ _ he
  | panicked chain => exact he
  | outgrown => exact he
 ·refine ⟨(fun e => by cases e), rows_in (Rows.mono h fun v w' he => hK _ _ he)⟩
 ·exact h
 ·exact h.elim
theorem list_in {ops : Array Oper} {Q : Exit → Act → World → Prop} (hQ : ¬ LetsOut Q) : ∀ (l : List Oper), (∀ o ∈ l, ∀ c, o.op ≠ .defer c) → ∀ a w, wpList P ops Q l a w → wpListIn (Fence.wide.inRound r) n P ops Q l a w
 | [], _, a, w, h => h
 | o :: l, hd, a, w, h => by
  have ih : ∀ a w, wpList P ops Q l a w → wpListIn (Fence.wide.inRound r) n P ops Q l a w := list_in hQ l (fun o ho => hd o (List.mem_cons_of_mem _ ho))
  unfold wpList at h
  unfold wpListIn
  split at h
  ·rename_i hw
   rw [if_pos hw]
   rcases h with h | ⟨_, h⟩
   ·exact oper_in (hd o List.mem_cons_self) ih h
   ·exact (hQ h).elim
  ·rename_i hw
   rw [if_neg hw]
   exact ⟨fun _ _ => trivial, ih _ _ h⟩
theorem lastD_none : ∀ (l : List Oper), (∀ o ∈ l, ∀ c, o.op ≠ .defer c) → lastD l = none
 | [], _ => rfl
 | [o], h => by
  show (match o.op with | .defer _ => some ([], o) | _ => none) = none
  split
  ·rename_i c hc; exact absurd hc (h o List.mem_cons_self c)
  ·rfl
 | o :: o' :: l, h => by
  have := lastD_none (o' :: l) (fun x hx => h x (List.mem_cons_of_mem _ hx))
  show (match lastD (o' :: l) with | some (p, d) => some (o :: p, d) | none => none) = none
  rw [this]
theorem lastD_app : ∀ (l p : List Oper) (o : Oper), lastD l = some (p, o) → l = p ++ [o]
 | [], p, o, h => by cases h
 | [x], p, o, h => by
  have h : (match x.op with | .defer _ => some (([] : List Oper), x) | _ => none) = some (p, o) := h
  split at h
  ·cases h; rfl
  ·cases h
 | x :: x' :: l, p, o, h => by
  have h : (match lastD (x' :: l) with | some (p, d) => some (x :: p, d) | none => none) = some (p, o) := h
  split at h
  ·rename_i p' d' hp
   cases h
   have := lastD_app (x' :: l) p' o hp
   rw [this]; rfl
  ·cases h
def PostR (s : St) (N : Nat) (ds : List Deferred) (K : Tr → Hp → Prop) (X : Nat → Tr → Hp → Prop) (Rt : Tr → Hp → Prop) : Exit → Act → World → Prop
 | .normal, a, w => Post s N ds K a w
 | .exit i, a, w => Post s N ds (X i) a w
 | .ret, a, w => Post s N ds Rt a w
 | _, _, _ => False
theorem PostR.out {s : St} {N : Nat} {ds : List Deferred} {K : Tr → Hp → Prop} {X : Nat → Tr → Hp → Prop} {Rt : Tr → Hp → Prop} : ¬ LetsOut (PostR s N ds K X Rt) := fun ⟨_, _, h⟩ => h
theorem codeR_ok {C : Cx} (hT : TbOk P C.tb) (hD : SpecsOk P C.specs) {call : CallA} (hcall : CallOk P call) {N : Nat} :
  ∀ (c : Code), okCode N c = true → plainR c = true → ∀ (K : Tr → Hp → Prop) (X : Nat → Tr → Hp → Prop) (Rt : Tr → Hp → Prop) (f : Tr) (s : St) (a : Act), Ok s → FR s f.get a → a.tmps.size = N →
   codeA C call c K X Rt f s.h → c.wpIn (Fence.wide.inRound r) n P (PostR s N a.defers K X Rt) a s.w
 | .skip, _, _, K, X, Rt, f, s, a, hok, hf, hN, h => wpIn_skip ⟨⟨s, f, rfl, Step.refl s, hok, hf, h⟩, rfl, hN⟩
 | .region id ops d, hs, hd, K, X, Rt, f, s, a, hok, hf, hN, h => by
  have hops : ∀ o ∈ ops.toList, dstOk N o = true := by
   unfold okCode at hs
   exact List.all_eq_true.1 hs
  simp only [plainR, Bool.and_eq_true, Bool.not_eq_true'] at hd
  obtain ⟨hd1, hd2⟩ := hd
  subst hd1
  have hdf : ∀ o ∈ ops.toList, ∀ c, o.op ≠ .defer c := by
   intro o ho c e
   have := List.all_eq_true.1 hd2 o ho
   rw [e] at this
   cases this
  have hla : lastD ops.toList = none := lastD_none ops.toList hdf
  rw [codeA_reg, hla] at h
  exact wpIn_region_list (list_in PostR.out ops.toList hdf _ _ (regA_ok hT hD hcall hops (Q := PostR s N a.defers K X Rt) hok hf hN h (fun a' w' hp => hp)))
 | .seq x y, hs, hd, K, X, Rt, f, s, a, hok, hf, hN, h => by
  simp only [okCode, plainR, Bool.and_eq_true] at hs hd
  refine wpIn_seq (wpIn_mono (codeR_ok hT hD hcall x hs.1 hd.1 _ X Rt f s a hok hf hN h) ?_)
  intro e a' w' hq
  cases e with
  | normal =>
   obtain ⟨⟨s2, f2, h1, h2, h3, h4, h5⟩, h6, h7⟩ := hq
   subst h1
   refine wpIn_mono (codeR_ok hT hD hcall y hs.2 hd.2 K X Rt f2 s2 a' h3 h4 h7 h5) ?_
   intro e a2 w2 hq2
   rw [h6] at hq2
   cases e with
   | normal => exact Post.trans h2 hq2
   | exit i => exact Post.trans h2 hq2
   | ret => exact Post.trans h2 hq2
   | goto l => exact hq2
   | panic ch => exact hq2
   | outgrown => exact hq2
  | exit i => exact hq
  | ret => exact hq
  | goto l => exact hq
  | panic ch => exact hq
  | outgrown => exact hq
 | .cond c x y, hs, hd, K, X, Rt, f, s, a, hok, hf, hN, h => by
  simp only [okCode, plainR, Bool.and_eq_true] at hs hd
  rw [codeA_cond] at h
  split at h
  ·rename_i t ht
   have hr := ev_R hf c
   rw [ht] at hr
   simp only [R] at hr
   rcases br_elim h with ⟨rfl, hk⟩ | ⟨rfl, hk⟩
   ·exact wpIn_cond_true hr (codeR_ok hT hD hcall x hs.1 hd.1 K X Rt f s a hok hf hN hk)
   ·exact wpIn_cond_false hr (codeR_ok hT hD hcall y hs.2 hd.2 K X Rt f s a hok hf hN hk)
  ·exact h.elim
 | .block id c, hs, hd, K, X, Rt, f, s, a, hok, hf, hN, h => by
  simp only [okCode, plainR] at hs hd
  rw [codeA_block] at h
  refine wpIn_block (wpIn_mono (codeR_ok hT hD hcall c hs hd K _ Rt f s a hok hf hN h) ?_)
  intro e a' w' hq
  cases e with
  | normal => exact hq
  | exit i =>
   simp only [Exit.inBlock]
   have hw : ∀ {K K' : Tr → Hp → Prop}, (∀ f h, K f h → K' f h) → Post s N a.defers K a' w' → Post s N a.defers K' a' w' := by
    rintro K K' hk ⟨⟨s2, f, h1, h2, h3, h4, h5⟩, h6, h7⟩
    exact ⟨⟨s2, f, h1, h2, h3, h4, hk _ _ h5⟩, h6, h7⟩
   by_cases hi : i = id
   ·rw [if_pos hi]
    refine hw (fun f h hk => ?_) hq
    subst hi
    simpa using hk
   ·rw [if_neg hi]
    refine hw (fun f h hk => ?_) hq
    have hb : Nat.beq i id = false := by
     cases hb : Nat.beq i id with
     | true => exact absurd (Nat.eq_of_beq_eq_true hb) hi
     | false => rfl
    have hk : (match Nat.beq i id with | true => K | false => X i) f h := hk
    rw [hb] at hk
    exact hk
  | ret => exact hq
  | goto l => exact hq
  | panic ch => exact hq
  | outgrown => exact hq
 | .exit id, _, _, K, X, Rt, f, s, a, hok, hf, hN, h => wpIn_exit (show Post s N a.defers (X id) a s.w from ⟨⟨s, f, rfl, Step.refl s, hok, hf, h⟩, rfl, hN⟩)
 | .ret, _, _, K, X, Rt, f, s, a, hok, hf, hN, h => wpIn_ret (show Post s N a.defers Rt a s.w from ⟨⟨s, f, rfl, Step.refl s, hok, hf, h⟩, rfl, hN⟩)
 | .loop _, _, hd, _, _, _, _, _, _, _, _, _, _ => by cases hd
 | .scope _, _, hd, _, _, _, _, _, _, _, _, _, _ => by cases hd
 | .label _, _, hd, _, _, _, _, _, _, _, _, _, _ => by cases hd
 | .rangeFunc .., _, hd, _, _, _, _, _, _, _, _, _, _ => by cases hd
 | .goto _, _, hd, _, _, _, _, _, _, _, _, _, _ => by cases hd
 | .refuse _, _, hd, _, _, _, _, _, _, _, _, _, _ => by cases hd
end

/-! ### Blocks that a loop has laid for itself -/
structure Book (s : St) (b : Nat) (o : Obj) : Prop where
 at_ : s.w.heap[b]? = some o
 non : o.isCells = false
 own : ¬ Own s b
theorem Book.lt {s : St} {b : Nat} {o : Obj} (h : Book s b o) : b < s.w.heap.size := (Array.getElem?_eq_some_iff.1 h.at_).1
theorem Book.step {s s' : St} {b : Nat} {o : Obj} (h : Book s b o) (hst : Step s s') : Book s' b o :=
 ⟨(hst.keep b h.lt (fun k => h.own (.inr k))).2.trans h.at_, h.non, hst.ro h.lt h.own⟩
theorem Book.cut {s : St} {b : Nat} {o : Obj} (h : Book s b o) (L : Nat) : Book (s.cut L) b o := ⟨h.at_, h.non, cut_Own h.own⟩
theorem noncell {w : World} {b : Nat} {o : Obj} (h : w.heap[b]? = some o) (hn : o.isCells = false) {i : Nat} {v : Value} : w.cell? ⟨b, i, none⟩ ≠ some v := by
 intro hc
 obtain ⟨o', ho', hc'⟩ := cells_of_cell hc
 have ho' : w.heap[b]? = some o' := ho'
 rw [h] at ho'
 cases ho'
 rw [hn] at hc'
 cases hc'
theorem book_sim {s : St} {b : Nat} {o o' : Obj} (h : Book s b o) : Sim s (s.world (s.w.putObj b o')) where
 size := by show s.w.heap.size ≤ (s.w.putObj b o').heap.size; simp
 kn := fun _ h => h
 ro := fun _ hn => hn
 cell := fun {x} hn {i v} hc => by
  have hne : x ≠ b := by rintro rfl; exact noncell h.at_ h.non hc
  have e : (s.w.putObj b o').heap[x]? = s.w.heap[x]? := World.putObj_heap_other hne
  show (s.w.putObj b o').cell? ⟨x, i, none⟩ = some v
  rw [World.cell?_of_block (w := s.w) (a := ⟨x, i, none⟩) e]
  exact hc
 cells := fun _ _ cs _ h => ⟨rfl, cs, h⟩
 oth := fun _ o _ h => ⟨rfl, o, h⟩
 arr := fun _ _ _ l f g _ h => ⟨l, f, g, h, Nat.le_refl _, fun _ => ⟨rfl, rfl⟩⟩
theorem book_ok {s : St} (hok : Ok s) {b : Nat} {o o' : Obj} (h : Book s b o) : Ok (s.world (s.w.putObj b o')) where
 obj := fun id ob hid => by
  cases ha : ob.alive with
  | false => cases ob <;> first | trivial | cases ha
  | true =>
   refine ObjR_sim (book_sim h) rfl (fun x hx => World.putObj_heap_other ?_) (hok.obj id ob hid)
   rintro rfl
   exact h.own (.inr ⟨id, ob, hid, ha, hx⟩)
 inj := hok.inj
 fb := fun x hx => by
  show x < (s.w.putObj b o').heap.size
  have := hok.fb x hx
  simpa using this
 dis := hok.dis
theorem book_step {s0 s : St} (hst : Step s0 s) {b : Nat} {o o' : Obj} (h : Book s b o) (hb : s0.w.heap.size ≤ b) : Step s0 (s.world (s.w.putObj b o')) where
 os := hst.os
 tape := hst.tape
 output := hst.output
 drawn := hst.drawn
 size := by show s0.w.heap.size ≤ (s.w.putObj b o').heap.size; simpa using hst.size
 kn := hst.kn
 keep := fun x hx hn => by
  obtain ⟨h1, h2⟩ := hst.keep x hx hn
  exact ⟨h1, (World.putObj_heap_other (by omega)).trans h2⟩
 frn := hst.frn
 cells := hst.cells
 oth := hst.oth
 arr := hst.arr
theorem book_put {s : St} {b : Nat} {o o' : Obj} (h : Book s b o) (hn : o'.isCells = false) : Book (s.world (s.w.putObj b o')) b o' := ⟨World.putObj_heap_same h.lt, hn, h.own⟩
theorem book_other {s : St} {b x : Nat} {o u : Obj} (h : Book s b o) (hne : b ≠ x) : Book (s.world (s.w.putObj x u)) b o := ⟨(World.putObj_heap_other hne).trans h.at_, h.non, h.own⟩

/-! ### Marks among the deferred calls -/
def MkC (B : Nat) (s : St) (d : Deferred) : Prop := ∃ D, d = { target := .collected D, args := #[] } ∧ B ≤ D ∧ Book s D (.deferred (some []))
def MkM (P : Program) (s : St) (d : Deferred) : Prop := ∃ (id bm : Nat) (T ty : TypeId) (ks : Array Bool) (u : TypeDesc), d = { target := .builtin .clear #[T] ty ks, args := #[.map (some bm)] } ∧ P.underlying T = some u ∧ R s (.oth id) (.map (some bm)) ∧ ((∃ o, s.h[id]? = some (.oth o)) ∨ s.h[id]? = some .dead)
structure Mks (P : Program) (b : Bool) (B : Nat) (s : St) (ms : List Deferred) : Prop where
 each : ∀ d ∈ ms, MkC B s d ∨ (b = true ∧ MkM P s d)
 nd : (ms.filter fun d => match d.target with | .collected _ => true | _ => false).Nodup
section
variable {P : Program} {b : Bool}
theorem Mks.nil (B : Nat) (s : St) : Mks P b B s [] := ⟨by simp, List.nodup_nil⟩
theorem Mks.cut {B : Nat} {s : St} {ms : List Deferred} (h : Mks P false B s ms) (L : Nat) : Mks P false B (s.cut L) ms :=
 ⟨fun d hd => (h.each d hd).elim (fun ⟨D, h1, h2, h3⟩ => .inl ⟨D, h1, h2, h3.cut L⟩) (fun h1 => by cases h1.1), h.nd⟩
theorem MkM.step {s s' : St} {d : Deferred} (h : MkM P s d) (hst : Step s s') : MkM P s' d := by
 obtain ⟨id, bm, T, ty, ks, u, h1, h2, h3, h4⟩ := h
 refine ⟨id, bm, T, ty, ks, u, h1, h2, R_mono hst _ _ h3, ?_⟩
 simp only [R] at h3
 have hk := hst.kn id h3.1
 unfold kn at hk
 cases ho : s'.h[id]? with
 | none => rw [ho] at hk; cases hk
 | some o =>
  cases o with
  | resv => rw [ho] at hk; cases hk
  | dead => exact .inr rfl
  | oth o => exact .inl ⟨o, rfl⟩
  | cells T cs =>
   obtain ⟨_, cs0, h5⟩ := hst.cells id T cs h3.1 ho
   rcases h4 with ⟨o, h4⟩ | h4 <;> rw [h4] at h5 <;> cases h5
  | arr T t l f g =>
   obtain ⟨_, _, _, h5, _⟩ := hst.arr id T t l f g h3.1 ho
   rcases h4 with ⟨o, h4⟩ | h4 <;> rw [h4] at h5 <;> cases h5
theorem Mks.step {B : Nat} {s s' : St} {ms : List Deferred} (h : Mks P b B s ms) (hst : Step s s') : Mks P b B s' ms :=
 ⟨fun d hd => by
  rcases h.each d hd with ⟨D, h1, h2, h3⟩ | ⟨h1, h2⟩
  ·exact .inl ⟨D, h1, h2, h3.step hst⟩
  ·exact .inr ⟨h1, h2.step hst⟩, h.nd⟩
theorem Mks.app {B : Nat} {s s' : St} {ms ms' : List Deferred} (h : Mks P b B s ms) (hst : Step s s') (hB : B ≤ s.w.heap.size) (h' : Mks P b s.w.heap.size s' ms') : Mks P b B s' (ms' ++ ms) := by
 refine ⟨fun d hd => ?_, ?_⟩
 ·rcases List.mem_append.1 hd with hd | hd
  ·rcases h'.each d hd with ⟨D, h1, h2, h3⟩ | h1
   ·exact .inl ⟨D, h1, Nat.le_trans hB h2, h3⟩
   ·exact .inr h1
  ·exact (h.step hst).each d hd
 ·rw [List.filter_append]
  refine List.nodup_append.2 ⟨h'.nd, h.nd, fun d hd d' hd' => ?_⟩
  rintro rfl
  obtain ⟨hd, hc⟩ := List.mem_filter.1 hd
  obtain ⟨hd', _⟩ := List.mem_filter.1 hd'
  rcases h'.each d hd with ⟨D, h1, h2, _⟩ | ⟨_, id, bm, T, ty, ks, u, h1, _⟩
  ·rcases h.each d hd' with ⟨D', h1', _, h3'⟩ | ⟨_, id, bm, T, ty, ks, u, h1', _⟩
   ·rw [h1] at h1'
    have e : D = D' := by injection h1' with e1 _; injection e1
    have := h3'.lt
    omega
   ·rw [h1] at h1'; injection h1' with e1 _; cases e1
  ·rw [h1] at hc; cases hc
theorem Mks.up {B : Nat} {s : St} {ms : List Deferred} (h : Mks P false B s ms) : Mks P b B s ms :=
 ⟨fun d hd => (h.each d hd).elim .inl (fun h1 => by cases h1.1), h.nd⟩
structure PostM (P : Program) (b : Bool) (s : St) (N : Nat) (ds : List Deferred) (K : Tr → Hp → Prop) (a : Act) (w : World) : Prop where
 get : ∃ s' f ms, s'.w = w ∧ Step s s' ∧ Ok s' ∧ FR s' f.get a ∧ K f s'.h ∧ a.defers = ms ++ ds ∧ Mks P b s.w.heap.size s' ms
 size : a.tmps.size = N
theorem Post.m {s : St} {N : Nat} {ds : List Deferred} {K : Tr → Hp → Prop} {a : Act} {w : World} (h : Post s N ds K a w) : PostM P b s N ds K a w := by
 obtain ⟨⟨s2, f, h1, h2, h3, h4, h5⟩, h6, h7⟩ := h
 exact ⟨⟨s2, f, [], h1, h2, h3, h4, h5, by simpa using h6, Mks.nil _ _⟩, h7⟩
theorem PostM.trans {s s' : St} {N : Nat} {ds ms : List Deferred} {K : Tr → Hp → Prop} {a : Act} {w : World} (hst : Step s s') (hm : Mks P b s.w.heap.size s' ms) (h : PostM P b s' N (ms ++ ds) K a w) : PostM P b s N ds K a w := by
 obtain ⟨⟨s2, f, ms2, h1, h2, h3, h4, h5, h6, h7⟩, h8⟩ := h
 exact ⟨⟨s2, f, ms2 ++ ms, h1, hst.trans h2, h3, h4, h5, by rw [h6, List.append_assoc], hm.app h2 hst.size h7⟩, h8⟩
theorem PostM.weaken {s : St} {N : Nat} {ds : List Deferred} {K K' : Tr → Hp → Prop} {a : Act} {w : World} (h : PostM P b s N ds K a w) (hk : ∀ f h, K f h → K' f h) : PostM P b s N ds K' a w := by
 obtain ⟨⟨s2, f, ms, h1, h2, h3, h4, h5, h6⟩, h7⟩ := h
 exact ⟨⟨s2, f, ms, h1, h2, h3, h4, hk _ _ h5, h6⟩, h7⟩
theorem PostM.up {s : St} {N : Nat} {ds : List Deferred} {K : Tr → Hp → Prop} {a : Act} {w : World} (h : PostM P false s N ds K a w) : PostM P b s N ds K a w := by
 obtain ⟨⟨s2, f, ms, h1, h2, h3, h4, h5, h6, h7⟩, h8⟩ := h
 exact ⟨⟨s2, f, ms, h1, h2, h3, h4, h5, h6, h7.up⟩, h8⟩
theorem wpList_snoc {ops : Array Oper} {Q Q' : Exit → Act → World → Prop} {o : Oper} (hQ : ∀ e a w, e ≠ .normal → Q' e a w → Q e a w) (hn : ∀ a w, Q' .normal a w → wpList P ops Q [o] a w) : ∀ (l : List Oper) (a : Act) (w : World), wpList P ops Q' l a w → wpList P ops Q (l ++ [o]) a w
 | [], a, w, h => hn a w h
 | x :: l, a, w, h => by
  have ih := wpList_snoc hQ hn l
  show wpList P ops Q (x :: (l ++ [o])) a w
  unfold wpList at h ⊢
  split at h
  ·rename_i hw
   rw [if_pos hw]
   rcases h with h | ⟨h1, a2, w2, h2⟩
   ·left
    unfold Oper.wp at h ⊢
    generalize (execOp a.eval x).run P w = y at h ⊢
    unfold Oper.upon at h ⊢
    split at h
    ·exact ih _ _ h
    ·exact ih _ _ h
    ·exact ih _ _ h
    ·refine Calls.mono h fun e w' he => ?_
     cases e with
     | returned v => exact ih _ _ he
     | panicked chain => exact hQ _ _ _ (by simp) he
     | outgrown =>
      obtain ⟨a2, w2, h2⟩ := he
      exact ⟨a2, w2, hQ _ _ _ (by simp) h2⟩
    ·exact Rows.mono h fun v w' he => ih _ _ he
    ·exact hQ _ _ _ (by simp) h
    ·exact h.elim
   ·exact .inr ⟨h1, a2, w2, hQ _ _ _ (by simp) h2⟩
  ·rename_i hw
   rw [if_neg hw]
   exact ih _ _ h
end
end Av
namespace Av
open Go

def drawsOk : Code → Bool
 | .region _ ops d => match d with | true => drawOk ops || manyS ops | false => true
 | .seq a b => drawsOk a && drawsOk b
 | .cond _ a b => drawsOk a && drawsOk b
 | .block _ c => drawsOk c
 | .loop c => drawsOk c
 | .scope c => drawsOk c
 | _ => true
def PostQ (P : Program) (b : Bool) (s : St) (N : Nat) (ds : List Deferred) (K : Tr → Hp → Prop) (X : Nat → Tr → Hp → Prop) (Rt : Tr → Hp → Prop) : Exit → Act → World → Prop
 | .normal, a, w => PostM P b s N ds K a w
 | .exit i, a, w => PostM P b s N ds (X i) a w
 | .ret, a, w => PostM P b s N ds Rt a w
 | _, _, _ => False
theorem PostM.here {P : Program} {b : Bool} {s : St} {N : Nat} {K : Tr → Hp → Prop} {f : Tr} {a : Act} (hok : Ok s) (hf : FR s f.get a) (hN : a.tmps.size = N) (h : K f s.h) : PostM P b s N a.defers K a s.w :=
 ⟨⟨s, f, [], rfl, Step.refl s, hok, hf, h, rfl, Mks.nil _ _⟩, hN⟩
section
variable {P : Program}
theorem keep_cut (s : St) (L : Nat) : Keep s (s.cut L) := ⟨Nat.le_refl _, fun _ hn => cut_Own hn, fun _ _ _ hc => hc⟩
theorem iter_sim {s st : St} (hst : Step s st) {w1 : World} (hs1 : w1.heap.size = s.w.heap.size + 2) (hlow : ∀ b, b < s.w.heap.size → w1.heap[b]? = s.w.heap[b]?) {o o' u u' : Obj} (h1 : w1.heap[s.w.heap.size]? = some u) (h2 : w1.heap[s.w.heap.size + 1]? = some u') (hu : u.isCells = false) (hu' : u'.isCells = false)
  (hD : Book st s.w.heap.size o) (hL : Book st (s.w.heap.size + 1) o') : Sim (s.world w1) st where
 size := by show w1.heap.size ≤ _; have := hL.lt; omega
 kn := hst.kn
 ro := fun {b} hb hn => by
  have hb : b < w1.heap.size := hb
  by_cases h : b < s.w.heap.size
  ·exact hst.ro h hn
  ·by_cases e : b = s.w.heap.size
   ·rw [e]; exact hD.own
   ·have : b = s.w.heap.size + 1 := by omega
    rw [this]; exact hL.own
 cell := fun {b} hn {i v} hc => by
  have hc : w1.cell? ⟨b, i, none⟩ = some v := hc
  have hb : b < w1.heap.size := World.block_lt_of_cell? w1 ⟨b, i, none⟩ hc
  by_cases h : b < s.w.heap.size
  ·refine hst.cell hn ?_
   rw [← World.cell?_of_block (w := s.w) (w' := w1) (a := ⟨b, i, none⟩) (hlow b h)]
   exact hc
  ·by_cases e : b = s.w.heap.size
   ·subst e; exact absurd hc (noncell h1 hu)
   ·have e : b = s.w.heap.size + 1 := by omega
    subst e; exact absurd hc (noncell h2 hu')
 cells := hst.cells
 oth := hst.oth
 arr := hst.arr
set_option maxHeartbeats 1000000 in
theorem rangeQ_ok {b : Bool} {C : Cx} (hT : TbOk P C.tb) (hD : SpecsOk P C.specs) {call : CallA} (hcall : CallOk P call) {N : Nat} {g : Operand} {ps : Array Tmp} {asn bd : Code} (hs : okCode N (.rangeFunc g ps asn bd) = true) {K : Tr → Hp → Prop} {X : Nat → Tr → Hp → Prop} {Rt : Tr → Hp → Prop} {f : Tr} {s : St} {a : Act}
  (hok : Ok s) (hf : FR s f.get a) (hN : a.tmps.size = N) {gf : FuncId} {caps : List AV} {p : Tmp} {sp : ISpec} (hgv : R s (.fn (.func gf) [] caps) (a.eval g)) (hps : ps.toList = [p]) (hpl : (plainR asn && plainR bd) = true) (hsp : lks C.specs gf = some (.i sp))
  (h : rangeQ sp caps p (fun K X Rt f h => codeA C call asn (fun f h => codeA C call bd K X Rt f h) (fun _ _ _ => False) (fun _ _ => False) f h) K X Rt f s.h) : (Code.rangeFunc g ps asn bd).wp P (PostQ P b s N a.defers K X Rt) a s.w := by
   obtain ⟨pr, r, J, hsp1, hpr, h0, hb, hK⟩ := h
   obtain ⟨hent, hit⟩ : IterOk P gf sp := hD gf _ hsp
   simp only [Bool.and_eq_true] at hpl
   simp only [okCode, Bool.and_eq_true] at hs
   obtain ⟨⟨hs0, hs1⟩, hs2⟩ := hs
   rw [hps] at hs0
   have hpN : p < N := by simpa using hs0
   have hps' : ps = #[p] := by have := congrArg List.toArray hps; simpa using this
   simp only [R, RL] at hgv
   obtain ⟨_, ys, hv, rfl, hys⟩ := hgv
   refine wpIn_wide (n := 2).1 (wpIn_rangeFunc fun fn _ => ?_)
   obtain ⟨rec, hrec⟩ : ∃ rec : LoopState → Option Code → Loop, rec = fun st pe => { state := st, pending := pe, fn, tmps := a.tmps, params := ps, assign := asn, body := bd, defers := s.w.heap.size } := ⟨_, rfl⟩
   obtain ⟨W1, hW1⟩ : ∃ W1, (s.w.alloc (.deferred (some []))).alloc (.loop (rec .ready none)) = W1 := ⟨_, rfl⟩
   have hL1 : W1.heap[s.w.heap.size + 1]? = some (.loop (rec .ready none)) := by
    rw [← hW1]; have := World.alloc_heap_new (s.w.alloc (.deferred (some []))) (.loop (rec .ready none)); rwa [World.size_alloc] at this
   have hD1 : W1.heap[s.w.heap.size]? = some (.deferred (some [])) := by
    rw [← hW1]; exact (heap_alloc_old _ _ (by simp)).trans (World.alloc_heap_new s.w _)
   have hz1 : W1.heap.size = s.w.heap.size + 2 := by rw [← hW1]; simp
   have hg1 : Grew s.w (s.w.alloc (.deferred (some []))) := Grew.alloc _ _
   have hg2 : Grew (s.w.alloc (.deferred (some []))) W1 := by rw [← hW1]; exact Grew.alloc _ _
   have hst1 : Step s (s.world W1) := (St.world_step (s := s) hg1).trans (St.world_step (s := s.world (s.w.alloc (.deferred (some [])))) hg2)
   have hok1 : Ok (s.world W1) := St.world_ok (s := s.world (s.w.alloc (.deferred (some [])))) (St.world_ok hok hg1) hg2
   have hnew : ∀ b, s.w.heap.size ≤ b → ¬ Own (s.world W1) b := by
    rintro b hb (h1 | h1)
    ·exact absurd (hok.fb b h1) (by omega)
    ·have h1 : OwnI s b := h1
     exact absurd (own_lt hok h1) (by omega)
   have bD1 : Book (s.world W1) s.w.heap.size (.deferred (some [])) := ⟨hD1, rfl, hnew _ (Nat.le_refl _)⟩
   have bL1 : Book (s.world W1) (s.w.heap.size + 1) (.loop (rec .ready none)) := ⟨hL1, rfl, hnew _ (Nat.le_succ _)⟩
   have hlow : ∀ b, b < s.w.heap.size → W1.heap[b]? = s.w.heap[b]? := fun b hb => (hg2.block b (by simp; omega)).trans (hg1.block b hb)
   obtain ⟨fn0, c0, hget, hname, hbody⟩ := hent
   have hent : Enters P gf := ⟨fn0, c0, hget, hname, hbody⟩
   refine ⟨s.w.heap.size + 1, [{ target := .collected s.w.heap.size, args := #[] }], W1, { target := .fn (.func gf) ys.toArray, args := #[.func (.yield (s.w.heap.size + 1)) #[] #[]] }, W1, gf,
    #[.func (.yield (s.w.heap.size + 1)) #[] #[]] ++ ys.toArray, W1, ?_, ?_, fun _ _ => trivial, ?_, (fun e => by cases e), ?_⟩
   ·rw [← hW1, hrec]; exact run_enterLoop_outer _ _ _ _ _
   ·simp only [resolve, rangeCall, hv]
    simp [Deferred.ofValue, Sem.run_pure, Act.eval]
   ·simp only [invoke]
    exact enter_run hent _ _
   ·have key := hit (s.world W1) caps pr r ys (s.w.heap.size + 1)
     (fun k st => Step s st ∧ Ok st ∧ J k st.h ∧ Book st (s.w.heap.size + 1) (.loop (rec .ready none)) ∧ Book st s.w.heap.size (.deferred (some [])))
     (fun st => Step s st ∧ Ok st ∧ (∃ c, Book st (s.w.heap.size + 1) (.loop (rec .done (some c))) ∧ (match c with | .ret => Rt f st.h | .exit i => X i f st.h | _ => False)) ∧ Book st s.w.heap.size (.deferred (some [])))
     hok1 (RL_mono hst1 _ _ hys) hsp1 hpr ⟨hst1, hok1, h0, bL1, bD1⟩ (fun k st ⟨q1, q2, q3, q4, q5⟩ => ⟨q2, iter_sim q1 hz1 hlow hD1 hL1 rfl rfl q5 q4⟩) (fun k st w' ⟨q1, q2, q3, q4, q5⟩ hg => ⟨q1.trans (St.world_step hg), St.world_ok q2 hg, q3, q4.step (St.world_step hg), q5.step (St.world_step hg)⟩) ?_
    ·refine CallsIn.mono key ?_
     rintro e W' ⟨⟨v, rfl⟩, (⟨st, rfl, q1, q2, q3, q4, q5⟩ | ⟨st, rfl, q1, q2, ⟨c, q4, q3⟩, q5⟩)⟩
     ·refine ⟨none, _, (by have := run_endLoop (P := P) q4.at_ (by rw [hrec]; simp); rw [hrec] at this; exact this), ?_⟩
      have hst2 := book_step q1 (o' := .loop { rec .ready none with state := .exhausted }) q4 (Nat.le_succ _)
      rw [hrec] at hst2 q4
      exact ⟨⟨_, f, [_], rfl, hst2, book_ok q2 q4, fun t => R_mono hst2 _ _ (hf t), hK _ q3, rfl, ⟨fun d hd => .inl ⟨s.w.heap.size, by simpa using hd, Nat.le_refl _, book_other q5 (by omega)⟩, by simp⟩⟩, hN⟩
     ·refine ⟨some c, _, (by have := run_endLoop (P := P) q4.at_ (by rw [hrec]; simp); rw [hrec] at this; exact this), ?_⟩
      have hst2 := book_step q1 (o' := .loop { rec .done (some c) with state := .exhausted }) q4 (Nat.le_succ _)
      rw [hrec] at hst2 q4
      have fin : ∀ {K2 : Tr → Hp → Prop}, K2 f st.h → PostM P b s N a.defers K2 { a with defers := [{ target := .collected s.w.heap.size, args := #[] }] ++ a.defers } _ := fun hk =>
       ⟨⟨_, f, [_], rfl, hst2, book_ok q2 q4, fun t => R_mono hst2 _ _ (hf t), hk, rfl, ⟨fun d hd => .inl ⟨s.w.heap.size, by simpa using hd, Nat.le_refl _, book_other q5 (by omega)⟩, by simp⟩⟩, hN⟩
      cases c with
      | ret => exact wpIn_ret (fin (K2 := Rt) q3)
      | exit i => exact wpIn_exit (fin (K2 := X i) q3)
      | _ => exact q3.elim
    ·rintro k st x cv ⟨q1, q2, q3, q4, q5⟩ hx hR
     have hy := run_yield (P := P) (args := #[cv]) q4.at_ (by rw [hrec, hps']; rfl)
     rw [hrec] at hy
     refine ⟨fn, _, asn, bd, hy, roundIn_of_wpIn trivial ?_⟩
     have htm : (ps.zip #[cv]).foldl (fun tmps (t, a) => tmps.setIfInBounds t a) a.tmps = (a.put (some p) cv).tmps := by rw [hps']; simp [Act.put]
     show asn.wpIn (Fence.wide.inRound _) 0 P _ { tmps := (ps.zip #[cv]).foldl (fun tmps (t, a) => tmps.setIfInBounds t a) a.tmps, defers := [] } st.w
     rw [htm]
     have hf1 : FR st (f.set p (avV r.t x)).get { tmps := (a.put (some p) cv).tmps, defers := [] } := fun t => (hf.put q1 (by rw [hN]; exact hpN) hR) t
     have hbk := hb k x st.h hx q3
     rw [Tr.setK_eq] at hbk
     refine wpIn_mono (codeR_ok (r := s.w.heap.size + 1) (n := 0) hT hD hcall asn hs1 hpl.1 _ _ _ _ st _ q2 hf1 (by rw [put_size]; exact hN) hbk) ?_
     intro e a1 w1 hq
     cases e with
     | normal =>
      obtain ⟨⟨s2, f2, rfl, u2, u3, u4, u5⟩, u6, u7⟩ := hq
      have bL2 := q4.step u2
      have bD2 := q5.step u2
      refine ⟨_, run_beginRound (P := P) bL2.at_ (by rw [hrec]), ?_⟩
      have sim3 : Sim s2 (s2.world (s2.w.putObj (s.w.heap.size + 1) (.loop { rec .ready none with state := .busy }))) := book_sim bL2
      have ok3 := book_ok (o' := .loop { rec .ready none with state := .busy }) u3 bL2
      have st3 := book_step (o' := .loop { rec .ready none with state := .busy }) (q1.trans u2) bL2 (Nat.le_succ _)
      have bL3 := book_put (o' := .loop { rec .ready none with state := .busy }) bL2 rfl
      have bD3 := book_other (u := .loop { rec .ready none with state := .busy }) bD2 (show s.w.heap.size ≠ s.w.heap.size + 1 by omega)
      refine wpIn_mono (codeR_ok (r := s.w.heap.size + 1) (n := 0) hT hD hcall bd hs2 hpl.2 _ _ _ f2 (s2.world (s2.w.putObj (s.w.heap.size + 1) (.loop { rec .ready none with state := .busy }))) a1 ok3 (fun t => R_sim sim3 _ _ (u4 t)) u7 u5) ?_
      intro e a4 w4 hq4
      cases e with
      | normal =>
       obtain ⟨⟨s40, f40, rfl, v20, v30, v40, ⟨nzb, hbk4⟩⟩, _, _⟩ := hq4
       obtain ⟨s4, f4, v21, v3, v4, hw4, v5, v6⟩ := normK_ok nzb f40 s40 _ v30 v40 hbk4
       have v2 := v20.trans v21
       rw [← hw4]
       have bL4 := bL3.step v2
       have bD4 := bD3.step v2
       have hend := run_endRound (P := P) none bL4.at_
       refine ⟨_, _, hend, .inl ⟨rfl, (s4.world _).cut s.h.length, rfl, ⟨cut_step (book_step (st3.trans v2) bL4 (Nat.le_succ _)) (Nat.le_refl _), cut_ok (book_ok v3 bL4) ((cutOk_spec v5).2), v6, ?_, ?_⟩, (((u2.sim.keep.trans sim3.keep).trans v2.sim.keep).trans (book_sim bL4).keep).trans (keep_cut _ _)⟩⟩
       ·have := (book_put (o' := .loop { { rec .ready none with state := .busy } with state := .ready, pending := none }) bL4 rfl).cut s.h.length
        rw [hrec] at this ⊢
        exact this
       ·exact (book_other bD4 (by omega)).cut _
      | ret =>
       obtain ⟨⟨s4, f4, rfl, v2, v3, v4, v5⟩, _, _⟩ := hq4
       have bL4 := bL3.step v2
       have bD4 := bD3.step v2
       have hend := run_endRound (P := P) (some .ret) bL4.at_
       refine ⟨_, _, hend, .inr ⟨rfl, s4.world _, rfl, book_step (st3.trans v2) bL4 (Nat.le_succ _), book_ok v3 bL4, ⟨.ret, ?_, v5⟩, book_other bD4 (by omega)⟩⟩
       have := book_put (o' := .loop { { rec .ready none with state := .busy } with state := .done, pending := some .ret }) bL4 rfl
       rw [hrec] at this ⊢
       exact this
      | exit i =>
       obtain ⟨⟨s4, f4, rfl, v2, v3, v4, v5⟩, _, _⟩ := hq4
       have bL4 := bL3.step v2
       have bD4 := bD3.step v2
       have hend := run_endRound (P := P) (some (.exit i)) bL4.at_
       refine ⟨_, _, hend, .inr ⟨rfl, s4.world _, rfl, book_step (st3.trans v2) bL4 (Nat.le_succ _), book_ok v3 bL4, ⟨.exit i, ?_, v5⟩, book_other bD4 (by omega)⟩⟩
       have := book_put (o' := .loop { { rec .ready none with state := .busy } with state := .done, pending := some (.exit i) }) bL4 rfl
       rw [hrec] at this ⊢
       exact this
      | goto l => exact hq4.elim
      | panic ch => exact hq4.elim
      | outgrown => exact hq4.elim
     | exit i => obtain ⟨⟨_, _, _, _, _, _, h⟩, _⟩ := hq; exact h.elim
     | ret => obtain ⟨⟨_, _, _, _, _, _, h⟩, _⟩ := hq; exact h.elim
     | goto l => exact hq.elim
     | panic ch => exact hq.elim
     | outgrown => exact hq.elim
theorem range_ok {b : Bool} {C : Cx} (hT : TbOk P C.tb) (hD : SpecsOk P C.specs) {call : CallA} (hcall : CallOk P call) {N : Nat} {g : Operand} {ps : Array Tmp} {asn bd : Code} (hs : okCode N (.rangeFunc g ps asn bd) = true) {K : Tr → Hp → Prop} {X : Nat → Tr → Hp → Prop} {Rt : Tr → Hp → Prop} {f : Tr} {s : St} {a : Act}
  (hok : Ok s) (hf : FR s f.get a) (hN : a.tmps.size = N) (h : codeA C call (.rangeFunc g ps asn bd) K X Rt f s.h) : (Code.rangeFunc g ps asn bd).wp P (PostQ P b s N a.defers K X Rt) a s.w := by
 rw [codeA_range] at h
 split at h
 ·rename_i gf caps p hg hps hpl
  split at h
  ·rename_i sp hsp
   obtain ⟨nz, h⟩ := h
   have hgv := ev_R hf g
   rw [hg] at hgv
   obtain ⟨s1, f1, hst, hok1, hf1, hw1, h1⟩ := normK_ok nz f s _ hok hf h
   have key := rangeQ_ok (b := b) hT hD hcall hs hok1 hf1 hN (R_mono hst _ _ hgv) hps hpl hsp h1
   rw [hw1] at key
   refine Code.wp_mono (fun e a2 w2 q => ?_) key
   have hm : Mks P b s.w.heap.size s1 [] := Mks.nil _ _
   cases e with
   | normal => exact PostM.trans hst hm q
   | exit i => exact PostM.trans hst hm q
   | ret => exact PostM.trans hst hm q
   | goto l => exact q
   | panic ch => exact q
   | outgrown => exact q
  ·exact h.elim
 ·exact h.elim
theorem codeA_ok {C : Cx} (hm : P.follows .mixedOrders = true) (hT : TbOk P C.tb) (hD : SpecsOk P C.specs) {call : CallA} (hcall : CallOk P call) {N : Nat} :
  ∀ (c : Code), okCode N c = true → drawsOk c = true → ∀ (b : Bool), (hasD c = true → b = true) → ∀ (K : Tr → Hp → Prop) (X : Nat → Tr → Hp → Prop) (Rt : Tr → Hp → Prop) (f : Tr) (s : St) (a : Act), Ok s → FR s f.get a → a.tmps.size = N →
   codeA C call c K X Rt f s.h → c.wp P (PostQ P b s N a.defers K X Rt) a s.w
 | .skip, _, _, b, hb, K, X, Rt, f, s, a, hok, hf, hN, h => wp_skip (PostM.here hok hf hN h)
 | .region id ops d, hs, hd, b, hb, K, X, Rt, f, s, a, hok, hf, hN, h => by
  have hops : ∀ o ∈ ops.toList, dstOk N o = true := by
   unfold okCode at hs
   exact List.all_eq_true.1 hs
  cases d with
  | false =>
   rw [codeA_reg] at h
   split at h
   ·exact wp_region_list (regA_ok hT hD hcall hops hok hf hN h (fun a' w' hp => hp.m))
   ·rename_i pre o hla
    have hap := lastD_app _ _ _ hla
    have hbt : b = true := hb (by simp only [hasD, hla])
    refine wp_region_list ?_
    rw [hap]
    refine wpList_snoc (Q' := fun e a2 w2 => match e with | .normal => Post s N a.defers (fun f h => match dfrM C.tb f h o with | some _ => K f h | none => False) a2 w2 | _ => False) (fun e a2 w2 hne h2 => by cases e <;> first | exact absurd rfl hne | exact h2.elim) (fun a2 w2 h2 => ?_) pre a s.w
     (opsA_ok hT hD hcall hops pre (fun o ho => hops o (by rw [hap]; exact List.mem_append_left _ ho)) s f a _ hok hf hN h (fun a' w' hp => hp))
    obtain ⟨⟨s2, f2, rfl, q2, q3, q4, q5⟩, q6, q7⟩ := h2
    have q5 : match dfrM C.tb f2 s2.h o with | some _ => K f2 s2.h | none => False := q5
    split at q5
    ·rename_i id hdf
     unfold dfrM at hdf
     split at hdf
     ·rename_i c hop hgd hdst
      split at hdf
      ·rename_i x T hc hargs htys
       split at hdf
       ·rename_i id' ti hx hl
        split at hdf
        ·rename_i bm kt vt l hid
         have ha : c.args = #[x] := by have := congrArg List.toArray hargs; simpa using this
         have ht : c.argTypes = #[T] := by have := congrArg List.toArray htys; simpa using this
         have hv := ev_R q4 x
         rw [hx] at hv
         have hv2 := hv
         simp only [R] at hv2
         obtain ⟨hσ, _⟩ := q3.obj _ _ hid
         have he : a2.eval x = .map (some bm) := (hv2.2.2 _ hid).trans hσ
         rw [he] at hv
         obtain ⟨u, hu, _⟩ := (tb_und hT hl).und
         unfold wpList
         rw [if_pos (by simp [Region.wanted, hgd])]
         left
         unfold Oper.wp execOp
         simp only [hop, resolve, hc, ha, ht, Sem.run_bind, Sem.run_pure, Result.andThen_ok]
         rw [Oper.upon_defer, hdst]
         refine ⟨⟨s2, f2, [_], rfl, q2, q3, fun t => q4 t, q5, by rw [← q6]; rfl, ⟨fun d hd => by
          have hks : ∃ ks, d = { target := .builtin .clear #[T] o.type ks, args := #[.map (some bm)] } := ⟨_, (List.mem_singleton.1 hd).trans (congrArg (fun y => ({ target := .builtin .clear #[T] o.type _, args := y } : Deferred)) (show (#[x].map a2.eval) = #[.map (some bm)] by rw [← he]; simp))⟩
          obtain ⟨ks, hks⟩ := hks
          exact .inr ⟨hbt, id', bm, T, o.type, ks, u, hks, hu, hv, .inl ⟨_, hid⟩⟩, by simp⟩⟩, q7⟩
        ·cases hdf
       ·cases hdf
      ·cases hdf
     ·cases hdf
    ·exact q5.elim
  | true => exact drawA_ok hm hT hD hcall hd hops hok hf hN h (fun a' w' hp => hp.m)
 | .seq x y, hs, hd, b, hb, K, X, Rt, f, s, a, hok, hf, hN, h => by
  simp only [okCode, drawsOk, Bool.and_eq_true] at hs hd
  refine wp_seq (Code.wp_mono ?_ (codeA_ok hm hT hD hcall x hs.1 hd.1 b (fun e => hb (by simp only [hasD, e, Bool.true_or])) _ X Rt f s a hok hf hN h))
  intro e a' w' hq
  cases e with
  | normal =>
   obtain ⟨⟨s2, f2, ms, h1, h2, h3, h4, h5, h6, h8⟩, h7⟩ := hq
   subst h1
   refine Code.wp_mono ?_ (codeA_ok hm hT hD hcall y hs.2 hd.2 b (fun e => hb (by simp only [hasD, e, Bool.or_true])) K X Rt f2 s2 a' h3 h4 h7 h5)
   intro e a2 w2 hq2
   rw [h6] at hq2
   cases e with
   | normal => exact PostM.trans h2 h8 hq2
   | exit i => exact PostM.trans h2 h8 hq2
   | ret => exact PostM.trans h2 h8 hq2
   | goto l => exact hq2
   | panic ch => exact hq2
   | outgrown => exact hq2
  | exit i => exact hq
  | ret => exact hq
  | goto l => exact hq
  | panic ch => exact hq
  | outgrown => exact hq
 | .cond c x y, hs, hd, b, hb, K, X, Rt, f, s, a, hok, hf, hN, h => by
  simp only [okCode, drawsOk, Bool.and_eq_true] at hs hd
  rw [codeA_cond] at h
  split at h
  ·rename_i t ht
   have hr := ev_R hf c
   rw [ht] at hr
   simp only [R] at hr
   rcases br_elim h with ⟨rfl, hk⟩ | ⟨rfl, hk⟩
   ·exact wp_cond_true hr (codeA_ok hm hT hD hcall x hs.1 hd.1 b (fun e => hb (by simp only [hasD, e, Bool.true_or])) K X Rt f s a hok hf hN hk)
   ·exact wp_cond_false hr (codeA_ok hm hT hD hcall y hs.2 hd.2 b (fun e => hb (by simp only [hasD, e, Bool.or_true])) K X Rt f s a hok hf hN hk)
  ·exact h.elim
 | .block id c, hs, hd, b, hb, K, X, Rt, f, s, a, hok, hf, hN, h => by
  simp only [okCode, drawsOk] at hs hd
  rw [codeA_block] at h
  refine wp_block (Code.wp_mono ?_ (codeA_ok hm hT hD hcall c hs hd b hb K _ Rt f s a hok hf hN h))
  intro e a' w' hq
  cases e with
  | normal => exact hq
  | exit i =>
   simp only [Exit.inBlock]
   by_cases hi : i = id
   ·rw [if_pos hi]
    refine PostM.weaken hq (fun f h hk => ?_)
    subst hi
    simpa using hk
   ·rw [if_neg hi]
    refine PostM.weaken hq (fun f h hk => ?_)
    have hb : Nat.beq i id = false := by
     cases hb : Nat.beq i id with
     | true => exact absurd (Nat.eq_of_beq_eq_true hb) hi
     | false => rfl
    have hk : (match Nat.beq i id with | true => K | false => X i) f h := hk
    rw [hb] at hk
    exact hk
  | ret => exact hq
  | goto l => exact hq
  | panic ch => exact hq
  | outgrown => exact hq
 | .loop c, hs, hd, b, hb, K, X, Rt, f, s, a, hok, hf, hN, h => by
  simp only [okCode, Bool.and_eq_true, Bool.not_eq_true'] at hs
  simp only [drawsOk] at hd
  obtain ⟨hs, hnd⟩ := hs
  have hbf : hasD c = true → false = true := fun e => by rw [hnd] at e; cases e
  rw [codeA_loop] at h
  obtain ⟨h⟩ := h
  suffices key0 : (Code.loop c).wp P (PostQ P false s N a.defers K X Rt) a s.w from Code.wp_mono (fun e a2 w2 q => by
   cases e with
   | normal => exact PostM.up q
   | exit i => exact PostM.up q
   | ret => exact PostM.up q
   | goto l => exact q
   | panic ch => exact q
   | outgrown => exact q) key0
  have pass : ∀ (e : Exit) (a' a2 : Act) (w2 : World) (s2 : St) (K2 : Tr → Hp → Prop) (ms : List Deferred), Step s s2 → a'.defers = ms ++ a.defers → Mks P false s.w.heap.size s2 ms → e ≠ .normal → PostQ P false s2 N a'.defers K2 X Rt e a2 w2 → PostQ P false s N a.defers K X Rt e a2 w2 := by
   intro e a' a2 w2 s2 K2 ms hst hde hms hne hq
   rw [hde] at hq
   cases e with
   | normal => exact absurd rfl hne
   | exit i => exact PostM.trans hst hms hq
   | ret => exact PostM.trans hst hms hq
   | goto l => exact hq
   | panic ch => exact hq
   | outgrown => exact hq
  rcases h with ⟨n, hn⟩ | ⟨nz, cs, J, μ, hnz⟩
  ·refine wp_loop_rounds n ?_
   have key : ∀ (n : Nat) (f2 : Tr) (s2 : St) (a2 : Act) (ms : List Deferred), Step s s2 → Ok s2 → FR s2 f2.get a2 → a2.tmps.size = N → a2.defers = ms ++ a.defers → Mks P false s.w.heap.size s2 ms → turns n (fun K f h => codeA C call c K X Rt f h) f2 s2.h → Code.rounds P c (PostQ P false s N a.defers K X Rt) n a2 s2.w := by
    intro n
    induction n with
    | zero => intro f2 s2 a2 ms _ _ _ _ _ _ ht; exact ht.elim
    | succ n ih =>
     intro f2 s2 a2 ms hst hok2 hf2 hN2 hd2 hms ht
     simp only [turns] at ht
     simp only [Code.rounds]
     refine Code.wp_mono ?_ (codeA_ok hm hT hD hcall c hs hd false hbf _ X Rt f2 s2 a2 hok2 hf2 hN2 ht)
     intro e a3 w3 hq
     by_cases he : e = .normal
     ·subst he
      obtain ⟨⟨s3, f3, ms3, h1, h2, h3, h4, h5, h6, h8⟩, h7⟩ := hq
      subst h1
      exact ih f3 s3 a3 (ms3 ++ ms) (hst.trans h2) h3 h4 h7 (by rw [h6, hd2, List.append_assoc]) (hms.app h2 hst.size h8) h5
     ·have := pass e a2 a3 w3 s2 _ ms hst hd2 hms he hq
      cases e <;> first | exact absurd rfl he | exact this
   exact key n f s a [] (Step.refl s) hok hf hN rfl (Mks.nil _ _) hn
  ·obtain ⟨s0, f0, hst0, hok0, hf0, hw0, hJ0, hround⟩ := normK_ok nz f s _ hok hf hnz
   have key : ∀ (m n : Nat), n < m → ∀ (vs : List AV) (s2 : St) (a2 : Act) (ms : List Deferred), Step s0 s2 → Ok s2 → FR s2 (sets (erase f0 (asg c)) cs vs).get a2 → a2.tmps.size = N → a2.defers = ms ++ a.defers → Mks P false s.w.heap.size s2 ms → vs.length = cs.length → J vs s2.h → μ vs s2.h = n → Code.rounds P c (PostQ P false s N a.defers K X Rt) m a2 s2.w := by
    intro m
    induction m with
    | zero => intro n hn; omega
    | succ m ih =>
     intro n hn vs s2 a2 ms hst hok2 hf2 hN2 hd2 hms hlen hJ hμ
     have hbr := hround vs s2.h hlen hJ
     rw [erase_eq, sets_eq] at hbr
     simp only [Code.rounds]
     refine Code.wp_mono ?_ (codeA_ok hm hT hD hcall c hs hd false hbf _ X Rt _ s2 a2 hok2 hf2 hN2 hbr)
     intro e a3 w3 hq
     by_cases he : e = .normal
     ·subst he
      obtain ⟨⟨s1, f1, ms1, h1, h2, h3, h4, ⟨nzb, hbk⟩, h9, h11⟩, h10⟩ := hq
      subst h1
      have hms1 : Mks P false s.w.heap.size s1 (ms1 ++ ms) := hms.app h2 (hst0.trans hst).size h11
      obtain ⟨s3, f3, hst1, h3, h4, hw1, ⟨h5, h6, h7, h8⟩⟩ := normK_ok nzb f1 s1 _ h3 h4 hbk
      rw [← hw1]
      replace hms1 := (hms1.step hst1).cut s0.h.length
      replace h2 := h2.trans hst1
      obtain ⟨hc1, hc2⟩ := cutOk_spec h6
      have hst3 : Step s0 s3 := hst.trans h2
      have hfr : FR (s3.cut s0.h.length) (erase f0 (asg c)).get a3 := by
       intro t
       rw [erase_get]
       by_cases ht : t ∈ asg c
       ·rw [if_pos ht]; simp only [R]
       ·rw [if_neg ht]
        have e1 := congrArg (fun f => f.get t) h5
        simp only [erase_get, if_neg ht] at e1
        have hr := h4 t
        rw [e1] at hr
        refine R_cut _ _ hr (fun id hid => kn_lt ?_)
        exact ids_kn _ _ id (hf0 t) hid
      refine ih (μ (cs.map fun c => viewB s0.h.length s3.h (f3.get c)) (s3.h.take s0.h.length)) (by omega) (cs.map fun c => viewB s0.h.length s3.h (f3.get c)) (s3.cut s0.h.length) a3 (ms1 ++ ms) (cut_step hst3 (Nat.le_refl _)) (cut_ok h3 hc2) ?_ h10 (by rw [h9, hd2, List.append_assoc]) hms1 (by simp) h7 rfl
      refine FR.sets cs _ _ hfr (fun i c v hc hv => ?_)
      rw [List.getElem?_map, hc] at hv
      cases hv
      refine viewB_R h3 (h4 c) (fun id hid => hc1 id (idsVs_mem (c := viewB s0.h.length s3.h (f3.get c)) (List.mem_map.2 ⟨c, List.mem_of_getElem? hc, rfl⟩) hid))
     ·have := pass e a2 a3 w3 s2 _ ms (hst0.trans hst) hd2 hms he hq
      cases e <;> first | exact absurd rfl he | exact this
   have hfr0 : FR s0 (sets (erase f0 (asg c)) cs (cs.map f0.get)).get a := by
    refine FR.sets cs _ _ (fun t => ?_) (fun i c v hc hv => ?_)
    ·rw [erase_get]
     by_cases ht : t ∈ asg c
     ·rw [if_pos ht]; simp only [R]
     ·rw [if_neg ht]; exact hf0 t
    ·rw [List.getElem?_map, hc] at hv
     cases hv
     exact hf0 c
   rw [← hw0]
   exact wp_loop_rounds (μ (cs.map f0.get) s0.h + 1) (key _ _ (Nat.lt_succ_self _) (cs.map f0.get) s0 a [] (Step.refl s0) hok0 hfr0 hN rfl (Mks.nil _ _) (by simp) hJ0 rfl)
 | .exit id, _, _, b, hb, K, X, Rt, f, s, a, hok, hf, hN, h => wp_exit (show PostM P b s N a.defers (X id) a s.w from PostM.here hok hf hN h)
 | .scope c, hs, hd, b, hb, K, X, Rt, f, s, a, hok, hf, hN, h => by
  simp only [okCode, drawsOk] at hs hd
  rw [codeA_scope] at h
  refine wp_scope_straight (Code.wp_mono ?_ (codeA_ok hm hT hD hcall c hs hd b hb K X Rt f s a hok hf hN h))
  intro e a' w' hq
  cases e <;> exact hq
 | .label l, _, _, b, hb, K, X, Rt, f, s, a, hok, hf, hN, h => wp_label (show PostM P b s N a.defers K a s.w from PostM.here hok hf hN h)
 | .ret, _, _, b, hb, K, X, Rt, f, s, a, hok, hf, hN, h => wp_ret (show PostM P b s N a.defers Rt a s.w from PostM.here hok hf hN h)
 | .rangeFunc g ps asn bd, hs, _, b, hb, K, X, Rt, f, s, a, hok, hf, hN, h => range_ok hT hD hcall hs hok hf hN h
 | .goto _, _, _, _, _, _, _, _, _, _, _, _, _, _, h => False.elim h
 | .refuse _, _, _, _, _, _, _, _, _, _, _, _, _, _, h => False.elim h
end
end Av
