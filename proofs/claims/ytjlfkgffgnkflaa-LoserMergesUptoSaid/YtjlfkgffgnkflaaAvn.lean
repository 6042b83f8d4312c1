/-
  An abstract reading of values and memory: code does what is reckoned.
-/
import Derived.Test.YtjlfkgffgnkflaaAvm
import Derived.LoopN
namespace Av
open Go

/-! ### Memory that is let go -/
def St.cut (s : St) (L : Nat) : St := ⟨s.σ, s.h.take L, s.w, s.F⟩
theorem cut_get {s : St} {L id : Nat} {o : AObj} (h : (s.cut L).h[id]? = some o) : s.h[id]? = some o ∧ id < L := by
  have h : (s.h.take L)[id]? = some o := h
  rw [List.getElem?_take] at h
  split at h
  · rename_i hl; exact ⟨h, hl⟩
  · cases h
theorem cut_own {s : St} {L b : Nat} (h : OwnI (s.cut L) b) : OwnI s b := by
  obtain ⟨id, o, h1, h2, h3⟩ := h
  exact ⟨id, o, (cut_get h1).1, h2, h3⟩
theorem cut_Own {s : St} {L b : Nat} (h : ¬ Own s b) : ¬ Own (s.cut L) b := by
  rintro (h1 | h1)
  · exact h (.inl h1)
  · exact h (.inr (cut_own h1))
theorem cut_kn {s : St} {L id : Nat} (h : kn s.h id = true) (hl : id < L) : kn (s.cut L).h id = true := by
  unfold kn at h ⊢
  show (match (s.h.take L)[id]? with | some .resv => false | some _ => true | none => false) = true
  rw [List.getElem?_take, if_pos hl]
  exact h
mutual
theorem R_cut {s : St} {L : Nat} : ∀ (a : AV) (v : Value), R s a v → (∀ id ∈ idsV a, id < L) → R (s.cut L) a v
  | .any, _, _, _ => by simp only [R]
  | .und, v, h, _ => by simpa only [R] using h
  | .bool b, v, h, _ => by simpa only [R] using h
  | .int k n, v, h, _ => by simpa only [R] using h
  | .str x, v, h, _ => by simpa only [R] using h
  | .nilp, v, h, _ => by simpa only [R] using h
  | .nsl, v, h, _ => by simpa only [R] using h
  | .zsl _, v, h, _ => by simpa only [R] using h
  | .nilfn, v, h, _ => by simpa only [R] using h
  | .nili, v, h, _ => by simpa only [R] using h
  | .ptr id off, v, h, hl => by
    simp only [R] at h ⊢
    obtain ⟨h1, b, hv, h2⟩ := h
    exact ⟨cut_kn h1 (hl id (by simp [idsV])), b, hv, fun T cs hc => h2 T cs (cut_get hc).1⟩
  | .optr id g t i off, v, h, hl => by
    simp only [R] at h ⊢
    obtain ⟨h1, b, hv, h2⟩ := h
    exact ⟨cut_kn h1 (hl id (by simp [idsV])), b, hv, fun T t' l f g0 hc => h2 T t' l f g0 (cut_get hc).1⟩
  | .own id g n, v, h, hl => by
    simp only [R] at h ⊢
    obtain ⟨h1, b, cap, hv, h2⟩ := h
    exact ⟨cut_kn h1 (hl id (by simp [idsV])), b, cap, hv, fun T t' l f g0 hc => h2 T t' l f g0 (cut_get hc).1⟩
  | .osl id g lo n, v, h, hl => by
    simp only [R] at h ⊢
    obtain ⟨h1, b, cap, hv, h0, h2⟩ := h
    exact ⟨cut_kn h1 (hl id (by simp [idsV])), b, cap, hv, h0, fun T t' l f g0 hc => h2 T t' l f g0 (cut_get hc).1⟩
  | .tosl id g lo n, v, h, hl => by
    simp only [R] at h ⊢
    obtain ⟨⟨h1, b, cap, hv, h0, h2⟩, ht⟩ := h
    exact ⟨⟨cut_kn h1 (hl id (by simp [idsV])), b, cap, hv, h0, fun T t' l f g0 hc => h2 T t' l f g0 (cut_get hc).1⟩, ht⟩
  | .pv cs, v, h, hl => by
    simp only [R] at h ⊢
    obtain ⟨b, o, hv, hlt, hb, hc⟩ := h
    exact ⟨b, o, hv, hlt, cut_Own hb, RC_cut cs _ hc (fun id hi => hl id (by simpa only [idsV] using hi))⟩
  | .agg cs, v, h, hl => by
    simp only [R] at h ⊢
    obtain ⟨vs, hv, h1, h2⟩ := h
    exact ⟨vs, hv, RL_cut cs vs h1 (fun id hi => hl id (by simpa only [idsV] using hi)), h2⟩
  | .tup cs, v, h, hl => by
    simp only [R] at h ⊢
    obtain ⟨vs, hv, h1⟩ := h
    exact ⟨vs, hv, RL_cut cs vs h1 (fun id hi => hl id (by simpa only [idsV] using hi))⟩
  | .lst t l, v, h, _ => by simp only [R] at h ⊢; exact RLst_pure (s := s) (s2 := s.cut L) rfl (fun b => cut_Own) h
  | .tlst t l, v, h, _ => by simp only [R] at h ⊢; exact ⟨RLst_pure (s := s) (s2 := s.cut L) rfl (fun b => cut_Own) h.1, h.2⟩
  | .fn f a b, v, h, hl => by
    simp only [R] at h ⊢
    obtain ⟨xs, ys, hv, h1, h2⟩ := h
    exact ⟨xs, ys, hv, RL_cut a xs h1 (fun id hi => hl id (by simp only [idsV, List.mem_append]; exact .inl hi)), RL_cut b ys h2 (fun id hi => hl id (by simp only [idsV, List.mem_append]; exact .inr hi))⟩
  | .iface t x, v, h, hl => by
    simp only [R] at h ⊢
    obtain ⟨y, hv, h1⟩ := h
    exact ⟨y, hv, R_cut x y h1 (fun id hi => hl id (by simpa only [idsV] using hi))⟩
theorem RL_cut {s : St} {L : Nat} : ∀ (cs : List AV) (vs : List Value), RL s cs vs → (∀ id ∈ idsVs cs, id < L) → RL (s.cut L) cs vs
  | [], vs, h, _ => by simpa only [RL] using h
  | c :: cs, vs, h, hl => by
    simp only [RL] at h ⊢
    obtain ⟨v, vs', hv, h1, h2⟩ := h
    exact ⟨v, vs', hv, R_cut c v h1 (fun id hi => hl id (by simp only [idsVs, List.mem_append]; exact .inl hi)), RL_cut cs vs' h2 (fun id hi => hl id (by simp only [idsVs, List.mem_append]; exact .inr hi))⟩
theorem RC_cut {s : St} {L : Nat} : ∀ (cs : List AV) (c : Nat → Option Value), RC s cs c → (∀ id ∈ idsVs cs, id < L) → RC (s.cut L) cs c
  | [], _, _, _ => by simp only [RC]
  | x :: cs, c, h, hl => by
    simp only [RC] at h ⊢
    obtain ⟨⟨v, h0, h1, h2⟩, h3⟩ := h
    exact ⟨⟨v, h0, R_cut x v h1 (fun id hi => hl id (by simp only [idsVs, List.mem_append]; exact .inl hi)), h2⟩, RC_cut cs _ h3 (fun id hi => hl id (by simp only [idsVs, List.mem_append]; exact .inr hi))⟩
end
theorem kn_lt {h : Hp} {id : Nat} (hk : kn h id = true) : id < h.length := by
  unfold kn at hk
  rcases Nat.lt_or_ge id h.length with h1 | h1
  · exact h1
  · rw [List.getElem?_eq_none h1] at hk; cases hk
theorem cut_step {s0 s : St} {L : Nat} (h : Step s0 s) (hL : s0.h.length ≤ L) : Step s0 (s.cut L) where
  os := h.os
  tape := h.tape
  output := h.output
  drawn := h.drawn
  size := h.size
  kn := fun id hid => cut_kn (h.kn id hid) (Nat.lt_of_lt_of_le (kn_lt hid) hL)
  keep := fun b hb hn => ⟨fun h1 => (h.keep b hb hn).1 (cut_own h1), (h.keep b hb hn).2⟩
  frn := h.frn
  cells := fun id T cs' hid hc => h.cells id T cs' hid (cut_get hc).1
  arr := fun id T t l' f' g hid hc => h.arr id T t l' f' g hid (cut_get hc).1
theorem cut_ok {s : St} {L : Nat} (hok : Ok s) (hL : ∀ id T cs, id < L → s.h[id]? = some (.cells T cs) → ∀ i ∈ idsVs cs, i < L) : Ok (s.cut L) where
  obj := fun id o hid => by
    obtain ⟨h1, hlt⟩ := cut_get hid
    have ho := hok.obj id o h1
    cases o with
    | resv => trivial
    | dead => trivial
    | cells T cs =>
      obtain ⟨b, vs, e, hh, hl, h2⟩ := ho
      exact ⟨b, vs, e, hh, RL_cut cs vs hl (hL id T cs hlt h1), h2⟩
    | arr T t l f g =>
      obtain ⟨xs, hown, h2, hx, hf⟩ := ho
      exact ⟨xs, hown, h2, fun i x hi => RT_pure (s := s) (s2 := s.cut L) rfl (fun b => cut_Own) t x _ (hx i x hi), hf⟩
  inj := fun i j o p b hi hj => hok.inj i j o p b (cut_get hi).1 (cut_get hj).1
  fb := hok.fb
  dis := fun b h => hok.dis b (cut_own h)
theorem cutOk_spec {L : Nat} {vs : List AV} {h : Hp} (hc : cutOk L vs h = true) : (∀ id ∈ idsVs vs, id < L) ∧ ∀ id T cs, id < L → h[id]? = some (.cells T cs) → ∀ i ∈ idsVs cs, i < L := by
  unfold cutOk at hc
  rw [Bool.and_eq_true, List.all_eq_true, List.all_eq_true] at hc
  refine ⟨fun id hid => ?_, fun id T cs hlt hg i hi => ?_⟩
  · have := hc.1 id hid
    simpa using this
  · have hm : AObj.cells T cs ∈ h.take L := by
      have : (h.take L)[id]? = some (.cells T cs) := by rw [List.getElem?_take, if_pos hlt]; exact hg
      exact List.mem_of_getElem? this
    have := hc.2 _ hm
    simp only [List.all_eq_true] at this
    have := this i hi
    simpa using this

/-! ### Slots that are let go, and taken up -/
theorem erase_eq : ∀ (ns : List Nat) (f : Tr) (k : Tr → Prop), eraseK f ns k = k (erase f ns)
  | [], f, k => rfl
  | n :: ns, f, k => by simp only [eraseK, erase, Tr.setK_eq]; exact erase_eq ns _ k
def sets : Tr → List Nat → List AV → Tr
  | f, n :: ns, v :: vs => sets (f.set n v) ns vs
  | f, _, _ => f
theorem sets_eq : ∀ (ns : List Nat) (vs : List AV) (f : Tr) (k : Tr → Prop), setsK f ns vs k = k (sets f ns vs)
  | [], vs, f, k => by cases vs <;> rfl
  | n :: ns, [], f, k => rfl
  | n :: ns, v :: vs, f, k => by simp only [setsK, sets, Tr.setK_eq]; exact sets_eq ns vs _ k
theorem erase_get : ∀ (ns : List Nat) (f : Tr) (t : Nat), (erase f ns).get t = if t ∈ ns then .any else f.get t
  | [], f, t => by simp [erase]
  | n :: ns, f, t => by
    simp only [erase]
    rw [erase_get ns, any_set]
    by_cases h1 : t ∈ ns
    · simp [h1]
    · by_cases h2 : t = n
      · simp [h2]
      · simp [h1, h2]
theorem FR.sets {s : St} {a : Act} : ∀ (cs : List Nat) (vs : List AV) (f : Tr), FR s f.get a → (∀ (i c : Nat) (v : AV), cs[i]? = some c → vs[i]? = some v → R s v (a.tmps.getD c undef)) → FR s (Av.sets f cs vs).get a
  | [], vs, f, h, _ => by cases vs <;> exact h
  | c :: cs, [], f, h, _ => h
  | c :: cs, v :: vs, f, h, hv => by
    simp only [Av.sets]
    exact FR.sets cs vs _ (h.set (hv 0 c v rfl rfl)) (fun i c' v' h1 h2 => hv (i + 1) c' v' (by simpa using h1) (by simpa using h2))
theorem idsVs_mem {cs : List AV} {c : AV} (h : c ∈ cs) {id : Nat} (hi : id ∈ idsV c) : id ∈ idsVs cs := by
  induction cs with
  | nil => cases h
  | cons x xs ih =>
    simp only [idsVs, List.mem_append]
    rcases List.mem_cons.1 h with rfl | h1
    · exact .inl hi
    · exact .inr (ih h1)

theorem viewB_cases (L : Nat) (h : Hp) (v : AV) : viewB L h v = v ∨ ∃ id g n T t, ∃ l : List t.El, ∃ f, v = .own id g n ∧ L ≤ id ∧ h[id]? = some (.arr T t l f g) ∧ viewB L h v = .lst t (l.take n) := by
  unfold viewB
  split
  · rename_i id g n
    split
    · rename_i T t l f g' hle ho
      split
      · rename_i hg
        exact .inr ⟨id, g, n, T, t, l, f, rfl, Nat.le_of_ble_eq_true hle, by rw [ho, Nat.eq_of_beq_eq_true hg], rfl⟩
      · exact .inl rfl
    · exact .inl rfl
  · exact .inl rfl
theorem viewB_R {s : St} (hok : Ok s) {L : Nat} {v : AV} {c : Value} (h : R s v c) (hl : ∀ id ∈ idsV (viewB L s.h v), id < L) : R (s.cut L) (viewB L s.h v) c := by
  rcases viewB_cases L s.h v with e | ⟨id, g, n, T, t, l, f, rfl, hLid, ho, e⟩
  · rw [e] at hl ⊢
    exact R_cut v c h hl
  · rw [e]
    simp only [R] at h
    obtain ⟨_, base, cap, rfl, hr⟩ := h
    obtain ⟨_, hr2⟩ := hr T t l f g ho
    obtain ⟨hn, len, hσ⟩ := hr2 rfl
    obtain ⟨_, hcap, hb⟩ := own_RC hok ho hσ
    have key := own_view hok (F := Own (s.cut L)) (fun b hb => by
        rcases hb with h1 | h1
        · exact .inl h1
        · exact .inr (cut_own h1)) (id := id) (fun b hbk hF => by
        rcases hF with h1 | ⟨j, o, h1, h2, h3⟩
        · exact hok.dis b ⟨id, _, ho, rfl, hbk⟩ h1
        · obtain ⟨h4, h5⟩ := cut_get h1
          have := hok.inj id j _ _ b ho h4 rfl h2 hbk h3
          omega) ho (lo := 0) (n := n) (ad := base) (cap' := cap) hσ (by omega) (by omega) (fun hpos => by
        have hl0 : l ≠ [] := by rintro rfl; simp at hn; omega
        obtain ⟨b, hb, _⟩ := hb hl0
        exact ⟨b, hb, by rw [hb, Nat.zero_mul]⟩)
    rw [List.drop_zero] at key
    simp only [R]
    exact RLst_pure (s := s.callee (Own (s.cut L))) (s2 := s.cut L) rfl (fun b hb h => hb (callee_own.2 h)) key
end Av
