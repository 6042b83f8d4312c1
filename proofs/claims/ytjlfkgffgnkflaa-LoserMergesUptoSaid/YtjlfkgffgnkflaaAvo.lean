/-
  An abstract reading of values and memory: code and functions do what is reckoned.
-/
import Derived.Test.YtjlfkgffgnkflaaAvn
namespace Av
open Go

def drawsOk : Code → Bool
  | .region _ ops d => match d with | true => drawOk ops || Nat.ble 2 (stores ops.toList) | false => true
  | .seq a b => drawsOk a && drawsOk b
  | .cond _ a b => drawsOk a && drawsOk b
  | .block _ c => drawsOk c
  | .loop c => drawsOk c
  | .scope c => drawsOk c
  | _ => true
def PostQ (s : St) (N : Nat) (ds : List Deferred) (K : Tr → Hp → Prop) (X : Nat → Tr → Hp → Prop) (Rt : Tr → Hp → Prop) : Exit → Act → World → Prop
  | .normal, a, w => Post s N ds K a w
  | .exit i, a, w => Post s N ds (X i) a w
  | .ret, a, w => Post s N ds Rt a w
  | _, _, _ => False
theorem Post.weaken {s : St} {N : Nat} {ds : List Deferred} {K K' : Tr → Hp → Prop} {a : Act} {w : World} (h : Post s N ds K a w) (hk : ∀ f h, K f h → K' f h) : Post s N ds K' a w := by
  obtain ⟨⟨s2, f, h1, h2, h3, h4, h5⟩, h6, h7⟩ := h
  exact ⟨⟨s2, f, h1, h2, h3, h4, hk _ _ h5⟩, h6, h7⟩
section
variable {P : Program}
theorem codeA_ok {C : Cx} (hm : P.follows .mixedOrders = true) (hT : TbOk P C.tb) (hD : SpecsOk P C.specs) {call : CallA} (hcall : CallOk P call) {N : Nat} :
    ∀ (c : Code), okCode N c = true → drawsOk c = true → ∀ (K : Tr → Hp → Prop) (X : Nat → Tr → Hp → Prop) (Rt : Tr → Hp → Prop) (f : Tr) (s : St) (a : Act), Ok s → FR s f.get a → a.tmps.size = N →
      codeA C call c K X Rt f s.h → c.wp P (PostQ s N a.defers K X Rt) a s.w
  | .skip, _, _, K, X, Rt, f, s, a, hok, hf, hN, h => wp_skip ⟨⟨s, f, rfl, Step.refl s, hok, hf, h⟩, rfl, hN⟩
  | .region id ops d, hs, hd, K, X, Rt, f, s, a, hok, hf, hN, h => by
    have hops : ∀ o ∈ ops.toList, dstOk N o = true := by
      unfold okCode at hs
      exact List.all_eq_true.1 hs
    cases d with
    | false => exact wp_region_list (opsA_ok hT hD hcall hops ops.toList hops s f a K hok hf hN h (fun a' w' hp => hp))
    | true => exact drawA_ok hm hT hD hcall hd hops hok hf hN h (fun a' w' hp => hp)
  | .seq x y, hs, hd, K, X, Rt, f, s, a, hok, hf, hN, h => by
    simp only [okCode, drawsOk, Bool.and_eq_true] at hs hd
    refine wp_seq (Code.wp_mono ?_ (codeA_ok hm hT hD hcall x hs.1 hd.1 _ X Rt f s a hok hf hN h))
    intro e a' w' hq
    cases e with
    | normal =>
      obtain ⟨⟨s2, f2, h1, h2, h3, h4, h5⟩, h6, h7⟩ := hq
      subst h1
      refine Code.wp_mono ?_ (codeA_ok hm hT hD hcall y hs.2 hd.2 K X Rt f2 s2 a' h3 h4 h7 h5)
      intro e a2 w2 hq2
      rw [h6] at hq2
      cases e with
      | normal => exact Post.trans h2 hq2
      | exit i => exact Post.trans h2 hq2
      | ret => exact Post.trans h2 hq2
      | goto l => exact hq2
      | panic ch => exact hq2
      | outgrown => exact hq2
    | exit i => exact hq
    | ret => exact hq
    | goto l => exact hq
    | panic ch => exact hq
    | outgrown => exact hq
  | .cond c x y, hs, hd, K, X, Rt, f, s, a, hok, hf, hN, h => by
    simp only [okCode, drawsOk, Bool.and_eq_true] at hs hd
    rw [codeA_cond] at h
    split at h
    · rename_i t ht
      have hr := ev_R hf c
      rw [ht] at hr
      simp only [R] at hr
      rcases br_elim h with ⟨rfl, hk⟩ | ⟨rfl, hk⟩
      · exact wp_cond_true hr (codeA_ok hm hT hD hcall x hs.1 hd.1 K X Rt f s a hok hf hN hk)
      · exact wp_cond_false hr (codeA_ok hm hT hD hcall y hs.2 hd.2 K X Rt f s a hok hf hN hk)
    · exact h.elim
  | .block id c, hs, hd, K, X, Rt, f, s, a, hok, hf, hN, h => by
    simp only [okCode, drawsOk] at hs hd
    rw [codeA_block] at h
    refine wp_block (Code.wp_mono ?_ (codeA_ok hm hT hD hcall c hs hd K _ Rt f s a hok hf hN h))
    intro e a' w' hq
    cases e with
    | normal => exact hq
    | exit i =>
      simp only [Exit.inBlock]
      by_cases hi : i = id
      · rw [if_pos hi]
        refine Post.weaken hq (fun f h hk => ?_)
        subst hi
        simpa using hk
      · rw [if_neg hi]
        refine Post.weaken hq (fun f h hk => ?_)
        have hb : Nat.beq i id = false := by
          cases hb : Nat.beq i id with
          | true => exact absurd (Nat.eq_of_beq_eq_true hb) hi
          | false => rfl
        have hk : (match Nat.beq i id with | true => K | false => X i) f h := hk
        rw [hb] at hk
        exact hk
    | ret => exact hq
    | goto l => exact hq
    | panic ch => exact hq
    | outgrown => exact hq
  | .loop c, hs, hd, K, X, Rt, f, s, a, hok, hf, hN, h => by
    simp only [okCode, drawsOk] at hs hd
    rw [codeA_loop] at h
    obtain ⟨h⟩ := h
    have pass : ∀ (e : Exit) (a' a2 : Act) (w2 : World) (s2 : St) (K2 : Tr → Hp → Prop), Step s s2 → a'.defers = a.defers → e ≠ .normal → PostQ s2 N a'.defers K2 X Rt e a2 w2 → PostQ s N a.defers K X Rt e a2 w2 := by
      intro e a' a2 w2 s2 K2 hst hde hne hq
      rw [hde] at hq
      cases e with
      | normal => exact absurd rfl hne
      | exit i => exact Post.trans hst hq
      | ret => exact Post.trans hst hq
      | goto l => exact hq
      | panic ch => exact hq
      | outgrown => exact hq
    rcases h with ⟨n, hn⟩ | ⟨nz, cs, J, μ, hnz⟩
    · refine wp_loop_rounds n ?_
      have key : ∀ (n : Nat) (f2 : Tr) (s2 : St) (a2 : Act), Step s s2 → Ok s2 → FR s2 f2.get a2 → a2.tmps.size = N → a2.defers = a.defers → turns n (fun K f h => codeA C call c K X Rt f h) f2 s2.h → Code.rounds P c (PostQ s N a.defers K X Rt) n a2 s2.w := by
        intro n
        induction n with
        | zero => intro f2 s2 a2 _ _ _ _ _ ht; exact ht.elim
        | succ n ih =>
          intro f2 s2 a2 hst hok2 hf2 hN2 hd2 ht
          simp only [turns] at ht
          simp only [Code.rounds]
          refine Code.wp_mono ?_ (codeA_ok hm hT hD hcall c hs hd _ X Rt f2 s2 a2 hok2 hf2 hN2 ht)
          intro e a3 w3 hq
          by_cases he : e = .normal
          · subst he
            obtain ⟨⟨s3, f3, h1, h2, h3, h4, h5⟩, h6, h7⟩ := hq
            subst h1
            exact ih f3 s3 a3 (hst.trans h2) h3 h4 h7 (h6.trans hd2) h5
          · have := pass e a2 a3 w3 s2 _ hst hd2 he hq
            cases e <;> first | exact absurd rfl he | exact this
      exact key n f s a (Step.refl s) hok hf hN rfl hn
    · obtain ⟨s0, f0, hst0, hok0, hf0, hw0, hJ0, hround⟩ := normK_ok nz f s _ hok hf hnz
      have key : ∀ (m n : Nat), n < m → ∀ (vs : List AV) (s2 : St) (a2 : Act), Step s0 s2 → Ok s2 → FR s2 (sets (erase f0 (asg c)) cs vs).get a2 → a2.tmps.size = N → a2.defers = a.defers → vs.length = cs.length → J vs s2.h → μ vs s2.h = n → Code.rounds P c (PostQ s N a.defers K X Rt) m a2 s2.w := by
        intro m
        induction m with
        | zero => intro n hn; omega
        | succ m ih =>
          intro n hn vs s2 a2 hst hok2 hf2 hN2 hd2 hlen hJ hμ
          have hb := hround vs s2.h hlen hJ
          rw [erase_eq, sets_eq] at hb
          simp only [Code.rounds]
          refine Code.wp_mono ?_ (codeA_ok hm hT hD hcall c hs hd _ X Rt _ s2 a2 hok2 hf2 hN2 hb)
          intro e a3 w3 hq
          by_cases he : e = .normal
          · subst he
            obtain ⟨⟨s3, f3, h1, h2, h3, h4, ⟨h5, h6, h7, h8⟩⟩, h9, h10⟩ := hq
            subst h1
            obtain ⟨hc1, hc2⟩ := cutOk_spec h6
            have hst3 : Step s0 s3 := hst.trans h2
            have hfr : FR (s3.cut s0.h.length) (erase f0 (asg c)).get a3 := by
              intro t
              rw [erase_get]
              by_cases ht : t ∈ asg c
              · rw [if_pos ht]; simp only [R]
              · rw [if_neg ht]
                have e1 := congrArg (fun f => f.get t) h5
                simp only [erase_get, if_neg ht] at e1
                have hr := h4 t
                rw [e1] at hr
                refine R_cut _ _ hr (fun id hid => kn_lt ?_)
                exact ids_kn _ _ id (hf0 t) hid
            refine ih (μ (cs.map fun c => viewB s0.h.length s3.h (f3.get c)) (s3.h.take s0.h.length)) (by omega) (cs.map fun c => viewB s0.h.length s3.h (f3.get c)) (s3.cut s0.h.length) a3 (cut_step hst3 (Nat.le_refl _)) (cut_ok h3 hc2) ?_ h10 (h9.trans hd2) (by simp) h7 rfl
            refine FR.sets cs _ _ hfr (fun i c v hc hv => ?_)
            rw [List.getElem?_map, hc] at hv
            cases hv
            refine viewB_R h3 (h4 c) (fun id hid => hc1 id (idsVs_mem (c := viewB s0.h.length s3.h (f3.get c)) (List.mem_map.2 ⟨c, List.mem_of_getElem? hc, rfl⟩) hid))
          · have := pass e a2 a3 w3 s2 _ (hst0.trans hst) hd2 he hq
            cases e <;> first | exact absurd rfl he | exact this
      have hfr0 : FR s0 (sets (erase f0 (asg c)) cs (cs.map f0.get)).get a := by
        refine FR.sets cs _ _ (fun t => ?_) (fun i c v hc hv => ?_)
        · rw [erase_get]
          by_cases ht : t ∈ asg c
          · rw [if_pos ht]; simp only [R]
          · rw [if_neg ht]; exact hf0 t
        · rw [List.getElem?_map, hc] at hv
          cases hv
          exact hf0 c
      rw [← hw0]
      exact wp_loop_rounds (μ (cs.map f0.get) s0.h + 1) (key _ _ (Nat.lt_succ_self _) (cs.map f0.get) s0 a (Step.refl s0) hok0 hfr0 hN rfl (by simp) hJ0 rfl)
  | .exit id, _, _, K, X, Rt, f, s, a, hok, hf, hN, h => wp_exit (show Post s N a.defers (X id) a s.w from ⟨⟨s, f, rfl, Step.refl s, hok, hf, h⟩, rfl, hN⟩)
  | .scope c, hs, hd, K, X, Rt, f, s, a, hok, hf, hN, h => by
    simp only [okCode, drawsOk] at hs hd
    rw [codeA_scope] at h
    refine wp_scope_straight (Code.wp_mono ?_ (codeA_ok hm hT hD hcall c hs hd K X Rt f s a hok hf hN h))
    intro e a' w' hq
    cases e <;> exact hq
  | .label l, _, _, K, X, Rt, f, s, a, hok, hf, hN, h => wp_label (show Post s N a.defers K a s.w from ⟨⟨s, f, rfl, Step.refl s, hok, hf, h⟩, rfl, hN⟩)
  | .ret, _, _, K, X, Rt, f, s, a, hok, hf, hN, h => wp_ret (show Post s N a.defers Rt a s.w from ⟨⟨s, f, rfl, Step.refl s, hok, hf, h⟩, rfl, hN⟩)
  | .rangeFunc .., _, _, _, _, _, _, _, _, _, _, _, h => False.elim h
  | .goto _, _, _, _, _, _, _, _, _, _, _, _, h => False.elim h
  | .refuse _, _, _, _, _, _, _, _, _, _, _, _, h => False.elim h
end
end Av
