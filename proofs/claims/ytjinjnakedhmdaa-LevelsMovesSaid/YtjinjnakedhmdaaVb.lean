/-
  The iterator over the runs of levels, the newest one first.
-/
import Derived.Shelf.Abstract
import Derived.WalkKit
import Derived.OwnWalkIn
import Derived.TacticsInMore
import Derived.LoopNIn
import Derived.LoopIn
import Derived.IntWalk
import Derived.Test.YtjinjnakedhmdaaVc
import Derived.Test.YtjinjnakedhmdaaAvq
namespace Go.Proofs.Ytjinjnakedhmdaa
open Go Go.Proofs Go.RowKit Go.Shelf Av
attribute [local go_sem] Oper.semAt_some

/-- How many runs the levels ahead of one have. -/
def cntL (l : List lvT.El) (i : Nat) : Nat := (newL (l.take i)).length
theorem cntL_succ {l : List lvT.El} {k : Nat} {x : lvT.El} (h : l[k]? = some x) : cntL l (k + 1) = cntL l k + (rsL x).length := by
  unfold cntL newL
  rw [List.take_add_one, h, List.flatMap_append, List.length_append]
  simp
theorem cntL_at {l : List lvT.El} {k : Nat} {x : lvT.El} (h : l[k]? = some x) (j : Nat) (r : runT.El) (hj : j < (rsL x).length) (hr : (rsL x)[(rsL x).length - 1 - j]? = some r) : (newL l)[cntL l k + j]? = some r := by
  have hk : k < l.length := (List.getElem?_eq_some_iff.1 h).1
  have hs : l = l.take k ++ x :: l.drop (k + 1) := by
    have := (List.take_append_drop k l).symm
    rw [List.drop_eq_getElem_cons hk] at this
    rw [List.getElem?_eq_getElem hk] at h
    cases h
    exact this
  have : newL l = newL (l.take k) ++ ((rsL x).reverse ++ newL (l.drop (k + 1))) := by
    conv => lhs; rw [hs]
    unfold newL
    rw [List.flatMap_append, List.flatMap_cons]
  rw [this]
  unfold cntL
  rw [List.getElem?_append_right (by omega), Nat.add_sub_cancel_left, List.getElem?_append_left (by rw [List.length_reverse]; exact hj), List.getElem?_reverse hj]
  exact hr
set_option maxRecDepth 100000 in
set_option maxHeartbeats 2000000 in
theorem nw1_in (l : List lvT.El) (s0 : St) (ln Bs Bo cap : Nat) (a : Option Addr) (J : Nat → St → Prop) (Jx : St → Prop)
    (hbox : s0.w.cell? ⟨Bs, Bo + 1, none⟩ = some (.slice a l.length cap)) (h0 : J 0 s0) (hJ : ∀ k s, J k s → Ok s ∧ Sim s0 s) (hG : ∀ k s w', J k s → Grew s.w w' → J k (s.world w'))
    (hlv : ∀ (i : Nat) (x : lvT.El), l[i]? = some x → ∃ b o a2 c2, a = some ⟨b, o, none⟩ ∧ ¬ Av.Own s0 b ∧ s0.w.cell? ⟨b, o + i, none⟩ = some (.slice a2 (rsL x).length c2) ∧
      ∀ (k : Nat) (r : runT.El), (rsL x)[k]? = some r → ∃ b2 o2 v es, a2 = some ⟨b2, o2, none⟩ ∧ ¬ Av.Own s0 b2 ∧ s0.w.cell? ⟨b2, o2 + k * 2, none⟩ = some v ∧ s0.w.cell? ⟨b2, o2 + k * 2 + 1, none⟩ = some es ∧ R s0 (avV runT r) (.agg #[v, es]))
    (hlb : l.length ≤ 1000000) (hln : ∀ x ∈ l, (rsL x).length ≤ 1000000)
    (hY : ∀ k s r cv, J k s → (newL l)[k]? = some r → R s (avV runT r) cv → YieldAt Fence.wide 0 Try.prog ln #[cv] s.w fun e W' => (e = .returned (.bool true) ∧ ∃ s', s'.w = W' ∧ J (k + 1) s' ∧ Keep s s') ∨ (e = .returned (.bool false) ∧ ∃ s', s'.w = W' ∧ Jx s')) :
    CallsIn Fence.wide 1 Try.prog 50 #[.func (.yield ln) #[] #[], .pointer (some ⟨Bs, Bo, none⟩)] s0.w fun e W' => (∃ v, e = .returned v) ∧ ((∃ s', s'.w = W' ∧ J (newL l).length s') ∨ ∃ s', s'.w = W' ∧ Jx s') := by
  refine callsIn_of_wp Try.func50 rfl trivial ?_ rfl
  simp only [Try.ntmps50, List.size_toArray, List.length_cons, List.length_nil, Nat.reduceAdd, Nat.reduceSub, Array.replicate_succ, Array.replicate_zero, List.push_toArray, List.append_toArray, List.nil_append, List.cons_append]
  gi_wp2
  gi_loopw [9] (fun i wr => ∃ (k : Nat) (st : St), k ≤ l.length ∧ i = .int .i64 k ∧ st.w = wr ∧ J (cntL l k) st) (fun i _ => l.length - (intOf i).toNat)
  case atStart => exact ⟨0, s0, Nat.zero_le _, rfl, rfl, h0⟩
  case round =>
    obtain ⟨k, st, hk, rfl, rfl, hJs⟩ := hrel
    by_cases hlt : k < l.length
    · obtain ⟨b, o, a2, c2, rfl, hnb, hcell, hruns⟩ := hlv k _ (List.getElem?_eq_getElem hlt)
      have hc1 := (hJ _ _ hJs).2.cell hnb hcell
      have hlx := hln _ (List.getElem_mem hlt)
      have hnx := cntL_at (List.getElem?_eq_getElem hlt)
      have hgo : cntL l (k + 1) = cntL l k + (rsL l[k]).length := cntL_succ (List.getElem?_eq_getElem hlt)
      generalize hX : l[k] = X at *
      gi_wp2
      gi_loopw [5] (fun i wr => ∃ (j : Nat) (st2 : St), j ≤ (rsL X).length ∧ i = .int .i64 ((rsL X).length - 1 - j) ∧ st2.w = wr ∧ J (cntL l k + j) st2 ∧ st.w.heap.size < wr.heap.size ∧ ¬ Av.Own st2 st.w.heap.size ∧ wr.cell? ⟨st.w.heap.size, 0, none⟩ = some (.slice a2 (rsL X).length c2)) (fun i _ => (intOf i + 1).toNat)
      case atStart =>
        have hok := (hJ _ _ hJs).1
        refine ⟨0, st.world _, Nat.zero_le _, by simp, rfl, hG _ _ _ hJs (Grew.alloc _ _), by simp, ?_, ?_⟩
        · rintro (h | h)
          · exact absurd (hok.fb _ h) (Nat.lt_irrefl _)
          · exact absurd (own_lt (s := st) hok h) (Nat.lt_irrefl _)
        · exact (World.cell?_alloc_at _ _ _ _ rfl).trans rfl
      case round =>
        obtain ⟨j, st2, hj, rfl, rfl, hJ2, hbs, hbo, hbx⟩ := hrel
        by_cases hjl : j < (rsL X).length
        · obtain ⟨r, hr⟩ : ∃ r : runT.El, (rsL X)[(rsL X).length - 1 - j]? = some r := ⟨_, List.getElem?_eq_getElem (by omega)⟩
          obtain ⟨b2, o2, v, es, rfl, hnb2, hv, hes, hR⟩ := hruns _ r hr
          have hnr := hnx j r hjl hr
          have hsim2 := (hJ _ _ hJ2).2
          have hv2 := hsim2.cell hnb2 hv
          have hes2 := hsim2.cell hnb2 hes
          have hR2 := R_sim hsim2 _ _ hR
          obtain ⟨fn, tmps, assign, body, hy, hRd⟩ := hY _ st2 r _ hJ2 hnr hR2
          gi_wp2
          refine hRd.mono ?_
          rintro e W3 (⟨rfl, st3, rfl, hJ3, hkp⟩ | ⟨rfl, st3, rfl, hx3⟩)
          · gi_wp2
            go_roundw
            case rel => exact ⟨j + 1, st3, by omega, by congr 1; omega, rfl, hJ3, Nat.lt_of_lt_of_le hbs hkp.size, hkp.ro hbs hbo, hkp.cell hbo hbx⟩
            case measure => simp [intOf]; omega
          · gi_wp2
            refine bodyPost_ret (results_none rfl _ _ _) rfl ?_
            exact ⟨⟨_, rfl⟩, .inr ⟨st3, rfl, hx3⟩⟩
        · obtain rfl : j = (rsL X).length := by omega
          gi_wp2
          refine ⟨⟨k + 1, st2, by omega, ?_, rfl, by rw [hgo]; exact hJ2⟩, ?_⟩
          · rfl
          · simp [intOf]
            omega
    · obtain rfl : k = l.length := by omega
      gi_wp2
      go_end0
      refine ⟨⟨_, rfl⟩, .inl ⟨st, rfl, ?_⟩⟩
      unfold cntL at hJs
      rw [List.take_length] at hJs
      exact hJs
/-- What is known of levels in memory. -/
theorem lv_facts {s : St} {l : List lvT.El} {v : Value} (h : RLst s lvT l v) : ∃ a cap, v = .slice a l.length cap ∧ ∀ (i : Nat) (x : lvT.El), l[i]? = some x → ∃ b o a2 c2, a = some ⟨b, o, none⟩ ∧ ¬ Av.Own s b ∧ s.w.cell? ⟨b, o + i, none⟩ = some (.slice a2 (rsL x).length c2) ∧
      ∀ (k : Nat) (r : runT.El), (rsL x)[k]? = some r → ∃ b2 o2 v es, a2 = some ⟨b2, o2, none⟩ ∧ ¬ Av.Own s b2 ∧ s.w.cell? ⟨b2, o2 + k * 2, none⟩ = some v ∧ s.w.cell? ⟨b2, o2 + k * 2 + 1, none⟩ = some es ∧ R s (avV runT r) (.agg #[v, es]) := by
  obtain ⟨a, cap, rfl, _, h1⟩ := h
  refine ⟨a, cap, rfl, fun i x hx => ?_⟩
  obtain ⟨b, o, rfl, _, hn, h2⟩ := h1 (fun e => by rw [e] at hx; simp at hx)
  have h3 := h2 i x hx
  simp only [RT, RTs] at h3
  obtain ⟨⟨a2, c2, h4, _, h5⟩, _⟩ := h3
  refine ⟨b, o, a2, c2, rfl, hn, ?_, fun k r hr => ?_⟩
  · have h4 : s.w.cell? ⟨b, o + i * lvT.size + 0, none⟩ = some (.slice a2 (rsL x).length c2) := h4
    rw [show lvT.size = 1 from rfl, Nat.mul_one, Nat.add_zero] at h4
    exact h4
  · obtain ⟨b2, o2, rfl, _, hn2, h6⟩ := h5 (fun e => by
      have e : rsL x = [] := e
      rw [e] at hr; simp at hr)
    have h7 := h6 k r hr
    obtain ⟨h8, ⟨a3, c3, h9, h10, h11⟩, _⟩ := h7
    refine ⟨b2, o2, .int .i64 r.1, .slice a3 r.2.1.length c3, rfl, hn2, ?_, ?_, ?_⟩
    · have h8 : s.w.cell? ⟨b2, o2 + k * runT.size + 0, none⟩ = some (.int .i64 r.1) := h8
      exact h8
    · have h9 : s.w.cell? ⟨b2, o2 + k * runT.size + (1 + 0), none⟩ = some (.slice a3 r.2.1.length c3) := h9
      exact h9
    · show R s (.agg [.int .i64 r.1, .lst entT r.2.1]) _
      simp only [R, RL]
      refine ⟨[.int .i64 r.1, .slice a3 r.2.1.length c3], rfl, ⟨_, _, rfl, rfl, _, _, rfl, ?_, rfl⟩, ?_⟩
      · exact ⟨a3, c3, rfl, h10, h11⟩
      · intro u hu
        rcases List.mem_cons.1 hu with rfl | hu
        · rfl
        · have : u = _ := List.mem_singleton.1 hu
          rw [this]; rfl
/-- What the iterator hands on: the captured variable is a block of the code's own. -/
def spNew1 : ISpec := fun h caps => match caps with
  | [.ptr id 0] => match h[id]? with
    | some (.cells _ [_, .lst (.st [.sl (.st [.int .i64, .sl (.st [.str, .str, .bool, .int .i64])])]) l]) => some (l.length ≤ 1000000 ∧ ∀ x ∈ (l : List lvT.El), (rsL x).length ≤ 1000000, ⟨runT, newL l⟩)
    | _ => none
  | _ => none
theorem lvNew1_ok : IterOk Try.prog 50 spNew1 := by
  refine ⟨⟨_, _, Try.func50, rfl, rfl⟩, fun s0 caps p r cs ln J Jx hok hR hsp hp h0 hJ hG hY => ?_⟩
  unfold spNew1 at hsp
  split at hsp
  · rename_i id
    split at hsp
    · rename_i T x l hid
      cases hsp
      obtain ⟨b, vs, hσ, hh, hl, _⟩ := hok.obj id _ hid
      simp only [RL] at hl hR
      obtain ⟨v0, _, rfl, _, v1, _, rfl, h1, rfl⟩ := hl
      obtain ⟨cp, _, rfl, h2, rfl⟩ := hR
      simp only [R] at h1 h2
      obtain ⟨_, b', rfl, h3⟩ := h2
      rw [h3 _ _ hid] at hσ
      cases hσ
      obtain ⟨a, cap, rfl, hf⟩ := lv_facts h1
      refine nw1_in l s0 ln b 0 cap a J Jx ?_ h0 hJ hG hf hp.1 hp.2 hY
      unfold World.cell?
      rw [hh]
      rfl
    · cases hsp
  · cases hsp
end Go.Proofs.Ytjinjnakedhmdaa
