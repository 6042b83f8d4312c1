/-
  An abstract reading of values and memory: slices.Sort at numbers.
-/
import Derived.Test.YtadckioheabliaaSo7
import Derived.Shelf.SortG.Plain
import Derived.Shelf.SortG.SortNone
namespace Av
open Go Go.Sort Go.Proofs Go.Shelf

def sortedI (l : List Int) : List Int := l.mergeSort fun x y => decide (x ≤ y)
def sortIA (xs : List AV) (h : Hp) (K : AV → Hp → Prop) : Prop := match xs with
  | [.own id g n] => match h[id]? with
    | some (.arr T (.int .i64) l f g') => need (g' = g ∧ n = l.length ∧ l.length < 4611686018427387904) (putK h id (.arr T (.int .i64) (sortedI l) f g') fun h => K (.tup []) h)
    | _ => False
  | [.nsl] => K (.tup []) h
  | [.zsl _] => K (.tup []) h
  | _ => False
theorem sortedI_len (l : List Int) : (sortedI l).length = l.length := by unfold sortedI; rw [List.length_mergeSort]
theorem sortedI_mem {l : List Int} {x : Int} : x ∈ sortedI l ↔ x ∈ l := by unfold sortedI; exact List.mem_mergeSort
theorem sortedI_up (l : List Int) : (sortedI l).Pairwise (fun x y => x ≤ y) := by
  have := List.pairwise_mergeSort (le := fun x y : Int => decide (x ≤ y)) (by intro a b c; simp; omega) (by intro a b; simp; omega) l
  exact this.imp (fun h => by simpa using h)
section
variable {P : Program} {ρ : Ren}
theorem sortI_ok (L : SlLaysN.n53 P ρ) {xs : List AV} {h : Hp} {K : AV → Hp → Prop} (hen : Enters P (ρ.f 53)) (hk : sortIA xs h K) : Enters P (ρ.f 53) ∧ ∀ s, s.h = h → Ok s → ∀ cs, RL s xs cs →
    Calls P (ρ.f 53) cs.toArray s.w fun e w' => ∃ s' v cr, e = .returned cr ∧ s'.w = w' ∧ Step s s' ∧ Ok s' ∧ R s' v cr ∧ K v s'.h := by
  refine ⟨hen, fun s hs hok cs hr => ?_⟩
  subst hs
  have htup : ∀ s2 : St, R s2 (.tup []) (.tuple #[]) := fun s2 => by simp only [R]; exact ⟨[], rfl, by simp only [RL]⟩
  unfold sortIA at hk
  split at hk
  · rename_i id g n
    split at hk
    · rename_i T l f g' ho
      obtain ⟨⟨rfl, rfl, hsz⟩, hk2⟩ := need_elim hk
      clear hk
      simp only [RL] at hr
      obtain ⟨v, _, rfl, hv, rfl⟩ := hr
      simp only [R] at hv
      obtain ⟨_, base, cap, rfl, hσ⟩ := hv
      obtain ⟨_, len, hσ⟩ := (hσ _ _ _ _ _ ho).2 rfl
      have hlt := (List.getElem?_eq_some_iff.1 ho).1
      rw [putK_eq, put_set hlt] at hk2
      by_cases hl : l = []
      · subst hl
        have hset : s.h.set id (.arr T (.int .i64) (sortedI []) f g') = s.h := by
          apply List.ext_getElem?
          intro j
          by_cases hj : id = j
          · subst hj
            rw [List.getElem?_set_self hlt, ho, show sortedI [] = [] by simp [sortedI]]
          · rw [List.getElem?_set_ne hj]
        rw [hset] at hk2
        refine Calls.mono (AnyG.slices_Sort_int_none L base cap s.w) ?_
        rintro e w' ⟨rfl, rfl⟩
        exact ⟨s, .tup [], .tuple #[], rfl, rfl, Step.refl s, hok, htup s, hk2⟩
      · obtain ⟨hlen, hcap, hb⟩ := own_RC hok ho hσ
        obtain ⟨b, hbase, _⟩ := hb hl
        subst hlen
        subst hbase
        have hblt : b < s.w.heap.size := own_lt hok ⟨id, _, ho, rfl, by rw [hσ]; rfl⟩
        obtain ⟨qs, hown, hone, hrow, _⟩ := hok.obj id _ ho
        have hown' := hown
        rw [hσ] at hown'
        have hcell : ∀ j (hj : j < l.length), s.w.cell? ⟨b, 0 + j, none⟩ = some (.int .i64 l[j]) := by
          intro j hj
          have hq : qs[j]? = some (.int .i64 l[j]) := by
            have h1 := hrow j l[j] (List.getElem?_eq_getElem hj)
            have h2 : qs[j * 1 + 0]? = some (.int .i64 l[j]) := h1
            rwa [Nat.mul_one, Nat.add_zero] at h2
          have := hown'.cells (g := b) rfl j _ hq
          rw [Addr.add_mid, Nat.zero_add] at this
          rw [Nat.zero_add]
          exact this
        have hfroz : ∀ j, s.w.frozen? ⟨b, 0 + j, none⟩ = false := by
          intro j
          rcases hown'.2 with ⟨he, _⟩ | ⟨b', cap', cur, he, hb0, hg, hnc, hcm, hcs, htake⟩
          · cases he
          · cases he
            simp [World.frozen?, hg]
        refine Calls.mono (AnyG.slices_Sort_int L b 0 cap l s.w (fun j hj => ?_) hblt hsz) ?_
        · have hj : j < l.length := by simpa using hj
          refine ⟨?_, hfroz j⟩
          rw [hcell j hj]
          simp [hj]
        · rintro e w' ⟨rfl, n, os, hw⟩
          rw [putRow_enc] at hw
          have hF : (((l.mergeSort fun x y => decide (x ≤ y)).toArray).map (Value.int .i64)).toList = rowsV (.int .i64) (sortedI l) := by
            rw [rowsV_one rfl, Array.toList_map]
            rfl
          obtain ⟨hst, hok'⟩ := sort_turn hok ho rfl hσ (sortedI_len l) hF n os hw
          exact ⟨_, .tup [], .tuple #[], rfl, rfl, hst, hok', htup _, hk2⟩
    · exact hk.elim
  · simp only [RL] at hr
    obtain ⟨v, _, rfl, hv, rfl⟩ := hr
    simp only [R] at hv
    subst hv
    refine Calls.mono (AnyG.slices_Sort_int_none L none 0 s.w) ?_
    rintro e w' ⟨rfl, rfl⟩
    exact ⟨s, .tup [], .tuple #[], rfl, rfl, Step.refl s, hok, htup s, hk⟩
  · simp only [RL] at hr
    obtain ⟨v, _, rfl, hv, rfl⟩ := hr
    simp only [R] at hv
    subst hv
    refine Calls.mono (AnyG.slices_Sort_int_none L none 0 s.w) ?_
    rintro e w' ⟨rfl, rfl⟩
    exact ⟨s, .tup [], .tuple #[], rfl, rfl, Step.refl s, hok, htup s, hk⟩
  · exact hk.elim
/-- Functions that are walked through, to a depth; sorts of numbers, and other sorts. -/
noncomputable def callY (I : List FuncId) (Z : List (FuncId × Ty)) (C : Cx) : Nat → CallA
  | 0, _, _, _, _ => False
  | n + 1, g, xs, h, K => match I.any (fun f => Nat.beq f g) with
    | true => sortIA xs h K
    | false => match lkz Z g with
      | some t => sortA t (fun g xs h K => callY I Z C n g xs h K) xs h K
      | none => match lkf C.fns g with
        | some fn => bodyA C (fun g xs h K => callY I Z C n g xs h K) fn xs h K
        | none => False
def SortIOk (P : Program) (f : FuncId) : Prop :=
  ∀ (xs : List AV) (h : Hp) (K : AV → Hp → Prop), sortIA xs h K →
    Enters P f ∧ ∀ s, s.h = h → Ok s → ∀ cs, RL s xs cs →
      Calls P f cs.toArray s.w fun e w' => ∃ s' v cr, e = .returned cr ∧ s'.w = w' ∧ Step s s' ∧ Ok s' ∧ R s' v cr ∧ K v s'.h
theorem SortIOk.of (L : SlLaysN.n53 P ρ) (hen : Enters P (ρ.f 53)) : SortIOk P (ρ.f 53) := fun _ _ _ hk => sortI_ok L hen hk
theorem callY_ok {I : List FuncId} {Z : List (FuncId × Ty)} {C : Cx} (hm : P.follows .mixedOrders = true) (hT : TbOk P C.tb) (hD : SpecsOk P C.specs) (hF : FnsOk P C.fns) (hI : ∀ f ∈ I, SortIOk P f) (hZ : SortsOk P Z) : ∀ n, CallOk P (callY I Z C n)
  | 0 => fun g xs h K hk => hk.elim
  | n + 1 => fun g xs h K hk => by
    simp only [callY] at hk
    split at hk
    · rename_i hb
      obtain ⟨f, hf, he⟩ := List.any_eq_true.1 hb
      have := Nat.eq_of_beq_eq_true he
      subst this
      exact hI f hf _ _ _ hk
    · split at hk
      · rename_i t hl
        exact hZ g t hl _ (callY_ok hm hT hD hF hI hZ n) _ _ _ hk
      · split at hk
        · rename_i fn hl
          have hfn := hF g fn hl
          refine ⟨hfn.enters, fun s hs hok cs hr => ?_⟩
          subst hs
          exact bodyA_ok hm hT hD (callY_ok hm hT hD hF hI hZ n) hfn hk hok hr
        · exact hk.elim
end
end Av
