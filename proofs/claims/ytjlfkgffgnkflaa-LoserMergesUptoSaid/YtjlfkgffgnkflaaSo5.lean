/-
  An abstract reading of values and memory: slices.SortFunc at elements of one cell.
-/
import Derived.Test.YtjlfkgffgnkflaaSo4
namespace Av
open Go Go.Sort Go.Proofs Go.Shelf

def cell1 : Ty → Bool
  | .bool => true
  | .int _ => true
  | .str => true
  | _ => false
theorem cell1_flat : ∀ {t : Ty}, cell1 t = true → flatT t = true
  | .bool, _ => rfl
  | .int _, _ => rfl
  | .str, _ => rfl
theorem cell1_size : ∀ {t : Ty}, cell1 t = true → t.size = 1
  | .bool, _ => rfl
  | .int _, _ => rfl
  | .str, _ => rfl
theorem cell1_vals : ∀ {t : Ty} (_ : cell1 t = true) (x : t.El), valsT t x = [elV t x]
  | .bool, _, _ => rfl
  | .int _, _, _ => rfl
  | .str, _, _ => rfl
theorem cell1_one {t : Ty} (h : cell1 t = true) (x : t.El) : (elV t x).oneCell' = true :=
  valsT_one t x _ (by rw [cell1_vals h]; simp)
theorem rowsV_one {t : Ty} (h : cell1 t = true) : ∀ l : List t.El, rowsV t l = l.map (elV t)
  | [] => rfl
  | x :: l => by
    have := rowsV_one h l
    simp only [rowsV] at this
    simp only [rowsV, List.flatMap_cons, cell1_vals h, List.map_cons, this]
    rfl
theorem putRow_enc {α : Type} [Inhabited α] (enc : α → Value) (w : World) (b off : Nat) (d : Array α) : putRow enc w b off d = putRow id w b off (d.map enc) := by
  have : putCells enc off d = putCells id off (d.map enc) := by
    funext c
    unfold putCells
    congr 1
    funext k x
    rw [Array.size_map]
    by_cases hk : off ≤ k ∧ k < off + d.size
    · rw [if_pos hk, if_pos hk, getElem!_pos d _ (by omega), getElem!_pos (d.map enc) _ (by simp; omega)]
      simp
    · rw [if_neg hk, if_neg hk]
  unfold putRow
  rw [this]
def lkz : List (FuncId × Ty) → FuncId → Option Ty
  | [], _ => none
  | (a, t) :: l, g => match Nat.beq a g with
    | true => some t
    | false => lkz l g
section
variable {i0 : Nat} {h : Hp}
theorem viewsD_ex {f : AV → (AV → Prop) → Prop} (hf : ∀ v k, f v k → ∃ v', k v') : ∀ (l : List AV) (k : List AV → Prop), viewsD f l k → ∃ l', k l'
  | [], k, h => ⟨[], h⟩
  | v :: l, k, h => by
    have h : f v fun v' => viewsD f l fun l' => k (v' :: l') := h
    obtain ⟨v', h3⟩ := hf v _ h
    obtain ⟨l', h5⟩ := viewsD_ex hf l _ h3
    exact ⟨v' :: l', h5⟩
theorem viewD_ex : ∀ (n : Nat) (v : AV) (k : AV → Prop), viewD n i0 h v k → ∃ v', k v'
  | 0, v, k, h => h.elim
  | n + 1, v, k, hv => by
    have ih := viewD_ex n
    replace hv : viewD1 i0 h (viewD n i0 h) v k := hv
    unfold viewD1 at hv
    split at hv <;> first
      | exact hv.elim
      | exact ⟨_, hv⟩
      | (split at hv
         · first
           | (obtain ⟨cs', h1⟩ := viewsD_ex ih _ _ hv
              exact ⟨_, h1⟩)
           | exact ⟨_, (need_elim hv).2⟩
         · exact hv.elim)
      | (obtain ⟨cs', h1⟩ := viewsD_ex ih _ _ hv
         exact ⟨_, h1⟩)
end
theorem put_set {h : Hp} {id : Nat} {o : AObj} (hlt : id < h.length) : put h id o = h.set id o := by
  unfold put
  rw [if_pos hlt]
variable {P : Program} {ρ : Ren}
theorem sort_f_enters (L : SlLaysF0.n6 P ρ) : Enters P (ρ.f 6) := by
  obtain ⟨nm, h1, h2⟩ := L.f6
  exact ⟨_, _, h2, h1, rfl⟩
set_option maxHeartbeats 1000000 in
/-- slices.SortFunc at elements of one cell, of an array of the code's own. -/
theorem sort1_ok (L : SlLaysF.n6 P ρ) {t0 : Ty} (ht : cell1 t0 = true) {call : CallA} (hcall : CallOk P call) {xs : List AV} {h : Hp} {K : AV → Hp → Prop} (hk : sortA t0 call xs h K) :
    Enters P (ρ.f 6) ∧ ∀ s, s.h = h → Ok s → ∀ cs, RL s xs cs →
      Calls P (ρ.f 6) cs.toArray s.w fun e w' => ∃ s' v cr, e = .returned cr ∧ s'.w = w' ∧ Step s s' ∧ Ok s' ∧ R s' v cr ∧ K v s'.h := by
  refine ⟨sort_f_enters { L with }, fun s hs hok cs hr => ?_⟩
  subst hs
  have htup : ∀ s' : St, R s' (.tup []) (.tuple #[]) := fun s' => by simp only [R]; exact ⟨[], rfl, by simp only [RL]⟩
  unfold sortA at hk
  split at hk
  · rename_i id g n c caps
    split at hk
    · rename_i T t l f g' ho
      obtain ⟨⟨rfl, rfl, htt, hsz⟩, hk2⟩ := need_elim hk
      clear hk
      have htt := Ty.eq_of_beq _ _ htt
      subst htt
      have hft := cell1_flat ht
      simp only [RL] at hr
      obtain ⟨v, _, rfl, hv, vf, _, rfl, hvf, rfl⟩ := hr
      simp only [R] at hv hvf
      obtain ⟨_, base, cap, rfl, hσ⟩ := hv
      obtain ⟨_, len, hσ⟩ := (hσ _ _ _ _ _ ho).2 rfl
      obtain ⟨xs, ys, rfl, hxs, hys⟩ := hvf
      simp only [RL] at hxs
      subst hxs
      have hlt := (List.getElem?_eq_some_iff.1 ho).1
      by_cases hl : l = []
      · subst hl
        obtain ⟨caps', hs⟩ := viewsD_ex (viewD_ex 6) _ _ hk2
        obtain ⟨Q, cf, _, _, _, _, _, hkk⟩ := hs
        have hkk := hkk [] (List.Perm.refl _) List.Pairwise.nil
        rw [putK_eq, put_set hlt] at hkk
        have hset : s.h.set id (.arr T t [] f g') = s.h := by
          apply List.ext_getElem?
          intro j
          by_cases hj : id = j
          · subst hj
            rw [List.getElem?_set_self hlt, ho]
          · rw [List.getElem?_set_ne hj]
        rw [hset] at hkk
        refine Calls.mono (AnyF.slices_SortFunc_none { L with } base cap (.func (.func c) #[] ys.toArray) s.w) ?_
        rintro e w' ⟨rfl, rfl⟩
        exact ⟨s, .tup [], .tuple #[], rfl, rfl, Step.refl s, hok, htup s, hkk⟩
      · obtain ⟨hlen, hcap, hb⟩ := own_RC hok ho hσ
        obtain ⟨b, hbase, _⟩ := hb hl
        subst hlen
        subst hbase
        obtain ⟨caps', hs, hcaps⟩ := viewsD_ok (s := s) (s0 := s.only b) (fun v c k => viewD_ok hok ho rfl (by rw [hσ]; rfl) 6 v c k) _ _ _ hys hk2
        obtain ⟨Q, cf, hQ, hc, hirr, htr, hnt, hkk⟩ := hs
        have hblt : b < s.w.heap.size := own_lt hok ⟨id, _, ho, rfl, by rw [hσ]; rfl⟩
        obtain ⟨x0, hx0⟩ : ∃ x, x ∈ l := by
          cases l with
          | nil => exact absurd rfl hl
          | cons x l => exact ⟨x, by simp⟩
        haveI : Inhabited {x // Q x} := ⟨⟨x0, hQ x0 hx0⟩⟩
        obtain ⟨qs, hown, hone, hrow, _⟩ := hok.obj id _ ho
        have hown' := hown
        rw [hσ] at hown'
        have hqs := rowsV_of (s := s) hft (by rw [cell1_size ht]; omega) hown.1 hrow
        rw [rowsV_one ht] at hqs
        have hen : Enters P c := (hcall _ _ _ _ (hc x0 x0 (hQ _ hx0) (hQ _ hx0))).1
        have hsize : (att l hQ).toArray.size = l.length := by simp [att_len]
        have hown2 := hok.obj id _ ho
        have hcell : ∀ j (hj : j < l.length), s.w.cell? ⟨b, 0 + j, none⟩ = some (elV t l[j]) := by
          intro j hj
          have hq : qs[j]? = some (elV t l[j]) := by
            rw [hqs, List.getElem?_map, List.getElem?_eq_getElem hj]
            rfl
          have := hown'.cells (g := b) rfl j _ hq
          rw [Addr.add_mid, Nat.zero_add] at this
          rw [Nat.zero_add]
          exact this
        have hfroz : ∀ j, s.w.frozen? ⟨b, 0 + j, none⟩ = false := by
          intro j
          rcases hown'.2 with ⟨he, _⟩ | ⟨b', cap', cur, he, hb0, hg, hnc, hcm, hcs, htake⟩
          · cases he
          · cases he
            simp [World.frozen?, hg]
        have hbang : ∀ j (hj : j < l.length), ((att l hQ).toArray[j]!).1 = l[j] := by
          intro j hj
          have h1 : (att l hQ)[j]? = some ((att l hQ)[j]'(by rw [att_len]; exact hj)) := List.getElem?_eq_getElem _
          have h2 := att_get hQ h1
          rw [get_bang h1]
          rw [List.getElem?_eq_getElem hj] at h2
          exact (Option.some.inj h2).symm
        have key := Any.slices_SortFunc L (fun x : {x // Q x} => elV t x.1) (fun x => cell1_one ht x.1) (fun x y => cf x.1 y.1) (swo_of hirr htr hnt) c ys.toArray b 0 cap (att l hQ).toArray s.w
          (fun args w => enter_run hen args w) (fun m os dk hdk x y => by
            unfold sortWorld
            rw [putRow_enc]
            exact cmp_calls hcall hft hblt hcaps (hc x.1 y.1 x.2 y.2) m _ os)
          (fun j hj => by
            rw [hsize] at hj
            refine ⟨?_, hfroz j⟩
            rw [hcell j hj]
            show some (elV t l[j]) = some (elV t ((att l hQ).toArray[j]!).1)
            rw [hbang j hj])
          hblt (by rw [hsize]; exact hsz)
        rw [hsize] at key
        refine Calls.mono key ?_
        rintro e w' ⟨rfl, d', n, os, hp, hso, hw⟩
        rw [← hsize] at hp hso
        obtain ⟨hperm, hpair, hdl⟩ := sorted_list hp hso
        have hkk := hkk _ hperm hpair
        rw [putK_eq, put_set hlt] at hkk
        unfold sortWorld at hw
        rw [putRow_enc] at hw
        have hF : (d'.map fun x : {x // Q x} => elV t x.1).toList = rowsV t (d'.toList.map (·.1)) := by
          rw [rowsV_one ht, Array.toList_map, List.map_map]
          rfl
        generalize (d'.map fun x : {x // Q x} => elV t x.1) = F at hF hw
        generalize (d'.toList.map (·.1)) = l2 at hF hperm hkk
        obtain ⟨hst, hok'⟩ := sort_turn hok ho hft hσ hperm.length_eq hF n os hw
        exact ⟨_, .tup [], .tuple #[], rfl, rfl, hst, hok', htup _, hkk⟩
    · exact hk.elim
  · rename_i g caps
    simp only [RL] at hr
    obtain ⟨v, _, rfl, hv, vf, _, rfl, hvf, rfl⟩ := hr
    simp only [R] at hv hvf
    obtain ⟨xs, ys, rfl, hxs, hys⟩ := hvf
    simp only [RL] at hxs
    subst hxs
    subst hv
    refine Calls.mono (AnyF.slices_SortFunc_none { L with } none 0 (.func (.func g) #[] ys.toArray) s.w) ?_
    rintro e w' ⟨rfl, rfl⟩
    exact ⟨s, .tup [], .tuple #[], rfl, rfl, Step.refl s, hok, htup s, hk⟩
  · rename_i g caps
    simp only [RL] at hr
    obtain ⟨v, _, rfl, hv, vf, _, rfl, hvf, rfl⟩ := hr
    simp only [R] at hv hvf
    obtain ⟨xs, ys, rfl, hxs, hys⟩ := hvf
    simp only [RL] at hxs
    subst hxs
    subst hv
    refine Calls.mono (AnyF.slices_SortFunc_none { L with } none 0 (.func (.func g) #[] ys.toArray) s.w) ?_
    rintro e w' ⟨rfl, rfl⟩
    exact ⟨s, .tup [], .tuple #[], rfl, rfl, Step.refl s, hok, htup s, hk⟩
  · exact hk.elim
/-- Functions that are walked through, to a depth, and sorts. -/
noncomputable def callZ (Z : List (FuncId × Ty)) (C : Cx) : Nat → CallA
  | 0, _, _, _, _ => False
  | n + 1, g, xs, h, K => match lkz Z g with
    | some t => sortA t (fun g xs h K => callZ Z C n g xs h K) xs h K
    | none => match lkf C.fns g with
      | some fn => bodyA C (fun g xs h K => callZ Z C n g xs h K) fn xs h K
      | none => False
def SortOk (P : Program) (f : FuncId) (t : Ty) : Prop :=
  ∀ (call : CallA), CallOk P call → ∀ (xs : List AV) (h : Hp) (K : AV → Hp → Prop), sortA t call xs h K →
    Enters P f ∧ ∀ s, s.h = h → Ok s → ∀ cs, RL s xs cs →
      Calls P f cs.toArray s.w fun e w' => ∃ s' v cr, e = .returned cr ∧ s'.w = w' ∧ Step s s' ∧ Ok s' ∧ R s' v cr ∧ K v s'.h
def SortsOk (P : Program) (Z : List (FuncId × Ty)) : Prop := ∀ g t, lkz Z g = some t → SortOk P g t
theorem SortsOk.nil : SortsOk P [] := fun g t h => by cases h
theorem SortsOk.cons {f : FuncId} {t : Ty} {Z : List (FuncId × Ty)} (h : SortOk P f t) (hZ : SortsOk P Z) : SortsOk P ((f, t) :: Z) := by
  intro g t' hg
  simp only [lkz] at hg
  split at hg
  · rename_i hb
    have := Nat.eq_of_beq_eq_true hb
    cases hg
    exact this ▸ h
  · exact hZ g t' hg
theorem SortOk.one {ρ : Ren} (L : SlLaysF.n6 P ρ) {t : Ty} (ht : cell1 t = true) : SortOk P (ρ.f 6) t := fun _ hc _ _ _ hk => sort1_ok L ht hc hk
theorem callZ_ok {Z : List (FuncId × Ty)} {C : Cx} (hm : P.follows .mixedOrders = true) (hT : TbOk P C.tb) (hD : SpecsOk P C.specs) (hF : FnsOk P C.fns) (hZ : SortsOk P Z) : ∀ n, CallOk P (callZ Z C n)
  | 0 => fun g xs h K hk => hk.elim
  | n + 1 => fun g xs h K hk => by
    simp only [callZ] at hk
    split at hk
    · rename_i t hl
      exact hZ g t hl _ (callZ_ok hm hT hD hF hZ n) _ _ _ hk
    · split at hk
      · rename_i fn hl
        have hfn := hF g fn hl
        refine ⟨hfn.enters, fun s hs hok cs hr => ?_⟩
        subst hs
        exact bodyA_ok hm hT hD (callZ_ok hm hT hD hF hZ n) hfn hk hok hr
      · exact hk.elim
end Av
