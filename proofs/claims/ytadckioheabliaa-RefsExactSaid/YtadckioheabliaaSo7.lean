/-
  An abstract reading of values and memory: slices.SortFunc at structs.
-/
import Derived.Test.YtadckioheabliaaSo5
import Derived.Shelf.SlSortCmp.WholeK
namespace Av
open Go Go.Sort Go.Proofs Go.Shelf

theorem flatK_rows {t : Ty} (hft : flatT t = true) (hp : 0 < t.size) {α : Type} [Inhabited α] (g : α → t.El) (d : Array α) : flatK (fun x => valsT t (g x)) t.size d = (rowsV t (d.toList.map g)).toArray := by
  have hlen := rowsV_len hft (d.toList.map g)
  rw [List.length_map, Array.length_toList] at hlen
  refine Array.ext (by simp [hlen]) fun q h1 h2 => ?_
  have hq : q < d.size * t.size := by simpa using h1
  have hi : q / t.size < d.size := Nat.div_lt_of_lt_mul (by rw [Nat.mul_comm]; exact hq)
  have hj : q % t.size < t.size := Nat.mod_lt _ hp
  have e : q / t.size * t.size + q % t.size = q := by rw [Nat.mul_comm]; exact Nat.div_add_mod q t.size
  have hx : (d.toList.map g)[q / t.size]? = some (g d[q / t.size]!) := by
    rw [List.getElem?_map, Array.getElem?_toList, Array.getElem?_eq_getElem hi, getElem!_pos d _ hi]
    rfl
  have hr := rowsV_get hft (d.toList.map g) (q / t.size) _ (q % t.size) hx hj
  rw [e] at hr
  have hf := get_flatK (fun x => valsT t (g x)) t.size d q hq
  rw [getElem!_pos (flatK (fun x => valsT t (g x)) t.size d) q h1] at hf
  rw [hf]
  have hv : q % t.size < (valsT t (g d[q / t.size]!)).length := by rw [valsT_len t _ hft]; exact hj
  rw [getElem!_pos (valsT t (g d[q / t.size]!)) _ hv]
  have h3 : (rowsV t (d.toList.map g))[q]? = some ((rowsV t (d.toList.map g)).toArray[q]) := by
    simp only [List.getElem_toArray]
    exact List.getElem?_eq_getElem _
  rw [h3, List.getElem?_eq_getElem hv] at hr
  exact (Option.some.inj hr).symm
section
variable {P : Program} {ρ : Ren}
set_option maxHeartbeats 1000000 in
/-- slices.SortFunc at structs without slices, of an array of the code's own. -/
theorem sortK_ok (L : SlLaysF0.n6 P ρ) {t0 : Ty} (hft0 : flatT t0 = true) (hp0 : 0 < t0.size) (hel : ∀ x, elV t0 x = .agg (valsT t0 x).toArray) (aE : ∀ w, (isAgg (ρ.t 24)).run P w = .ok true w) (zE : ∀ w, (Go.sizeOf (ρ.t 24)).run P w = .ok t0.size w) {call : CallA} (hcall : CallOk P call) {xs : List AV} {h : Hp} {K : AV → Hp → Prop} (hk : sortA t0 call xs h K) :
    Enters P (ρ.f 6) ∧ ∀ s, s.h = h → Ok s → ∀ cs, RL s xs cs →
      Calls P (ρ.f 6) cs.toArray s.w fun e w' => ∃ s' v cr, e = .returned cr ∧ s'.w = w' ∧ Step s s' ∧ Ok s' ∧ R s' v cr ∧ K v s'.h := by
  refine ⟨sort_f_enters { L with }, fun s hs hok cs hr => ?_⟩
  subst hs
  have htup : ∀ s' : St, R s' (.tup []) (.tuple #[]) := fun s' => by simp only [R]; exact ⟨[], rfl, by simp only [RL]⟩
  unfold sortA at hk
  split at hk
  · rename_i id g n c caps
    split at hk
    · rename_i T t l f g' ho
      obtain ⟨⟨rfl, rfl, htt, hsz⟩, hk2⟩ := need_elim hk
      clear hk
      have htt := Ty.eq_of_beq _ _ htt
      subst htt
      have hft := hft0
      simp only [RL] at hr
      obtain ⟨v, _, rfl, hv, vf, _, rfl, hvf, rfl⟩ := hr
      simp only [R] at hv hvf
      obtain ⟨_, base, cap, rfl, hσ⟩ := hv
      obtain ⟨_, len, hσ⟩ := (hσ _ _ _ _ _ ho).2 rfl
      obtain ⟨xs, ys, rfl, hxs, hys⟩ := hvf
      simp only [RL] at hxs
      subst hxs
      have hlt := (List.getElem?_eq_some_iff.1 ho).1
      by_cases hl : l = []
      · subst hl
        obtain ⟨caps', hs⟩ := viewsD_ex (viewD_ex 6) _ _ hk2
        obtain ⟨Q, cf, _, _, _, _, _, hkk⟩ := hs
        have hkk := hkk [] (List.Perm.refl _) List.Pairwise.nil
        rw [putK_eq, put_set hlt] at hkk
        have hset : s.h.set id (.arr T t [] f g') = s.h := by
          apply List.ext_getElem?
          intro j
          by_cases hj : id = j
          · subst hj
            rw [List.getElem?_set_self hlt, ho]
          · rw [List.getElem?_set_ne hj]
        rw [hset] at hkk
        refine Calls.mono (AnyF.slices_SortFunc_none { L with } base cap (.func (.func c) #[] ys.toArray) s.w) ?_
        rintro e w' ⟨rfl, rfl⟩
        exact ⟨s, .tup [], .tuple #[], rfl, rfl, Step.refl s, hok, htup s, hkk⟩
      · obtain ⟨hlen, hcap, hb⟩ := own_RC hok ho hσ
        obtain ⟨b, hbase, _⟩ := hb hl
        subst hlen
        subst hbase
        obtain ⟨caps', hs, hcaps⟩ := viewsD_ok (s := s) (s0 := s.only b) (fun v c k => viewD_ok hok ho rfl (by rw [hσ]; rfl) 6 v c k) _ _ _ hys hk2
        obtain ⟨Q, cf, hQ, hc, hirr, htr, hnt, hkk⟩ := hs
        have hblt : b < s.w.heap.size := own_lt hok ⟨id, _, ho, rfl, by rw [hσ]; rfl⟩
        obtain ⟨x0, hx0⟩ : ∃ x, x ∈ l := by
          cases l with
          | nil => exact absurd rfl hl
          | cons x l => exact ⟨x, by simp⟩
        haveI : Inhabited {x // Q x} := ⟨⟨x0, hQ x0 hx0⟩⟩
        obtain ⟨qs, hown, hone, hrow, _⟩ := hok.obj id _ ho
        have hown' := hown
        rw [hσ] at hown'
        have hqs := rowsV_of (s := s) hft hp0 hown.1 hrow
        have hen : Enters P c := (hcall _ _ _ _ (hc x0 x0 (hQ _ hx0) (hQ _ hx0))).1
        have hsize : (att l hQ).toArray.size = l.length := by simp [att_len]
        have hown2 := hok.obj id _ ho
        have hcell : ∀ j u, (rowsV _ l)[j]? = some u → s.w.cell? ⟨b, 0 + j, none⟩ = some u := by
          intro j u hu
          have hq : qs[j]? = some u := by rw [hqs]; exact hu
          have := hown'.cells (g := b) rfl j _ hq
          rw [Addr.add_mid, Nat.zero_add] at this
          rw [Nat.zero_add]
          exact this
        have hfroz : ∀ j, s.w.frozen? ⟨b, 0 + j, none⟩ = false := by
          intro j
          rcases hown'.2 with ⟨he, _⟩ | ⟨b', cap', cur, he, hb0, hg, hnc, hcm, hcs, htake⟩
          · cases he
          · cases he
            simp [World.frozen?, hg]
        have hfk := flatK_rows hft hp0 (fun x : {x // Q x} => x.1) (att l hQ).toArray
        have hal : ((att l hQ).toArray.toList.map fun x : {x // Q x} => x.1) = l := by
          show (att l hQ).map (·.1) = l
          exact att_map l hQ
        rw [hal] at hfk
        have key := AnyQ.slices_SortFunc L _ aE zE (fun x : {x // Q x} => valsT _ x.1) (fun x => valsT_len _ x.1 hft) (fun x => valsT_one _ x.1) (fun x y => cf x.1 y.1) (swo_of hirr htr hnt) c ys.toArray b 0 cap (att l hQ).toArray s.w
          (fun args w => enter_run hen args w) (fun m os dk hdk x y => by
            unfold sortWorldK putRowK
            rw [← hel, ← hel]
            exact cmp_calls hcall hft hblt hcaps (hc x.1 y.1 x.2 y.2) m _ os)
          (by
            unfold HoldsK
            intro j hj
            rw [hfk] at hj ⊢
            refine ⟨?_, hfroz j⟩
            have hjl : j < (rowsV _ l).length := by simpa using hj
            rw [get_bang (List.getElem?_eq_getElem hjl)]
            exact hcell j _ (List.getElem?_eq_getElem hjl))
          hblt (by rw [hsize]; exact hsz)
        rw [hsize] at key
        refine Calls.mono key ?_
        rintro e w' ⟨rfl, d', n, os, hp, hso, hw⟩
        rw [← hsize] at hp hso
        obtain ⟨hperm, hpair, hdl⟩ := sorted_list hp hso
        have hkk := hkk _ hperm hpair
        rw [putK_eq, put_set hlt] at hkk
        unfold sortWorldK putRowK at hw
        have hF : (flatK (fun x : {x // Q x} => valsT t x.1) t.size d').toList = rowsV _ (d'.toList.map (·.1)) := by
          rw [flatK_rows hft hp0 (fun x : {x // Q x} => x.1) d']
        generalize flatK (fun x : {x // Q x} => valsT t x.1) t.size d' = F at hF hw
        generalize (d'.toList.map (·.1)) = l2 at hF hperm hkk
        obtain ⟨hst, hok'⟩ := sort_turn hok ho hft hσ hperm.length_eq hF n os hw
        exact ⟨_, .tup [], .tuple #[], rfl, rfl, hst, hok', htup _, hkk⟩
    · exact hk.elim
  · rename_i g caps
    simp only [RL] at hr
    obtain ⟨v, _, rfl, hv, vf, _, rfl, hvf, rfl⟩ := hr
    simp only [R] at hv hvf
    obtain ⟨xs, ys, rfl, hxs, hys⟩ := hvf
    simp only [RL] at hxs
    subst hxs
    subst hv
    refine Calls.mono (AnyF.slices_SortFunc_none { L with } none 0 (.func (.func g) #[] ys.toArray) s.w) ?_
    rintro e w' ⟨rfl, rfl⟩
    exact ⟨s, .tup [], .tuple #[], rfl, rfl, Step.refl s, hok, htup s, hk⟩
  · rename_i g caps
    simp only [RL] at hr
    obtain ⟨v, _, rfl, hv, vf, _, rfl, hvf, rfl⟩ := hr
    simp only [R] at hv hvf
    obtain ⟨xs, ys, rfl, hxs, hys⟩ := hvf
    simp only [RL] at hxs
    subst hxs
    subst hv
    refine Calls.mono (AnyF.slices_SortFunc_none { L with } none 0 (.func (.func g) #[] ys.toArray) s.w) ?_
    rintro e w' ⟨rfl, rfl⟩
    exact ⟨s, .tup [], .tuple #[], rfl, rfl, Step.refl s, hok, htup s, hk⟩
  · exact hk.elim
theorem SortOk.str {ρ : Ren} (L : SlLaysF0.n6 P ρ) {fs : List Ty} (hft : flatT (.st fs) = true) (hp : 0 < (Ty.st fs).size) (aE : ∀ w, (isAgg (ρ.t 24)).run P w = .ok true w) (zE : ∀ w, (Go.sizeOf (ρ.t 24)).run P w = .ok (Ty.st fs).size w) : SortOk P (ρ.f 6) (.st fs) :=
  fun _ hc _ _ _ hk => sortK_ok L hft hp (fun _ => by simp only [elV, valsT]) aE zE hc hk
end
end Av
