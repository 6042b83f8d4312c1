/-
  An abstract reading of values and memory: slices.SortFunc at structs.
  An abstract reading of values and memory: slices.Sort at numbers.
  What the program bears of the library: the laying of contracts.
  The map of a view, by the code.
  The pairs near a key: plain Lean.
  The pairs near a key, by the code.
  The pairs of a range, by both.
-/
import Derived.Test.YtdbnohpolknbbaaGreatSo5
import Derived.Shelf.SlSortCmp.WholeK
import Derived.Shelf.SortG.Plain
import Derived.Shelf.SortG.SortNone
import Derived.Test.YtdbnohpolknbbaaGreatE5
import Derived.Test.YtdbnohpolknbbaaGreatAw0
namespace Av
open Go Go.Sort Go.Proofs Go.Shelf

theorem flatK_rows {t : Ty} (hft : flatT t = true) (hp : 0 < t.size) {α : Type} [Inhabited α] (g : α → t.El) (d : Array α) : flatK (fun x => valsT t (g x)) t.size d = (rowsV t (d.toList.map g)).toArray := by
  have hlen := rowsV_len hft (d.toList.map g)
  rw [List.length_map, Array.length_toList] at hlen
  refine Array.ext (by simp [hlen]) fun q h1 h2 => ?_
  have hq : q < d.size * t.size := by simpa using h1
  have hi : q / t.size < d.size := Nat.div_lt_of_lt_mul (by rw [Nat.mul_comm]; exact hq)
  have hj : q % t.size < t.size := Nat.mod_lt _ hp
  have e : q / t.size * t.size + q % t.size = q := by rw [Nat.mul_comm]; exact Nat.div_add_mod q t.size
  have hx : (d.toList.map g)[q / t.size]? = some (g d[q / t.size]!) := by
    rw [List.getElem?_map, Array.getElem?_toList, Array.getElem?_eq_getElem hi, getElem!_pos d _ hi]
    rfl
  have hr := rowsV_get hft (d.toList.map g) (q / t.size) _ (q % t.size) hx hj
  rw [e] at hr
  have hf := get_flatK (fun x => valsT t (g x)) t.size d q hq
  rw [getElem!_pos (flatK (fun x => valsT t (g x)) t.size d) q h1] at hf
  rw [hf]
  have hv : q % t.size < (valsT t (g d[q / t.size]!)).length := by rw [valsT_len t _ hft]; exact hj
  rw [getElem!_pos (valsT t (g d[q / t.size]!)) _ hv]
  have h3 : (rowsV t (d.toList.map g))[q]? = some ((rowsV t (d.toList.map g)).toArray[q]) := by
    simp only [List.getElem_toArray]
    exact List.getElem?_eq_getElem _
  rw [h3, List.getElem?_eq_getElem hv] at hr
  exact (Option.some.inj hr).symm
section
variable {P : Program} {ρ : Ren}
set_option maxHeartbeats 1000000 in
/-- slices.SortFunc at structs without slices, of an array of the code's own. -/
theorem sortK_ok (L : SlLaysF0.n6 P ρ) {t0 : Ty} (hft0 : flatT t0 = true) (hp0 : 0 < t0.size) (hel : ∀ x, elV t0 x = .agg (valsT t0 x).toArray) (aE : ∀ w, (isAgg (ρ.t 24)).run P w = .ok true w) (zE : ∀ w, (Go.sizeOf (ρ.t 24)).run P w = .ok t0.size w) {call : CallA} (hcall : CallOk P call) {xs : List AV} {h : Hp} {K : AV → Hp → Prop} (hk : sortA t0 call xs h K) :
    Enters P (ρ.f 6) ∧ ∀ s, s.h = h → Ok s → ∀ cs, RL s xs cs →
      Calls P (ρ.f 6) cs.toArray s.w fun e w' => ∃ s' v cr, e = .returned cr ∧ s'.w = w' ∧ Step s s' ∧ Ok s' ∧ R s' v cr ∧ K v s'.h := by
  refine ⟨sort_f_enters { L with }, fun s hs hok cs hr => ?_⟩
  subst hs
  have htup : ∀ s' : St, R s' (.tup []) (.tuple #[]) := fun s' => by simp only [R]; exact ⟨[], rfl, by simp only [RL]⟩
  unfold sortA at hk
  split at hk
  · rename_i id g n c caps
    split at hk
    · rename_i T t l f g' ho
      obtain ⟨⟨rfl, rfl, htt, hsz⟩, hk2⟩ := need_elim hk
      clear hk
      have htt := Ty.eq_of_beq _ _ htt
      subst htt
      have hft := hft0
      simp only [RL] at hr
      obtain ⟨v, _, rfl, hv, vf, _, rfl, hvf, rfl⟩ := hr
      simp only [R] at hv hvf
      obtain ⟨_, base, cap, rfl, hσ⟩ := hv
      obtain ⟨_, len, hσ⟩ := (hσ _ _ _ _ _ ho).2 rfl
      obtain ⟨xs, ys, rfl, hxs, hys⟩ := hvf
      simp only [RL] at hxs
      subst hxs
      have hlt := (List.getElem?_eq_some_iff.1 ho).1
      by_cases hl : l = []
      · subst hl
        obtain ⟨caps', hs⟩ := viewsD_ex (viewD_ex 6) _ _ hk2
        obtain ⟨Q, cf, _, _, _, _, _, hkk⟩ := hs
        have hkk := hkk [] (List.Perm.refl _) List.Pairwise.nil
        rw [putK_eq, put_set hlt] at hkk
        have hset : s.h.set id (.arr T t [] f g') = s.h := by
          apply List.ext_getElem?
          intro j
          by_cases hj : id = j
          · subst hj
            rw [List.getElem?_set_self hlt, ho]
          · rw [List.getElem?_set_ne hj]
        rw [hset] at hkk
        refine Calls.mono (AnyF.slices_SortFunc_none { L with } base cap (.func (.func c) #[] ys.toArray) s.w) ?_
        rintro e w' ⟨rfl, rfl⟩
        exact ⟨s, .tup [], .tuple #[], rfl, rfl, Step.refl s, hok, htup s, hkk⟩
      · obtain ⟨hlen, hcap, hb⟩ := own_RC hok ho hσ
        obtain ⟨b, hbase, _⟩ := hb hl
        subst hlen
        subst hbase
        obtain ⟨caps', hs, hcaps⟩ := viewsD_ok (s := s) (s0 := s.only b) (fun v c k => viewD_ok hok ho rfl (by rw [hσ]; rfl) 6 v c k) _ _ _ hys hk2
        obtain ⟨Q, cf, hQ, hc, hirr, htr, hnt, hkk⟩ := hs
        have hblt : b < s.w.heap.size := own_lt hok ⟨id, _, ho, rfl, by rw [hσ]; rfl⟩
        obtain ⟨x0, hx0⟩ : ∃ x, x ∈ l := by
          cases l with
          | nil => exact absurd rfl hl
          | cons x l => exact ⟨x, by simp⟩
        haveI : Inhabited {x // Q x} := ⟨⟨x0, hQ x0 hx0⟩⟩
        obtain ⟨qs, hown, hone, hrow, _⟩ := hok.obj id _ ho
        have hown' := hown
        rw [hσ] at hown'
        have hqs := rowsV_of (s := s) hft hp0 hown.1 hrow
        have hen : Enters P c := (hcall _ _ _ _ (hc x0 x0 (hQ _ hx0) (hQ _ hx0))).1
        have hsize : (att l hQ).toArray.size = l.length := by simp [att_len]
        have hown2 := hok.obj id _ ho
        have hcell : ∀ j u, (rowsV _ l)[j]? = some u → s.w.cell? ⟨b, 0 + j, none⟩ = some u := by
          intro j u hu
          have hq : qs[j]? = some u := by rw [hqs]; exact hu
          have := hown'.cells (g := b) rfl j _ hq
          rw [Addr.add_mid, Nat.zero_add] at this
          rw [Nat.zero_add]
          exact this
        have hfroz : ∀ j, s.w.frozen? ⟨b, 0 + j, none⟩ = false := by
          intro j
          rcases hown'.2 with ⟨he, _⟩ | ⟨b', cap', cur, he, hb0, hg, hnc, hcm, hcs, htake⟩
          · cases he
          · cases he
            simp [World.frozen?, hg]
        have hfk := flatK_rows hft hp0 (fun x : {x // Q x} => x.1) (att l hQ).toArray
        have hal : ((att l hQ).toArray.toList.map fun x : {x // Q x} => x.1) = l := by
          show (att l hQ).map (·.1) = l
          exact att_map l hQ
        rw [hal] at hfk
        have key := AnyQ.slices_SortFunc L _ aE zE (fun x : {x // Q x} => valsT _ x.1) (fun x => valsT_len _ x.1 hft) (fun x => valsT_one _ x.1) (fun x y => cf x.1 y.1) (swo_of hirr htr hnt) c ys.toArray b 0 cap (att l hQ).toArray s.w
          (fun args w => enter_run hen args w) (fun m os dk hdk x y => by
            unfold sortWorldK putRowK
            rw [← hel, ← hel]
            exact cmp_calls hcall hft hblt hcaps (hc x.1 y.1 x.2 y.2) m _ os)
          (by
            unfold HoldsK
            intro j hj
            rw [hfk] at hj ⊢
            refine ⟨?_, hfroz j⟩
            have hjl : j < (rowsV _ l).length := by simpa using hj
            rw [get_bang (List.getElem?_eq_getElem hjl)]
            exact hcell j _ (List.getElem?_eq_getElem hjl))
          hblt (by rw [hsize]; exact hsz)
        rw [hsize] at key
        refine Calls.mono key ?_
        rintro e w' ⟨rfl, d', n, os, hp, hso, hw⟩
        rw [← hsize] at hp hso
        obtain ⟨hperm, hpair, hdl⟩ := sorted_list hp hso
        have hkk := hkk _ hperm hpair
        rw [putK_eq, put_set hlt] at hkk
        unfold sortWorldK putRowK at hw
        have hF : (flatK (fun x : {x // Q x} => valsT t x.1) t.size d').toList = rowsV _ (d'.toList.map (·.1)) := by
          rw [flatK_rows hft hp0 (fun x : {x // Q x} => x.1) d']
        generalize flatK (fun x : {x // Q x} => valsT t x.1) t.size d' = F at hF hw
        generalize (d'.toList.map (·.1)) = l2 at hF hperm hkk
        obtain ⟨hst, hok'⟩ := sort_turn hok ho hft hσ hperm.length_eq hF n os hw
        exact ⟨_, .tup [], .tuple #[], rfl, rfl, hst, hok', htup _, hkk⟩
    · exact hk.elim
  · rename_i g caps
    simp only [RL] at hr
    obtain ⟨v, _, rfl, hv, vf, _, rfl, hvf, rfl⟩ := hr
    simp only [R] at hv hvf
    obtain ⟨xs, ys, rfl, hxs, hys⟩ := hvf
    simp only [RL] at hxs
    subst hxs
    subst hv
    refine Calls.mono (AnyF.slices_SortFunc_none { L with } none 0 (.func (.func g) #[] ys.toArray) s.w) ?_
    rintro e w' ⟨rfl, rfl⟩
    exact ⟨s, .tup [], .tuple #[], rfl, rfl, Step.refl s, hok, htup s, hk⟩
  · rename_i g caps
    simp only [RL] at hr
    obtain ⟨v, _, rfl, hv, vf, _, rfl, hvf, rfl⟩ := hr
    simp only [R] at hv hvf
    obtain ⟨xs, ys, rfl, hxs, hys⟩ := hvf
    simp only [RL] at hxs
    subst hxs
    subst hv
    refine Calls.mono (AnyF.slices_SortFunc_none { L with } none 0 (.func (.func g) #[] ys.toArray) s.w) ?_
    rintro e w' ⟨rfl, rfl⟩
    exact ⟨s, .tup [], .tuple #[], rfl, rfl, Step.refl s, hok, htup s, hk⟩
  · exact hk.elim
theorem SortOk.str {ρ : Ren} (L : SlLaysF0.n6 P ρ) {fs : List Ty} (hft : flatT (.st fs) = true) (hp : 0 < (Ty.st fs).size) (aE : ∀ w, (isAgg (ρ.t 24)).run P w = .ok true w) (zE : ∀ w, (Go.sizeOf (ρ.t 24)).run P w = .ok (Ty.st fs).size w) : SortOk P (ρ.f 6) (.st fs) :=
  fun _ hc _ _ _ hk => sortK_ok L hft hp (fun _ => by simp only [elV, valsT]) aE zE hc hk
end
end Av
namespace Av
open Go Go.Sort Go.Proofs Go.Shelf

def sortedI (l : List Int) : List Int := l.mergeSort fun x y => decide (x ≤ y)
def sortIA (xs : List AV) (h : Hp) (K : AV → Hp → Prop) : Prop := match xs with
  | [.own id g n] => match h[id]? with
    | some (.arr T (.int .i64) l f g') => need (g' = g ∧ n = l.length ∧ l.length < 4611686018427387904) (putK h id (.arr T (.int .i64) (sortedI l) f g') fun h => K (.tup []) h)
    | _ => False
  | [.nsl] => K (.tup []) h
  | [.zsl _] => K (.tup []) h
  | _ => False
theorem sortedI_len (l : List Int) : (sortedI l).length = l.length := by unfold sortedI; rw [List.length_mergeSort]
section
variable {P : Program} {ρ : Ren}
theorem sortI_ok (L : SlLaysN.n53 P ρ) {xs : List AV} {h : Hp} {K : AV → Hp → Prop} (hen : Enters P (ρ.f 53)) (hk : sortIA xs h K) : Enters P (ρ.f 53) ∧ ∀ s, s.h = h → Ok s → ∀ cs, RL s xs cs →
    Calls P (ρ.f 53) cs.toArray s.w fun e w' => ∃ s' v cr, e = .returned cr ∧ s'.w = w' ∧ Step s s' ∧ Ok s' ∧ R s' v cr ∧ K v s'.h := by
  refine ⟨hen, fun s hs hok cs hr => ?_⟩
  subst hs
  have htup : ∀ s2 : St, R s2 (.tup []) (.tuple #[]) := fun s2 => by simp only [R]; exact ⟨[], rfl, by simp only [RL]⟩
  unfold sortIA at hk
  split at hk
  · rename_i id g n
    split at hk
    · rename_i T l f g' ho
      obtain ⟨⟨rfl, rfl, hsz⟩, hk2⟩ := need_elim hk
      clear hk
      simp only [RL] at hr
      obtain ⟨v, _, rfl, hv, rfl⟩ := hr
      simp only [R] at hv
      obtain ⟨_, base, cap, rfl, hσ⟩ := hv
      obtain ⟨_, len, hσ⟩ := (hσ _ _ _ _ _ ho).2 rfl
      have hlt := (List.getElem?_eq_some_iff.1 ho).1
      rw [putK_eq, put_set hlt] at hk2
      by_cases hl : l = []
      · subst hl
        have hset : s.h.set id (.arr T (.int .i64) (sortedI []) f g') = s.h := by
          apply List.ext_getElem?
          intro j
          by_cases hj : id = j
          · subst hj
            rw [List.getElem?_set_self hlt, ho, show sortedI [] = [] by simp [sortedI]]
          · rw [List.getElem?_set_ne hj]
        rw [hset] at hk2
        refine Calls.mono (AnyG.slices_Sort_int_none L base cap s.w) ?_
        rintro e w' ⟨rfl, rfl⟩
        exact ⟨s, .tup [], .tuple #[], rfl, rfl, Step.refl s, hok, htup s, hk2⟩
      · obtain ⟨hlen, hcap, hb⟩ := own_RC hok ho hσ
        obtain ⟨b, hbase, _⟩ := hb hl
        subst hlen
        subst hbase
        have hblt : b < s.w.heap.size := own_lt hok ⟨id, _, ho, rfl, by rw [hσ]; rfl⟩
        obtain ⟨qs, hown, hone, hrow, _⟩ := hok.obj id _ ho
        have hown' := hown
        rw [hσ] at hown'
        have hcell : ∀ j (hj : j < l.length), s.w.cell? ⟨b, 0 + j, none⟩ = some (.int .i64 l[j]) := by
          intro j hj
          have hq : qs[j]? = some (.int .i64 l[j]) := by
            have h1 := hrow j l[j] (List.getElem?_eq_getElem hj)
            have h2 : qs[j * 1 + 0]? = some (.int .i64 l[j]) := h1
            rwa [Nat.mul_one, Nat.add_zero] at h2
          have := hown'.cells (g := b) rfl j _ hq
          rw [Addr.add_mid, Nat.zero_add] at this
          rw [Nat.zero_add]
          exact this
        have hfroz : ∀ j, s.w.frozen? ⟨b, 0 + j, none⟩ = false := by
          intro j
          rcases hown'.2 with ⟨he, _⟩ | ⟨b', cap', cur, he, hb0, hg, hnc, hcm, hcs, htake⟩
          · cases he
          · cases he
            simp [World.frozen?, hg]
        refine Calls.mono (AnyG.slices_Sort_int L b 0 cap l s.w (fun j hj => ?_) hblt hsz) ?_
        · have hj : j < l.length := by simpa using hj
          refine ⟨?_, hfroz j⟩
          rw [hcell j hj]
          simp [hj]
        · rintro e w' ⟨rfl, n, os, hw⟩
          rw [putRow_enc] at hw
          have hF : (((l.mergeSort fun x y => decide (x ≤ y)).toArray).map (Value.int .i64)).toList = rowsV (.int .i64) (sortedI l) := by
            rw [rowsV_one rfl, Array.toList_map]
            rfl
          obtain ⟨hst, hok'⟩ := sort_turn hok ho rfl hσ (sortedI_len l) hF n os hw
          exact ⟨_, .tup [], .tuple #[], rfl, rfl, hst, hok', htup _, hk2⟩
    · exact hk.elim
  · simp only [RL] at hr
    obtain ⟨v, _, rfl, hv, rfl⟩ := hr
    simp only [R] at hv
    subst hv
    refine Calls.mono (AnyG.slices_Sort_int_none L none 0 s.w) ?_
    rintro e w' ⟨rfl, rfl⟩
    exact ⟨s, .tup [], .tuple #[], rfl, rfl, Step.refl s, hok, htup s, hk⟩
  · simp only [RL] at hr
    obtain ⟨v, _, rfl, hv, rfl⟩ := hr
    simp only [R] at hv
    subst hv
    refine Calls.mono (AnyG.slices_Sort_int_none L none 0 s.w) ?_
    rintro e w' ⟨rfl, rfl⟩
    exact ⟨s, .tup [], .tuple #[], rfl, rfl, Step.refl s, hok, htup s, hk⟩
  · exact hk.elim
/-- Functions that are walked through, to a depth; sorts of numbers, and other sorts. -/
noncomputable def callY (I : List FuncId) (Z : List (FuncId × Ty)) (C : Cx) : Nat → CallA
  | 0, _, _, _, _ => False
  | n + 1, g, xs, h, K => match I.any (fun f => Nat.beq f g) with
    | true => sortIA xs h K
    | false => match lkz Z g with
      | some t => sortA t (fun g xs h K => callY I Z C n g xs h K) xs h K
      | none => match lkf C.fns g with
        | some fn => bodyA C (fun g xs h K => callY I Z C n g xs h K) fn xs h K
        | none => False
def SortIOk (P : Program) (f : FuncId) : Prop :=
  ∀ (xs : List AV) (h : Hp) (K : AV → Hp → Prop), sortIA xs h K →
    Enters P f ∧ ∀ s, s.h = h → Ok s → ∀ cs, RL s xs cs →
      Calls P f cs.toArray s.w fun e w' => ∃ s' v cr, e = .returned cr ∧ s'.w = w' ∧ Step s s' ∧ Ok s' ∧ R s' v cr ∧ K v s'.h
theorem SortIOk.of (L : SlLaysN.n53 P ρ) (hen : Enters P (ρ.f 53)) : SortIOk P (ρ.f 53) := fun _ _ _ hk => sortI_ok L hen hk
theorem callY_ok {I : List FuncId} {Z : List (FuncId × Ty)} {C : Cx} (hm : P.follows .mixedOrders = true) (hT : TbOk P C.tb) (hD : SpecsOk P C.specs) (hF : FnsOk P C.fns) (hI : ∀ f ∈ I, SortIOk P f) (hZ : SortsOk P Z) : ∀ n, CallOk P (callY I Z C n)
  | 0 => fun g xs h K hk => hk.elim
  | n + 1 => fun g xs h K hk => by
    simp only [callY] at hk
    split at hk
    · rename_i hb
      obtain ⟨f, hf, he⟩ := List.any_eq_true.1 hb
      have := Nat.eq_of_beq_eq_true he
      subst this
      exact hI f hf _ _ _ hk
    · split at hk
      · rename_i t hl
        exact hZ g t hl _ (callY_ok hm hT hD hF hI hZ n) _ _ _ hk
      · split at hk
        · rename_i fn hl
          have hfn := hF g fn hl
          refine ⟨hfn.enters, fun s hs hok cs hr => ?_⟩
          subst hs
          exact bodyA_ok hm hT hD (callY_ok hm hT hD hF hI hZ n) hfn hk hok hr
        · exact hk.elim
end
end Av
namespace Go.Proofs.YtdbnohpolknbbaaGreat
open Go.Shelf
def sortP_ren : Go.Shelf.Ren := ⟨fun | 6 => 100 | 15 => 63 | 14 => 112 | 28 => 88 | 29 => 89 | 20 => 115 | 21 => 116 | 22 => 117 | 23 => 118 | 24 => 119 | 25 => 120 | 26 => 121 | 27 => 122 | 46 => 123 | 47 => 104 | 48 => 105 | 49 => 124 | 50 => 125 | 57 => 126 | n => n, fun | 22 => 34 | 24 => 60 | 25 => 151 | 3 => 3 | 39 => 109 | 0 => 0 | 53 => 133 | 55 => 135 | 4 => 4 | 46 => 126 | 45 => 125 | 50 => 112 | 5 => 5 | 9 => 9 | 66 => 153 | 70 => 77 | 76 => 164 | 77 => 165 | n => n, fun | n => n⟩
theorem sortP : Go.Proofs.SlLaysF0.n6 Tryz.prog sortP_ren := {
  mixed := by kernel_rfl
  f6 := ⟨Tryz.f100.name, by decide, Tryz.func100.trans (congrArg some (by kernel_rfl))⟩
  f14 := ⟨Tryz.f112.name, by decide, Tryz.func112.trans (congrArg some (by kernel_rfl))⟩
  f15 := Tryz.func63.trans (congrArg some (by kernel_rfl))
  f20 := ⟨Tryz.f115.name, by decide, Tryz.func115.trans (congrArg some (by kernel_rfl))⟩
  f21 := ⟨Tryz.f116.name, by decide, Tryz.func116.trans (congrArg some (by kernel_rfl))⟩
  f22 := ⟨Tryz.f117.name, by decide, Tryz.func117.trans (congrArg some (by kernel_rfl))⟩
  f23 := ⟨Tryz.f118.name, by decide, Tryz.func118.trans (congrArg some (by kernel_rfl))⟩
  f24 := ⟨Tryz.f119.name, by decide, Tryz.func119.trans (congrArg some (by kernel_rfl))⟩
  f25 := ⟨Tryz.f120.name, by decide, Tryz.func120.trans (congrArg some (by kernel_rfl))⟩
  f26 := ⟨Tryz.f121.name, by decide, Tryz.func121.trans (congrArg some (by kernel_rfl))⟩
  f27 := ⟨Tryz.f122.name, by decide, Tryz.func122.trans (congrArg some (by kernel_rfl))⟩
  f28 := Tryz.func88.trans (congrArg some (by kernel_rfl))
  f29 := Tryz.func89.trans (congrArg some (by kernel_rfl))
  f46 := ⟨Tryz.f123.name, by decide, Tryz.func123.trans (congrArg some (by kernel_rfl))⟩
  f47 := Tryz.func104.trans (congrArg some (by kernel_rfl))
  f48 := Tryz.func105.trans (congrArg some (by kernel_rfl))
  f49 := ⟨Tryz.f124.name, by decide, Tryz.func124.trans (congrArg some (by kernel_rfl))⟩
  f50 := ⟨Tryz.f125.name, by decide, Tryz.func125.trans (congrArg some (by kernel_rfl))⟩
  f57 := ⟨Tryz.f126.name, by decide, Tryz.func126.trans (congrArg some (by kernel_rfl))⟩
  t0 := Tryz.underlying0
  a0 := Tryz.isAgg0
  z0 := Tryz.sizeOf0
  v0 := Tryz.zeroValue0
  t3 := Tryz.underlying3
  a3 := Tryz.isAgg3
  z3 := Tryz.sizeOf3
  v3 := Tryz.zeroValue3
  t4 := Tryz.underlying4
  a4 := Tryz.isAgg4
  z4 := Tryz.sizeOf4
  v4 := Tryz.zeroValue4
  t5 := Tryz.underlying5
  a5 := Tryz.isAgg5
  z5 := Tryz.sizeOf5
  v5 := Tryz.zeroValue5
  t9 := Tryz.underlying9
  a9 := Tryz.isAgg9
  z9 := Tryz.sizeOf9
  v9 := Tryz.zeroValue9
  t22 := Tryz.underlying34
  a22 := Tryz.isAgg34
  z22 := Tryz.sizeOf34
  v22 := Tryz.zeroValue34
  t25 := Tryz.underlying151
  a25 := Tryz.isAgg151
  z25 := Tryz.sizeOf151
  v25 := Tryz.zeroValue151
  t39 := Tryz.underlying109
  a39 := Tryz.isAgg109
  z39 := Tryz.sizeOf109
  v39 := Tryz.zeroValue109
  t45 := Tryz.underlying125
  a45 := Tryz.isAgg125
  z45 := Tryz.sizeOf125
  v45 := Tryz.zeroValue125
  t46 := Tryz.underlying126
  a46 := Tryz.isAgg126
  z46 := Tryz.sizeOf126
  v46 := Tryz.zeroValue126
  t50 := Tryz.underlying112
  a50 := Tryz.isAgg112
  z50 := Tryz.sizeOf112
  v50 := Tryz.zeroValue112
  t53 := Tryz.underlying133
  a53 := Tryz.isAgg133
  z53 := Tryz.sizeOf133
  v53 := Tryz.zeroValue133
  t55 := Tryz.underlying135
  a55 := Tryz.isAgg135
  z55 := Tryz.sizeOf135
  v55 := Tryz.zeroValue135
  t66 := Tryz.underlying153
  a66 := Tryz.isAgg153
  z66 := Tryz.sizeOf153
  v66 := Tryz.zeroValue153
  t70 := Tryz.underlying77
  a70 := Tryz.isAgg77
  z70 := Tryz.sizeOf77
  v70 := Tryz.zeroValue77
  t76 := Tryz.underlying164
  a76 := Tryz.isAgg164
  z76 := Tryz.sizeOf164
  v76 := Tryz.zeroValue164
  t77 := Tryz.underlying165
  a77 := Tryz.isAgg165
  z77 := Tryz.sizeOf165
  v77 := Tryz.zeroValue165 }
def sortI_ren : Go.Shelf.Ren := ⟨fun | 53 => 39 | 64 => 63 | 63 => 62 | 78 => 88 | 79 => 89 | 70 => 79 | 71 => 80 | 72 => 81 | 73 => 82 | 74 => 83 | 75 => 84 | 59 => 85 | 76 => 86 | 77 => 87 | 88 => 103 | 89 => 104 | 90 => 105 | 91 => 106 | 92 => 107 | 68 => 108 | 96 => 113 | n => n, fun | 22 => 37 | 23 => 3 | 3 => 3 | 51 => 109 | 0 => 0 | 67 => 133 | 69 => 135 | 4 => 4 | 61 => 126 | 60 => 125 | 44 => 112 | 5 => 5 | 9 => 9 | 75 => 153 | 79 => 77 | 83 => 164 | 84 => 165 | n => n, fun | n => n⟩
theorem sortI : Go.Proofs.SlLaysN.n53 Tryz.prog sortI_ren := {
  mixed := by kernel_rfl
  f53 := ⟨Tryz.f39.name, by decide, Tryz.func39.trans (congrArg some (by kernel_rfl))⟩
  f59 := ⟨Tryz.f85.name, by decide, Tryz.func85.trans (congrArg some (by kernel_rfl))⟩
  f63 := ⟨Tryz.f62.name, by decide, Tryz.func62.trans (congrArg some (by kernel_rfl))⟩
  f64 := Tryz.func63.trans (congrArg some (by kernel_rfl))
  f68 := ⟨Tryz.f108.name, by decide, Tryz.func108.trans (congrArg some (by kernel_rfl))⟩
  f70 := ⟨Tryz.f79.name, by decide, Tryz.func79.trans (congrArg some (by kernel_rfl))⟩
  f71 := ⟨Tryz.f80.name, by decide, Tryz.func80.trans (congrArg some (by kernel_rfl))⟩
  f72 := ⟨Tryz.f81.name, by decide, Tryz.func81.trans (congrArg some (by kernel_rfl))⟩
  f73 := ⟨Tryz.f82.name, by decide, Tryz.func82.trans (congrArg some (by kernel_rfl))⟩
  f74 := ⟨Tryz.f83.name, by decide, Tryz.func83.trans (congrArg some (by kernel_rfl))⟩
  f75 := ⟨Tryz.f84.name, by decide, Tryz.func84.trans (congrArg some (by kernel_rfl))⟩
  f76 := ⟨Tryz.f86.name, by decide, Tryz.func86.trans (congrArg some (by kernel_rfl))⟩
  f77 := ⟨Tryz.f87.name, by decide, Tryz.func87.trans (congrArg some (by kernel_rfl))⟩
  f78 := Tryz.func88.trans (congrArg some (by kernel_rfl))
  f79 := Tryz.func89.trans (congrArg some (by kernel_rfl))
  f88 := ⟨Tryz.f103.name, by decide, Tryz.func103.trans (congrArg some (by kernel_rfl))⟩
  f89 := Tryz.func104.trans (congrArg some (by kernel_rfl))
  f90 := Tryz.func105.trans (congrArg some (by kernel_rfl))
  f91 := ⟨Tryz.f106.name, by decide, Tryz.func106.trans (congrArg some (by kernel_rfl))⟩
  f92 := ⟨Tryz.f107.name, by decide, Tryz.func107.trans (congrArg some (by kernel_rfl))⟩
  f96 := ⟨Tryz.f113.name, by decide, Tryz.func113.trans (congrArg some (by kernel_rfl))⟩
  t0 := Tryz.underlying0
  a0 := Tryz.isAgg0
  z0 := Tryz.sizeOf0
  v0 := Tryz.zeroValue0
  t3 := Tryz.underlying3
  a3 := Tryz.isAgg3
  z3 := Tryz.sizeOf3
  v3 := Tryz.zeroValue3
  t4 := Tryz.underlying4
  a4 := Tryz.isAgg4
  z4 := Tryz.sizeOf4
  v4 := Tryz.zeroValue4
  t5 := Tryz.underlying5
  a5 := Tryz.isAgg5
  z5 := Tryz.sizeOf5
  v5 := Tryz.zeroValue5
  t9 := Tryz.underlying9
  a9 := Tryz.isAgg9
  z9 := Tryz.sizeOf9
  v9 := Tryz.zeroValue9
  t22 := Tryz.underlying37
  a22 := Tryz.isAgg37
  z22 := Tryz.sizeOf37
  v22 := Tryz.zeroValue37
  t23 := Tryz.underlying3
  a23 := Tryz.isAgg3
  z23 := Tryz.sizeOf3
  v23 := Tryz.zeroValue3
  t44 := Tryz.underlying112
  a44 := Tryz.isAgg112
  z44 := Tryz.sizeOf112
  v44 := Tryz.zeroValue112
  t51 := Tryz.underlying109
  a51 := Tryz.isAgg109
  z51 := Tryz.sizeOf109
  v51 := Tryz.zeroValue109
  t60 := Tryz.underlying125
  a60 := Tryz.isAgg125
  z60 := Tryz.sizeOf125
  v60 := Tryz.zeroValue125
  t61 := Tryz.underlying126
  a61 := Tryz.isAgg126
  z61 := Tryz.sizeOf126
  v61 := Tryz.zeroValue126
  t67 := Tryz.underlying133
  a67 := Tryz.isAgg133
  z67 := Tryz.sizeOf133
  v67 := Tryz.zeroValue133
  t69 := Tryz.underlying135
  a69 := Tryz.isAgg135
  z69 := Tryz.sizeOf135
  v69 := Tryz.zeroValue135
  t75 := Tryz.underlying153
  a75 := Tryz.isAgg153
  z75 := Tryz.sizeOf153
  v75 := Tryz.zeroValue153
  t79 := Tryz.underlying77
  a79 := Tryz.isAgg77
  z79 := Tryz.sizeOf77
  v79 := Tryz.zeroValue77
  t83 := Tryz.underlying164
  a83 := Tryz.isAgg164
  z83 := Tryz.sizeOf164
  v83 := Tryz.zeroValue164
  t84 := Tryz.underlying165
  a84 := Tryz.isAgg165
  z84 := Tryz.sizeOf165
  v84 := Tryz.zeroValue165 }
end Go.Proofs.YtdbnohpolknbbaaGreat
namespace Go.Proofs.YtdbnohpolknbbaaGreat
open Av Bk

set_option maxRecDepth 100000 in
theorem fnOk_lkPairs : FnOk Tryz.prog 75 Tryz.f75 := ⟨by rfl, by kernel_rfl, by
  show okCode _ _ = true ∧ drawsOk _ = true
  exact ⟨by kernel_rfl, by kernel_rfl⟩⟩
set_option maxRecDepth 100000 in
theorem fnOk_lkPairs1 : FnOk Tryz.prog 101 Tryz.f101 := ⟨by rfl, by kernel_rfl, by
  show okCode _ _ = true ∧ drawsOk _ = true
  exact ⟨by kernel_rfl, by kernel_rfl⟩⟩
set_option maxRecDepth 100000 in
theorem fnOk_lAll : FnOk Tryz.prog 142 Tryz.f142 := ⟨by rfl, by kernel_rfl, by
  show okCode _ _ = true ∧ drawsOk _ = true
  exact ⟨by kernel_rfl, by kernel_rfl⟩⟩
set_option maxRecDepth 100000 in
theorem fnOk_rAll : FnOk Tryz.prog 144 Tryz.f144 := ⟨by rfl, by kernel_rfl, by
  show okCode _ _ = true ∧ drawsOk _ = true
  exact ⟨by kernel_rfl, by kernel_rfl⟩⟩
def spPairs : FSpec
  | [.agg [.lst (.st [.str, .str, .bool, .int .i64]) b, .lst (.st [.int .i64, .sl (.st [.str, .str, .bool, .int .i64])]) rs]] => some (GoodV b rs, ⟨60, pairT, mapL (allE b rs)⟩)
  | _ => none
theorem sortPairs_ok : SortOk Tryz.prog 100 pairT := SortOk.str sortP rfl (by decide) Tryz.isAgg60 Tryz.sizeOf60
def zj : List (FuncId × Ty) := [(100, pairT)]
theorem sortsj : SortsOk Tryz.prog zj := .cons sortPairs_ok .nil
noncomputable def cxj1 : Cx := ⟨tb, [(101, Tryz.f101), (142, Tryz.f142), (144, Tryz.f144)], [(60, spCmp), (99, spPA)]⟩
theorem specsj1 : SpecsOk Tryz.prog cxj1.specs := .cons cmpStr_ok (.cons lkParts_ok .nil)
theorem fnsj1 : FnsOk Tryz.prog cxj1.fns := .cons fnOk_lkPairs1 (.cons fnOk_lAll (.cons fnOk_rAll .nil))
theorem parts_all {b : List entT.El} {rs : List runT.El} {i : Nat} {l : List entT.El} (h : (partsB b rs)[i]? = some l) : ((partsB b rs).take (i + 1)).flatten = ((partsB b rs).take i).flatten ++ l := flat_all h
theorem own_1 {id g n m : Nat} (h : n = m) : [AV.own id g n] = [AV.own id g m] := by rw [h]
theorem heap_it {a b c d : AObj} {T : TypeId} {t : Ty} {g : Nat} {l m : List t.El} (hl : l = m) : [a, b, c, .arr T t l false g, d] = [a, b, c, AObj.arr T t m false g, d] := by rw [hl]
set_option maxRecDepth 100000 in
set_option maxHeartbeats 4000000 in
theorem lkPairs_ok : FreshOk Tryz.prog 75 spPairs := by
  refine fresh_body (C := cxj1) mixed tbOk specsj1 (callZ_ok (C := cxj1) mixed tbOk specsj1 fnsj1 sortsj 4) fnOk_lkPairs ?_
  intro ys p r h hp
  unfold spPairs at h
  split at h
  · rename_i b rs
    cases h
    have hlr := hp.lr
    have hal := (all_len hp).2
    have hpl : (partsA b rs).length = rs.length + 1 := by simp [partsA]
    have hpl2 : (partsB b rs).length = rs.length + 1 := by simp [partsB]
    conv => whnf
    repeat' first
      | ((first | refine auT ?_ | refine auF ?_ | with_reducible first | refine auKt ?_ | refine auKf ?_ | refine auNt ?_ | refine auNf ?_ | refine auEt ?_ | refine auEf ?_); conv => whnf)
      | ((with_reducible first | refine br_dec (fun h => ?_) (fun h => ?_) | refine br_ndec (fun h => ?_) (fun h => ?_) | refine br_ne (fun h => ?_) (fun h => ?_) | refine br_eq (fun h => ?_) (fun h => ?_)) <;> first | (exfalso; omega) | conv => whnf)
      | (refine br_intro (fun h => ?_) (fun h => ?_) <;> conv => whnf)
      | ((first | refine auNd ?_ | refine idx_nat (by omega) (fun x hx => ?_) | refine frz_auto ?_ | refine draw_plain ?_ | refine auIx (fun x hx => ?_)); conv => whnf)
    refine .mk (fun bm => ?_)
    conv => whnf
    repeat' first
      | ((first | refine auT ?_ | refine auF ?_ | with_reducible first | refine auKt ?_ | refine auKf ?_ | refine auNt ?_ | refine auNf ?_ | refine auEt ?_ | refine auEf ?_); conv => whnf)
      | ((with_reducible first | refine br_dec (fun h => ?_) (fun h => ?_) | refine br_ndec (fun h => ?_) (fun h => ?_) | refine br_ne (fun h => ?_) (fun h => ?_) | refine br_eq (fun h => ?_) (fun h => ?_)) <;> first | (exfalso; omega) | conv => whnf)
      | (refine br_intro (fun h => ?_) (fun h => ?_) <;> conv => whnf)
      | ((first | refine auNd ?_ | refine idx_nat (by omega) (fun x hx => ?_) | refine frz_auto ?_ | refine draw_plain ?_ | refine auIx (fun x hx => ?_)); conv => whnf)
    refine loop_inv [] [17] (fun vs h => ∃ (i : Nat) (m : List mEl), vs = [.int .i64 (i : Int)] ∧ h = [.cells 25 [.lst entT b, .lst runT rs], .arr 60 pairT [] false 0, .oth (.map bm .str entT m)] ∧ i ≤ (partsB b rs).length ∧ MapOk m ((partsB b rs).take i).flatten) (fun vs _ => match vs with | [.int _ k] => (partsB b rs).length - k.toNat | _ => 0) ?_
    conv => whnf
    refine ⟨⟨0, [], rfl, rfl, by omega, mapOk_nil⟩, ?_⟩
    rintro vs h' - ⟨i, m, rfl, rfl, hi, hm⟩
    by_cases hil : i < (partsA b rs).length
    · obtain ⟨l, hlB, hlA⟩ := parts_at hil
      have hgl := goodL_of (parts_good hp (List.mem_of_getElem? hlB))
      have hll := hgl.2
      rcases hlA with hlA | ⟨id, hlA⟩
      · conv => whnf
        repeat' first
          | ((first | refine auIk ?_ | refine auIi ?_ | refine auT ?_ | refine auF ?_ | with_reducible first | refine auKt ?_ | refine auKf ?_ | refine auNt ?_ | refine auNf ?_ | refine auEt ?_ | refine auEf ?_); conv => whnf)
          | ((with_reducible first | refine br_dec (fun h => ?_) (fun h => ?_) | refine br_ndec (fun h => ?_) (fun h => ?_) | refine br_ne (fun h => ?_) (fun h => ?_) | refine br_eq (fun h => ?_) (fun h => ?_)) <;> first | (exfalso; omega) | conv => whnf)
          | (refine br_intro (fun h => ?_) (fun h => ?_) <;> conv => whnf)
          | ((first | refine auNd ?_ | refine idx_nat (by omega) (fun x hx => ?_) | refine frz_auto ?_ | refine draw_plain ?_ | refine auIx (fun x hx => ?_)); conv => whnf)
        refine loop_inv [] [24] (fun vs h => ∃ (k : Nat) (m : List mEl), vs = [.int .i64 (k : Int)] ∧ h = [.cells 25 [.lst entT b, .lst runT rs], .arr 60 pairT [] false 0, .oth (.map bm .str entT m), .arr 54 entT [] false 0] ∧ k ≤ l.length ∧ MapOk m (((partsB b rs).take i).flatten ++ l.take k)) (fun vs _ => match vs with | [.int _ k] => l.length - k.toNat | _ => 0) ?_
        conv => whnf
        refine ⟨⟨0, m, rfl, rfl, by omega, by rw [List.take_zero, List.append_nil]; exact hm⟩, ?_⟩
        clear hm
        rintro vs h' - ⟨k, m, rfl, rfl, hk, hm⟩
        by_cases hkl : k < l.length
        · obtain ⟨x, hx⟩ : ∃ x, l[k]? = some x := ⟨_, List.getElem?_eq_getElem hkl⟩
          have hxs : ((partsB b rs).take i).flatten ++ l.take (k + 1) = (((partsB b rs).take i).flatten ++ l.take k) ++ [x] := by rw [take_snoc1 hx, List.append_assoc]
          conv => whnf
          repeat' first
            | ((first | refine auIk ?_ | refine auIi ?_ | refine auT ?_ | refine auF ?_ | with_reducible first | refine auKt ?_ | refine auKf ?_ | refine auNt ?_ | refine auNf ?_ | refine auEt ?_ | refine auEf ?_); conv => whnf)
            | ((with_reducible first | refine br_dec (fun h => ?_) (fun h => ?_) | refine br_ndec (fun h => ?_) (fun h => ?_) | refine br_ne (fun h => ?_) (fun h => ?_) | refine br_eq (fun h => ?_) (fun h => ?_)) <;> first | (exfalso; omega) | conv => whnf)
            | (refine br_intro (fun h => ?_) (fun h => ?_) <;> conv => whnf)
            | ((first | refine auNd ?_ | refine idx_nat (by omega) (fun x hx => ?_) | refine frz_auto ?_ | refine draw_plain ?_ | refine auIx (fun x hx => ?_)); conv => whnf)
          refine .mk (fun y hy => ?_) (fun hy => ?_)
          · conv => whnf
            repeat' first
              | ((first | refine auIk ?_ | refine auIi ?_ | refine auT ?_ | refine auF ?_ | with_reducible first | refine auKt ?_ | refine auKf ?_ | refine auNt ?_ | refine auNf ?_ | refine auEt ?_ | refine auEf ?_); conv => whnf)
              | ((with_reducible first | refine br_dec (fun h => ?_) (fun h => ?_) | refine br_ndec (fun h => ?_) (fun h => ?_) | refine br_ne (fun h => ?_) (fun h => ?_) | refine br_eq (fun h => ?_) (fun h => ?_)) <;> first | (exfalso; omega) | conv => whnf)
              | (refine br_intro (fun h => ?_) (fun h => ?_) <;> conv => whnf)
              | ((first | refine auNd ?_ | refine idx_nat (by omega) (fun x hx => ?_) | refine frz_auto ?_ | refine draw_plain ?_ | refine auIx (fun x hx => ?_)); conv => whnf)
            refine back_intro (by conv => whnf) rfl ⟨k + 1, m, rfl, rfl, by omega, by rw [hxs]; exact mapOk_old hm hy⟩ ?_
            show l.length - ((k : Int) + 1).toNat < l.length - (k : Int).toNat
            omega
          · conv => whnf
            repeat' first
              | ((first | refine auIk ?_ | refine auIi ?_ | refine auT ?_ | refine auF ?_ | with_reducible first | refine auKt ?_ | refine auKf ?_ | refine auNt ?_ | refine auNf ?_ | refine auEt ?_ | refine auEf ?_); conv => whnf)
              | ((with_reducible first | refine br_dec (fun h => ?_) (fun h => ?_) | refine br_ndec (fun h => ?_) (fun h => ?_) | refine br_ne (fun h => ?_) (fun h => ?_) | refine br_eq (fun h => ?_) (fun h => ?_)) <;> first | (exfalso; omega) | conv => whnf)
              | (refine br_intro (fun h => ?_) (fun h => ?_) <;> conv => whnf)
              | ((first | refine auNd ?_ | refine idx_nat (by omega) (fun x hx => ?_) | refine frz_auto ?_ | refine draw_plain ?_ | refine auIx (fun x hx => ?_)); conv => whnf)
            refine back_intro (by conv => whnf) rfl ⟨k + 1, _, rfl, rfl, by omega, by rw [hxs]; exact (mapOk_new hm hy).1⟩ ?_
            show l.length - ((k : Int) + 1).toNat < l.length - (k : Int).toNat
            omega
        · conv => whnf
          repeat' first
            | ((first | refine auIk ?_ | refine auIi ?_ | refine auT ?_ | refine auF ?_ | with_reducible first | refine auKt ?_ | refine auKf ?_ | refine auNt ?_ | refine auNf ?_ | refine auEt ?_ | refine auEf ?_); conv => whnf)
            | ((with_reducible first | refine br_dec (fun h => ?_) (fun h => ?_) | refine br_ndec (fun h => ?_) (fun h => ?_) | refine br_ne (fun h => ?_) (fun h => ?_) | refine br_eq (fun h => ?_) (fun h => ?_)) <;> first | (exfalso; omega) | conv => whnf)
            | (refine br_intro (fun h => ?_) (fun h => ?_) <;> conv => whnf)
            | ((first | refine auNd ?_ | refine idx_nat (by omega) (fun x hx => ?_) | refine frz_auto ?_ | refine draw_plain ?_ | refine auIx (fun x hx => ?_)); conv => whnf)
          rw [List.take_of_length_le (l := l) (i := k) (by omega)] at hm
          refine back_intro (by conv => whnf) rfl ⟨i + 1, m, rfl, rfl, by omega, by rw [parts_all hlB]; exact hm⟩ ?_
          show (partsB b rs).length - ((i : Int) + 1).toNat < (partsB b rs).length - (i : Int).toNat
          omega
      · have hrl : List.length ((id, l, ()) : runT.El).2.1 = l.length := rfl
        conv => whnf
        repeat' first
          | ((first | refine auIk ?_ | refine auIi ?_ | refine auT ?_ | refine auF ?_ | with_reducible first | refine auKt ?_ | refine auKf ?_ | refine auNt ?_ | refine auNf ?_ | refine auEt ?_ | refine auEf ?_); conv => whnf)
          | ((with_reducible first | refine br_dec (fun h => ?_) (fun h => ?_) | refine br_ndec (fun h => ?_) (fun h => ?_) | refine br_ne (fun h => ?_) (fun h => ?_) | refine br_eq (fun h => ?_) (fun h => ?_)) <;> first | (exfalso; omega) | conv => whnf)
          | (refine br_intro (fun h => ?_) (fun h => ?_) <;> conv => whnf)
          | ((first | refine auNd ?_ | refine idx_nat (by omega) (fun x hx => ?_) | refine frz_auto ?_ | refine draw_plain ?_ | refine auIx (fun x hx => ?_)); conv => whnf)
        refine loop_inv [] [24] (fun vs h => ∃ (k : Nat) (m : List mEl), vs = [.int .i64 (k : Int)] ∧ h = [.cells 25 [.lst entT b, .lst runT rs], .arr 60 pairT [] false 0, .oth (.map bm .str entT m), .cells 162 [.int .i64 id, .lst entT l], .arr 54 entT [] false 0] ∧ k ≤ l.length ∧ MapOk m (((partsB b rs).take i).flatten ++ l.take k)) (fun vs _ => match vs with | [.int _ k] => l.length - k.toNat | _ => 0) ?_
        conv => whnf
        refine ⟨⟨0, m, rfl, rfl, by omega, by rw [List.take_zero, List.append_nil]; exact hm⟩, ?_⟩
        clear hm
        rintro vs h' - ⟨k, m, rfl, rfl, hk, hm⟩
        by_cases hkl : k < l.length
        · obtain ⟨x, hx⟩ : ∃ x, l[k]? = some x := ⟨_, List.getElem?_eq_getElem hkl⟩
          have hxs : ((partsB b rs).take i).flatten ++ l.take (k + 1) = (((partsB b rs).take i).flatten ++ l.take k) ++ [x] := by rw [take_snoc1 hx, List.append_assoc]
          conv => whnf
          repeat' first
            | ((first | refine auIk ?_ | refine auIi ?_ | refine auT ?_ | refine auF ?_ | with_reducible first | refine auKt ?_ | refine auKf ?_ | refine auNt ?_ | refine auNf ?_ | refine auEt ?_ | refine auEf ?_); conv => whnf)
            | ((with_reducible first | refine br_dec (fun h => ?_) (fun h => ?_) | refine br_ndec (fun h => ?_) (fun h => ?_) | refine br_ne (fun h => ?_) (fun h => ?_) | refine br_eq (fun h => ?_) (fun h => ?_)) <;> first | (exfalso; omega) | conv => whnf)
            | (refine br_intro (fun h => ?_) (fun h => ?_) <;> conv => whnf)
            | ((first | refine auNd ?_ | refine idx_nat (by omega) (fun x hx => ?_) | refine frz_auto ?_ | refine draw_plain ?_ | refine auIx (fun x hx => ?_)); conv => whnf)
          refine .mk (fun y hy => ?_) (fun hy => ?_)
          · conv => whnf
            repeat' first
              | ((first | refine auIk ?_ | refine auIi ?_ | refine auT ?_ | refine auF ?_ | with_reducible first | refine auKt ?_ | refine auKf ?_ | refine auNt ?_ | refine auNf ?_ | refine auEt ?_ | refine auEf ?_); conv => whnf)
              | ((with_reducible first | refine br_dec (fun h => ?_) (fun h => ?_) | refine br_ndec (fun h => ?_) (fun h => ?_) | refine br_ne (fun h => ?_) (fun h => ?_) | refine br_eq (fun h => ?_) (fun h => ?_)) <;> first | (exfalso; omega) | conv => whnf)
              | (refine br_intro (fun h => ?_) (fun h => ?_) <;> conv => whnf)
              | ((first | refine auNd ?_ | refine idx_nat (by omega) (fun x hx => ?_) | refine frz_auto ?_ | refine draw_plain ?_ | refine auIx (fun x hx => ?_)); conv => whnf)
            refine back_intro (by conv => whnf) rfl ⟨k + 1, m, rfl, rfl, by omega, by rw [hxs]; exact mapOk_old hm hy⟩ ?_
            show l.length - ((k : Int) + 1).toNat < l.length - (k : Int).toNat
            omega
          · conv => whnf
            repeat' first
              | ((first | refine auIk ?_ | refine auIi ?_ | refine auT ?_ | refine auF ?_ | with_reducible first | refine auKt ?_ | refine auKf ?_ | refine auNt ?_ | refine auNf ?_ | refine auEt ?_ | refine auEf ?_); conv => whnf)
              | ((with_reducible first | refine br_dec (fun h => ?_) (fun h => ?_) | refine br_ndec (fun h => ?_) (fun h => ?_) | refine br_ne (fun h => ?_) (fun h => ?_) | refine br_eq (fun h => ?_) (fun h => ?_)) <;> first | (exfalso; omega) | conv => whnf)
              | (refine br_intro (fun h => ?_) (fun h => ?_) <;> conv => whnf)
              | ((first | refine auNd ?_ | refine idx_nat (by omega) (fun x hx => ?_) | refine frz_auto ?_ | refine draw_plain ?_ | refine auIx (fun x hx => ?_)); conv => whnf)
            refine back_intro (by conv => whnf) rfl ⟨k + 1, _, rfl, rfl, by omega, by rw [hxs]; exact (mapOk_new hm hy).1⟩ ?_
            show l.length - ((k : Int) + 1).toNat < l.length - (k : Int).toNat
            omega
        · conv => whnf
          repeat' first
            | ((first | refine auIk ?_ | refine auIi ?_ | refine auT ?_ | refine auF ?_ | with_reducible first | refine auKt ?_ | refine auKf ?_ | refine auNt ?_ | refine auNf ?_ | refine auEt ?_ | refine auEf ?_); conv => whnf)
            | ((with_reducible first | refine br_dec (fun h => ?_) (fun h => ?_) | refine br_ndec (fun h => ?_) (fun h => ?_) | refine br_ne (fun h => ?_) (fun h => ?_) | refine br_eq (fun h => ?_) (fun h => ?_)) <;> first | (exfalso; omega) | conv => whnf)
            | (refine br_intro (fun h => ?_) (fun h => ?_) <;> conv => whnf)
            | ((first | refine auNd ?_ | refine idx_nat (by omega) (fun x hx => ?_) | refine frz_auto ?_ | refine draw_plain ?_ | refine auIx (fun x hx => ?_)); conv => whnf)
          rw [List.take_of_length_le (l := l) (i := k) (by omega)] at hm
          refine back_intro (by conv => whnf) rfl ⟨i + 1, m, rfl, rfl, by omega, by rw [parts_all hlB]; exact hm⟩ ?_
          show (partsB b rs).length - ((i : Int) + 1).toNat < (partsB b rs).length - (i : Int).toNat
          omega
    · conv => whnf
      repeat' first
        | ((first | refine auIk ?_ | refine auIi ?_ | refine auT ?_ | refine auF ?_ | with_reducible first | refine auKt ?_ | refine auKf ?_ | refine auNt ?_ | refine auNf ?_ | refine auEt ?_ | refine auEf ?_); conv => whnf)
        | ((with_reducible first | refine br_dec (fun h => ?_) (fun h => ?_) | refine br_ndec (fun h => ?_) (fun h => ?_) | refine br_ne (fun h => ?_) (fun h => ?_) | refine br_eq (fun h => ?_) (fun h => ?_)) <;> first | (exfalso; omega) | conv => whnf)
        | (refine br_intro (fun h => ?_) (fun h => ?_) <;> conv => whnf)
        | ((first | refine auNd ?_ | refine idx_nat (by omega) (fun x hx => ?_) | refine frz_auto ?_ | refine draw_plain ?_ | refine auIx (fun x hx => ?_)); conv => whnf)
      rw [List.take_of_length_le (by omega)] at hm
      refine loop_inv [] [10] (fun vs h => ∃ (g : Nat) (seen : List Nat) (out : List pairT.El), vs = [.own 3 g out.length] ∧ h = [.cells 25 [.lst entT b, .lst runT rs], .arr 60 pairT [] false 0, .oth (.map bm .str entT m), .arr 60 pairT out false g, .oth (.iter 2 bm m.length seen)] ∧ OutOk m seen out) (fun _ h => match h with | [_, _, _, _, .oth (.iter _ _ _ seen)] => m.length - seen.length | _ => 0) ?_
      have hln : m.length ≤ (allE b rs).length := hm.ln
      conv => whnf
      refine ⟨⟨0, [], [], rfl, rfl, outOk_nil m⟩, ?_⟩
      rintro vs h' - ⟨g, seen, out, rfl, rfl, ho⟩
      have hsl := seen_len ho.sd ho.lt
      have hol := ho.ln
      conv => whnf
      repeat' first
        | ((first | refine auIk ?_ | refine auIi ?_ | refine auT ?_ | refine auF ?_ | with_reducible first | refine auKt ?_ | refine auKf ?_ | refine auNt ?_ | refine auNf ?_ | refine auEt ?_ | refine auEf ?_); conv => whnf)
        | ((with_reducible first | refine br_dec (fun h => ?_) (fun h => ?_) | refine br_ndec (fun h => ?_) (fun h => ?_) | refine br_ne (fun h => ?_) (fun h => ?_) | refine br_eq (fun h => ?_) (fun h => ?_)) <;> first | (exfalso; omega) | conv => whnf)
        | (refine br_intro (fun h => ?_) (fun h => ?_) <;> conv => whnf)
        | ((first | refine auNd ?_ | refine idx_nat (by omega) (fun x hx => ?_) | refine frz_auto ?_ | refine draw_plain ?_ | refine auIx (fun x hx => ?_)); conv => whnf)
      refine .mk (fun i e he hn => ?_) (fun hall => ?_)
      · have hsl2 := seen_len (List.nodup_cons.2 ⟨hn, ho.sd⟩) (n := m.length) (fun j hj => by
          rcases List.mem_cons.1 hj with rfl | hj
          · exact (List.getElem?_eq_some_iff.1 he).1
          · exact ho.lt j hj)
        rw [List.length_cons] at hsl2
        conv => whnf
        repeat' first
          | ((first | refine auIk ?_ | refine auIi ?_ | refine auT ?_ | refine auF ?_ | with_reducible first | refine auKt ?_ | refine auKf ?_ | refine auNt ?_ | refine auNf ?_ | refine auEt ?_ | refine auEf ?_); conv => whnf)
          | ((with_reducible first | refine br_dec (fun h => ?_) (fun h => ?_) | refine br_ndec (fun h => ?_) (fun h => ?_) | refine br_ne (fun h => ?_) (fun h => ?_) | refine br_eq (fun h => ?_) (fun h => ?_)) <;> first | (exfalso; omega) | conv => whnf)
          | (refine br_intro (fun h => ?_) (fun h => ?_) <;> conv => whnf)
          | ((first | refine auNd ?_ | refine idx_nat (by omega) (fun x hx => ?_) | refine frz_auto ?_ | refine draw_plain ?_ | refine auIx (fun x hx => ?_)); conv => whnf)
        · refine back_intro (by conv => whnf) rfl ⟨g + 1, i :: seen, out ++ [mkP e.1 e.2.2.1], own_1 ?_, heap_it ?_, outOk_live hm ho he hn (by simpa using h)⟩ ?_
          · rw [List.length_append]; rfl
          · simp only [cast_self, List.take_length]; rfl
          · show m.length - (i :: seen).length < m.length - seen.length
            rw [List.length_cons]
            omega
        · refine back_intro (by conv => whnf) rfl ⟨g, i :: seen, out, rfl, rfl, outOk_dead ho he hn (by simpa using h)⟩ ?_
          show m.length - (i :: seen).length < m.length - seen.length
          rw [List.length_cons]
          omega
      · conv => whnf
        repeat' (first
          | (refine br_false (by first | with_reducible exact rfl | assumption | decide) ?_; conv => whnf)
          | (refine need_in (show g = g ∧ out.length = out.length ∧ Ty.beq pairT pairT = true ∧ out.length < 4611686018427387904 from ⟨rfl, rfl, by decide, by omega⟩) ?_; conv => whnf))
        refine .mk (fun _ => True) (fun x y => ordS x.1 y.1) (fun _ _ => trivial) (fun x y _ _ => ?_) (fun x _ => ?_) (fun x y z _ _ _ h1 h2 => ?_) (fun x y z _ _ _ h1 h2 => ?_) (fun out' hp' hs' => ?_)
        · conv => whnf
          repeat' first
            | ((first | refine auT ?_ | refine auF ?_ | with_reducible first | refine auKt ?_ | refine auKf ?_ | refine auNt ?_ | refine auNf ?_ | refine auEt ?_ | refine auEf ?_); conv => whnf)
            | ((with_reducible first | refine br_dec (fun h => ?_) (fun h => ?_) | refine br_ndec (fun h => ?_) (fun h => ?_) | refine br_ne (fun h => ?_) (fun h => ?_) | refine br_eq (fun h => ?_) (fun h => ?_)) <;> first | (exfalso; omega) | conv => whnf)
            | (refine br_intro (fun h => ?_) (fun h => ?_) <;> conv => whnf)
            | ((first | refine auNd ?_ | refine idx_nat (by omega) (fun x hx => ?_) | refine frz_auto ?_ | refine draw_plain ?_ | refine auIx (fun x hx => ?_)); conv => whnf)
          all_goals rfl
        · rw [ordS_lt, sLt_irrefl]; decide
        · exact ordS_lt.2 (sLt_trans (ordS_lt.1 h1) (ordS_lt.1 h2))
        · intro h
          have h3 := ordS_lt.1 h
          have g1 : sLt x.1 y.1 = false := by simpa using fun e => h1 (ordS_lt.2 e)
          have g2 : sLt y.1 z.1 = false := by simpa using fun e => h2 (ordS_lt.2 e)
          rw [show sLt x.1 z.1 = false from bl_ge_trans g1 g2] at h3
          cases h3
        · conv => whnf
          have hl : out' = mapL (allE b rs) := sorted_map hm ho hall hp' hs'
          have hln' : out.length = (mapL (allE b rs)).length := by rw [← hl]; exact hp'.length_eq.symm
          refine ⟨3, g, false, by rw [hln'], ?_⟩
          rw [← hl]
          rfl
  · cases h
end Go.Proofs.YtdbnohpolknbbaaGreat
namespace Go.Proofs.YtdbnohpolknbbaaGreat
open Av Bk

theorem mapL_len (l : List entT.El) : (mapL l).length ≤ l.length := (mapF_len l).2
end Go.Proofs.YtdbnohpolknbbaaGreat
namespace Go.Proofs.YtdbnohpolknbbaaGreat
open Av Bk

set_option maxRecDepth 100000 in
theorem fnOk_idxPair : FnOk Tryz.prog 98 Tryz.f98 := ⟨by rfl, by kernel_rfl, by
  show okCode _ _ = true ∧ drawsOk _ = true
  exact ⟨by kernel_rfl, by kernel_rfl⟩⟩
end Go.Proofs.YtdbnohpolknbbaaGreat
namespace Go.Proofs.YtdbnohpolknbbaaGreat
open Av Bk

def partR (b : List entT.El) (rs : List runT.El) (lo hi : ByteArray) (bd : Bool) : List pairT.El × Int :=
  if (vcL b rs).2 ≠ 0 then ([], (vcL b rs).2) else if rgE lo hi bd ≠ 0 then ([], rgE lo hi bd) else ((mapL (allE b rs)).filter (fun p => hasB lo hi bd p.1), 0)
def spPart : DSpec
  | [.agg [.lst (.st [.str, .str, .bool, .int .i64]) b, .lst (.st [.int .i64, .sl (.st [.str, .str, .bool, .int .i64])]) rs], .agg [.str lo, .str hi, .bool bd]] => some (True, .tup [.lst pairT (partR b rs lo hi bd).1, .int .i64 (partR b rs lo hi bd).2])
  | _ => none
theorem part_eq {l : List pairT.El} {e : Int} {r : List pairT.El × Int} (h : r = (l, e)) : AV.tup [.lst pairT l, .int .i64 e] = AV.tup [.lst pairT r.1, .int .i64 r.2] := by rw [h]
theorem part_v {b : List entT.El} {rs : List runT.El} {lo hi : ByteArray} {bd : Bool} (h : (vcL b rs).2 ≠ 0) : partR b rs lo hi bd = ([], (vcL b rs).2) := by rw [partR, if_pos h]
theorem part_r {b : List entT.El} {rs : List runT.El} {lo hi : ByteArray} {bd : Bool} (h : (vcL b rs).2 = 0) (h2 : rgE lo hi bd ≠ 0) : partR b rs lo hi bd = ([], rgE lo hi bd) := by rw [partR, if_neg (by simp [h]), if_pos h2]
theorem part_g {b : List entT.El} {rs : List runT.El} {lo hi : ByteArray} {bd : Bool} (h : (vcL b rs).2 = 0) (h2 : rgE lo hi bd = 0) : partR b rs lo hi bd = ((mapL (allE b rs)).filter (fun p => hasB lo hi bd p.1), 0) := by rw [partR, if_neg (by simp [h]), if_neg (by simp [h2])]
theorem filter_snoc {α : Type} {q : α → Bool} {l : List α} {i : Nat} {x : α} (hx : l[i]? = some x) : (l.take (i + 1)).filter q = (l.take i).filter q ++ (if q x = true then [x] else []) := by
  rw [List.take_add_one, hx, List.filter_append]
  congr 1
  by_cases h : q x = true <;> simp [h]
theorem mapL_key {b : List entT.El} {rs : List runT.El} (h : GoodV b rs) {p : pairT.El} (hp : p ∈ mapL (allE b rs)) : keyE p.1 = 0 := by
  obtain ⟨x, hx, hk, _, _⟩ := getM_mem ((mapL_mem _ p).1 hp)
  have he := all_err h hx
  rw [← hk]
  simp only [errX, errE] at he
  unfold keyE
  by_cases h32 : 32 < (x.1.size : Int)
  · simp [h32] at he
  · simp [h32]
end Go.Proofs.YtdbnohpolknbbaaGreat
