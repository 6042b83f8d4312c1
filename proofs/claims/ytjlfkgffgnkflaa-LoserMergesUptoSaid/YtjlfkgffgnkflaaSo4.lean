/-
  An abstract reading of values and memory: slices.SortFunc: the contracts, taken over.
-/
import Derived.Test.YtjlfkgffgnkflaaSo3
namespace Av
open Go Go.Sort Go.Proofs

theorem step_grow {s s' : St} (hh : s.h = []) (hst : Step s s') : ∃ q os, s'.w = grow (s.w.drewN q) os := by
  refine ⟨s'.w.drawn - s.w.drawn, s'.w.heap.extract s.w.heap.size s'.w.heap.size, ?_⟩
  have hd : s'.w.drawn = s.w.drawn + (s'.w.drawn - s.w.drawn) := by have := hst.drawn; omega
  have hheap : s'.w.heap = s.w.heap ++ s'.w.heap.extract s.w.heap.size s'.w.heap.size := by
    apply Array.ext_getElem?
    intro k
    by_cases hk : k < s.w.heap.size
    · rw [Array.getElem?_append_left hk]
      exact (hst.keep k hk (fun ⟨id, o, h, _⟩ => by rw [hh] at h; simp at h)).2
    · rw [Array.getElem?_append_right (by omega)]
      by_cases hk2 : k < s'.w.heap.size
      · rw [Array.getElem?_extract, if_pos (by omega), show s.w.heap.size + (k - s.w.heap.size) = k by omega]
      · rw [Array.getElem?_eq_none (by omega), Array.getElem?_eq_none (by simp; omega)]
  have h1 := hst.os
  have h2 := hst.tape
  have h3 := hst.output
  generalize s'.w.heap.extract s.w.heap.size s'.w.heap.size = ext at hheap ⊢
  generalize s'.w.drawn - s.w.drawn = q at hd ⊢
  unfold grow World.drewN
  obtain ⟨σ', h', w', F'⟩ := s'
  obtain ⟨heap', tape', drawn', os', out'⟩ := w'
  simp only at hd hheap h1 h2 h3
  simp only [hd, hheap, h1, h2, h3]
theorem only_fr {s : St} {b n : Nat} (F : Array Value) (os : Array Obj) : Fr (s.only b) ⟨s.σ, [], grow (putRow id (Sort.ahead s.w n) b 0 F) os, fun x => x = b⟩ where
  size := world_size _ _ _
  own := fun x hx => by
    rintro (h | ⟨id, o, h, _⟩)
    · exact hx (.inl h)
    · simp at h
  heap := fun x hx hlt => world_other _ _ _ hlt (fun e => hx (.inl e))
theorem only_ok {s : St} {b n : Nat} (hb : b < s.w.heap.size) (F : Array Value) (os : Array Obj) : Ok ⟨s.σ, [], grow (putRow id (Sort.ahead s.w n) b 0 F) os, fun x => x = b⟩ where
  obj := fun id o h => by simp at h
  inj := fun i j o p b h => by simp at h
  fb := fun x hx => by
    have hx : x = b := hx
    rw [hx]
    exact Nat.lt_of_lt_of_le hb (world_size _ _ _)
  dis := fun b ⟨id, o, h, _⟩ => by simp at h
section
variable {P : Program} {ρ : Shelf.Ren}
/-- What the comparison returns, in every world that a sort passes through. -/
theorem cmp_calls {call : CallA} (hcall : CallOk P call) {c : FuncId} {t : Ty} (hft : flatT t = true) {caps : List AV} {s : St} {b : Nat} (hb : b < s.w.heap.size) {ys : List Value} (hys : RL (s.only b) caps ys) {x y : t.El} {r : Int}
    (hc : call c (elA t x :: elA t y :: caps) [] fun v _ => v = .int .i64 r) (n : Nat) (F : Array Value) (os : Array Obj) :
    Calls P c (#[elV t x, elV t y] ++ ys.toArray) (grow (putRow id (Sort.ahead s.w n) b 0 F) os) fun e w' => e = .returned (.int .i64 r) ∧ ∃ q os', w' = grow ((grow (putRow id (Sort.ahead s.w n) b 0 F) os).drewN q) os' := by
  obtain ⟨_, H⟩ := hcall _ _ _ _ hc
  have hfr := only_fr (s := s) (b := b) (n := n) F os
  have hRL : RL ⟨s.σ, [], grow (putRow id (Sort.ahead s.w n) b 0 F) os, fun x => x = b⟩ (elA t x :: elA t y :: caps) (elV t x :: elV t y :: ys) := by
    simp only [RL]
    exact ⟨_, _, rfl, elA_R t x hft, _, _, rfl, elA_R t y hft, RL_fr rfl hfr _ _ hys⟩
  have := H _ rfl (only_ok hb F os) _ hRL
  rw [show (elV t x :: elV t y :: ys).toArray = #[elV t x, elV t y] ++ ys.toArray by simp] at this
  refine Calls.mono this ?_
  rintro e w' ⟨s', v, cr, rfl, rfl, hst, _, hR, rfl⟩
  simp only [R] at hR
  subst hR
  obtain ⟨q, os', hw⟩ := step_grow rfl hst
  exact ⟨rfl, q, os', hw⟩
def att {α : Type} {Q : α → Prop} : (l : List α) → (∀ x ∈ l, Q x) → List {x // Q x}
  | [], _ => []
  | x :: l, h => ⟨x, h x (by simp)⟩ :: att l (fun y hy => h y (by simp [hy]))
theorem att_map {α : Type} {Q : α → Prop} : ∀ (l : List α) (h : ∀ x ∈ l, Q x), (att l h).map (·.1) = l
  | [], _ => rfl
  | x :: l, h => by simp [att, att_map l]
theorem att_len {α : Type} {Q : α → Prop} (l : List α) (h : ∀ x ∈ l, Q x) : (att l h).length = l.length := by
  have := congrArg List.length (att_map l h)
  simpa using this
theorem att_get {α : Type} {Q : α → Prop} {l : List α} (h : ∀ x ∈ l, Q x) {i : Nat} {x : {x // Q x}} (hx : (att l h)[i]? = some x) : l[i]? = some x.1 := by
  have := congrArg (fun m => m[i]?) (att_map l h)
  simp only [List.getElem?_map, hx, Option.map_some] at this
  exact this.symm
theorem swo_of {α : Type} {Q : α → Prop} {cf : α → α → Int} (hirr : ∀ x, Q x → ¬ cf x x < 0) (htr : ∀ x y z, Q x → Q y → Q z → cf x y < 0 → cf y z < 0 → cf x z < 0)
      (hnt : ∀ x y z, Q x → Q y → Q z → ¬ cf x y < 0 → ¬ cf y z < 0 → ¬ cf x z < 0) : SWO (ltOf fun x y : {x // Q x} => cf x.1 y.1) where
  irrefl x := by unfold ltOf; exact decide_eq_false (hirr x.1 x.2)
  trans x y z h1 h2 := by
    unfold ltOf at *
    exact decide_eq_true (htr x.1 y.1 z.1 x.2 y.2 z.2 (of_decide_eq_true h1) (of_decide_eq_true h2))
  ntrans x y z h1 h2 := by
    unfold ltOf at *
    exact decide_eq_false (hnt x.1 y.1 z.1 x.2 y.2 z.2 (of_decide_eq_false h1) (of_decide_eq_false h2))
theorem get_bang {α : Type} [Inhabited α] {l : List α} {i : Nat} {x : α} (h : l[i]? = some x) : (l.toArray)[i]! = x := by
  obtain ⟨hlt, rfl⟩ := List.getElem?_eq_some_iff.1 h
  rw [getElem!_pos _ i (by simpa using hlt)]
  simp
theorem sorted_list {α : Type} {Q : α → Prop} [Inhabited {x // Q x}] {cf : α → α → Int} {l : List α} {hl : ∀ x ∈ l, Q x} {d' : Array {x // Q x}} (hp : PermIn 0 (att l hl).toArray.size (att l hl).toArray d') (hs : SortedIn (ltOf fun x y : {x // Q x} => cf x.1 y.1) 0 (att l hl).toArray.size d') :
    (d'.toList.map (·.1)).Perm l ∧ (d'.toList.map (·.1)).Pairwise (fun x y => ¬ cf y x < 0) ∧ d'.size = l.length := by
  obtain ⟨hsz, _, hperm⟩ := hp
  have e1 : d'.extract 0 (att l hl).toArray.size = d' := by rw [← hsz]; exact Array.extract_size
  rw [e1, Array.extract_size] at hperm
  have hlen : d'.size = l.length := by rw [hsz]; simp [att_len]
  refine ⟨?_, ?_, hlen⟩
  · have := hperm.map (fun x : {x // Q x} => x.1)
    rwa [show ((att l hl).toArray.toList.map fun x : {x // Q x} => x.1) = l from att_map l hl] at this
  · rw [List.pairwise_map, List.pairwise_iff_getElem]
    intro i j hi hj hij
    have hi' : i < d'.size := by simpa using hi
    have hj' : j < d'.size := by simpa using hj
    have := hs i j (Nat.zero_le _) hij (by rw [← hsz]; exact hj')
    rw [getElem!_pos d' j hj', getElem!_pos d' i hi'] at this
    have := of_decide_eq_false this
    simpa using this
end
end Av
