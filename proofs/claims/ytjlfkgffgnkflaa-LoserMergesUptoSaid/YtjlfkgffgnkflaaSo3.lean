/-
  An abstract reading of values and memory: slices.SortFunc, by the library's contract, as a call that is walked through.
-/
import Derived.Test.YtjlfkgffgnkflaaSo2
namespace Av
open Go Go.Sort Go.Proofs

/-- A sort: whatever the order of equal elements, what follows holds. -/
inductive sortP (call : CallA) (c : FuncId) (t : Ty) (caps : List AV) (l : List t.El) (k : List t.El → Prop) : Prop where
  | mk (Q : t.El → Prop) (cf : t.El → t.El → Int) (hl : ∀ x ∈ l, Q x)
      (hc : ∀ x y, Q x → Q y → call c (elA t x :: elA t y :: caps) [] fun v _ => v = .int .i64 (cf x y))
      (hirr : ∀ x, Q x → ¬ cf x x < 0) (htr : ∀ x y z, Q x → Q y → Q z → cf x y < 0 → cf y z < 0 → cf x z < 0)
      (hnt : ∀ x y z, Q x → Q y → Q z → ¬ cf x y < 0 → ¬ cf y z < 0 → ¬ cf x z < 0)
      (hk : ∀ l', l'.Perm l → l'.Pairwise (fun x y => ¬ cf y x < 0) → k l') : sortP call c t caps l k
def sortA (t0 : Ty) (call : CallA) (xs : List AV) (h : Hp) (K : AV → Hp → Prop) : Prop := match xs with
  | [.own id g n, .fn (.func c) [] caps] => match h[id]? with
    | some (.arr T t l f g') => need (g' = g ∧ n = l.length ∧ Ty.beq t t0 = true ∧ l.length < 4611686018427387904) (viewsD (viewD 6 id h) caps fun caps => sortP call c t caps l fun l' => putK h id (.arr T t l' f g') fun h => K (.tup []) h)
    | _ => False
  | [.nsl, .fn (.func _) [] _] => K (.tup []) h
  | [.zsl _, .fn (.func _) [] _] => K (.tup []) h
  | _ => False

/-! ### The world behind a sort -/
theorem putCells_list {F : Array Value} {cur : Array Value} (h : F.size ≤ cur.size) : (putCells id 0 F cur).toList = F.toList ++ cur.toList.drop F.size := by
  apply List.ext_getElem?
  intro k
  simp only [putCells, Array.getElem?_toList, Array.getElem?_mapIdx, Nat.zero_le, true_and, Nat.zero_add, Nat.sub_zero, id]
  by_cases hk : k < cur.size
  · rw [Array.getElem?_eq_getElem hk, Option.map_some]
    by_cases hF : k < F.size
    · rw [if_pos hF, List.getElem?_append_left (by simpa using hF), getElem!_pos F k hF]
      simp
    · rw [if_neg hF, List.getElem?_append_right (by simp; omega), List.getElem?_drop]
      simp only [Array.length_toList]
      rw [show F.size + (k - F.size) = k by omega, Array.getElem?_toList, Array.getElem?_eq_getElem hk]
  · rw [Array.getElem?_eq_none (by omega), List.getElem?_eq_none (by simp; omega)]
    rfl
theorem world_heap {w : World} {b : Nat} {cur : Array Value} {T : TypeId} (hg : w.heap[b]? = some (.cells cur T (0, 0))) (n : Nat) (F : Array Value) (os : Array Obj) :
    (grow (putRow id (Sort.ahead w n) b 0 F) os).heap[b]? = some (.cells (putCells id 0 F cur) T (0, 0)) := by
  have hb : b < w.heap.size := (Array.getElem?_eq_some_iff.1 hg).1
  show ((w.heap.modify b (onCells (putCells id 0 F))) ++ os)[b]? = _
  rw [Array.getElem?_append_left (by simpa using hb), Array.getElem?_modify, if_pos rfl, hg]
  rfl
theorem world_other {w : World} {b : Nat} (n : Nat) (F : Array Value) (os : Array Obj) {k : Nat} (hk : k < w.heap.size) (hne : k ≠ b) :
    (grow (putRow id (Sort.ahead w n) b 0 F) os).heap[k]? = w.heap[k]? := by
  show ((w.heap.modify b (onCells (putCells id 0 F))) ++ os)[k]? = _
  rw [Array.getElem?_append_left (by simpa using hk), Array.getElem?_modify, if_neg (Ne.symm hne)]
theorem world_size {w : World} {b : Nat} (n : Nat) (F : Array Value) (os : Array Obj) : w.heap.size ≤ (grow (putRow id (Sort.ahead w n) b 0 F) os).heap.size := by
  show w.heap.size ≤ ((w.heap.modify b (onCells (putCells id 0 F))) ++ os).size
  simp
theorem world_gb (w : World) (b n : Nat) (F : Array Value) (os : Array Obj) : Gb w (grow (putRow id (Sort.ahead w n) b 0 F) os) (some b) :=
  ⟨rfl, rfl, rfl, Nat.le_add_right _ _, world_size n F os, fun k hk hne => world_other n F os hk (fun e => hne (by rw [e]))⟩
theorem flatT_pos : ∀ {t : Ty}, (match t with | .st fs => 0 < Ty.sizes fs | _ => True) → 0 < t.size
  | .bool, _ => Nat.one_pos
  | .int _, _ => Nat.one_pos
  | .str, _ => Nat.one_pos
  | .sl _, _ => Nat.one_pos
  | .st _, h => h
/-- An array that has been put in order. -/
theorem sort_turn {s : St} (hok : Ok s) {id : Nat} {T : TypeId} {t : Ty} {l l' : List t.El} {f : Bool} {g : Nat} (ho : s.h[id]? = some (.arr T t l f g)) (hft : flatT t = true) {b len cap : Nat} (hσ : s.σ id = .slice (some ⟨b, 0, none⟩) len cap)
    (hl : l'.length = l.length) {F : Array Value} (hF : F.toList = rowsV t l') (n : Nat) (os : Array Obj) {w' : World} (hw' : w' = grow (putRow _root_.id (Sort.ahead s.w n) b 0 F) os) :
    Step s (s.turn id (.arr T t l' f g) (s.σ id) w') ∧ Ok (s.turn id (.arr T t l' f g) (s.σ id) w') := by
  obtain ⟨xs, hown, hone, hrow, hfull⟩ := hok.obj id _ ho
  have hxl := hown.1
  rw [hσ] at hown
  rcases hown.2 with ⟨he, _⟩ | ⟨b', cap', cur, he, hb0, hg, hnc, hcm, hcs, htake⟩
  · cases he
  · cases he
    have hw : Gb s.w w' (blkOf (s.σ id)) := by rw [hσ, hw']; exact world_gb _ _ _ _ _
    have hcmp : Cmp (.arr T t l f g) (s.σ id) (.arr T t l' f g) (s.σ id) := .arr _ _ _ _ _ _ _ _ _ _ (Nat.le_refl _) (fun _ => ⟨rfl, hl⟩)
    have hst := St.turn_step ho hcmp hw (fun b hb => .inl hb)
    refine ⟨hst, St.turn_ok hok ho hcmp hw (fun b hb => .inl hb) ?_⟩
    have hFl : F.size = l.length * t.size := by
      have := congrArg List.length hF
      rw [rowsV_len hft, hl] at this
      simpa using this
    have hcap : l.length * t.size ≤ cap * t.size := Nat.mul_le_mul_right _ hnc
    refine ⟨rowsV t l', ?_, fun u hu => ?_, fun i x hi => (valsT_RT t x _ hft).2 fun j v hv => ?_, fun hf => ?_⟩
    · simp only [St.turn, upd_same]
      rw [hσ]
      refine ⟨by rw [rowsV_len hft], .inr ⟨b, cap, putCells _root_.id 0 F cur, by rw [hl], Nat.zero_le _, by rw [hw']; exact world_heap hg _ _ _, by rw [hl]; exact hnc, hcm, ?_, ?_⟩⟩
      · simp only [putCells, Array.size_mapIdx]
        exact hcs
      · rw [putCells_list (by rw [hFl, hcs]; exact hcap), List.take_append_of_le_length (by simp [hFl, hl]), hF, List.take_of_length_le (by rw [rowsV_len hft, hl]; exact Nat.le_refl _)]
    · obtain ⟨x, _, hx⟩ := List.mem_flatMap.1 hu
      exact valsT_one t x u hx
    · rw [rowsV_get hft l' i x j hi (by rw [← valsT_len t x hft]; exact (List.getElem?_eq_some_iff.1 hv).1)]
      exact hv
    · obtain ⟨base, hb⟩ := hfull hf
      refine ⟨base, ?_⟩
      simp only [St.turn, upd_same]
      rw [hl]
      exact hb
end Av
