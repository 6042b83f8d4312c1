/-
  An abstract reading of values and memory: what a sort makes of an array of the code's own.
-/
import Derived.Test.YtjlfkgffgnkflaaAvq
import Derived.Shelf.SlSortCmp.NoneTotal
namespace Av
open Go Go.Sort Go.Proofs

/-! ### Data without memory, as values -/
mutual
def valsT : (t : Ty) → t.El → List Value
  | .bool, b => [.bool b]
  | .int k, n => [.int k n]
  | .str, s => [.string s]
  | .sl _, _ => []
  | .st fs, x => valsTs fs x
def valsTs : (ts : List Ty) → Ty.Els ts → List Value
  | [], _ => []
  | t :: ts, x => valsT t x.1 ++ valsTs ts x.2
end
mutual
theorem valsT_len : ∀ (t : Ty) (x : t.El), flatT t = true → (valsT t x).length = t.size
  | .bool, _, _ => rfl
  | .int _, _, _ => rfl
  | .str, _, _ => rfl
  | .sl _, _, h => by simp [flatT] at h
  | .st fs, x, h => by simp only [flatT] at h; simp only [valsT, Ty.size]; exact valsTs_len fs x h
theorem valsTs_len : ∀ (ts : List Ty) (x : Ty.Els ts), flatTs ts = true → (valsTs ts x).length = Ty.sizes ts
  | [], _, _ => rfl
  | t :: ts, x, h => by
    simp only [flatTs, Bool.and_eq_true] at h
    simp only [valsTs, Ty.sizes, List.length_append, valsT_len t x.1 h.1, valsTs_len ts x.2 h.2]
end
mutual
theorem valsT_RT {s : St} : ∀ (t : Ty) (x : t.El) (c : Nat → Option Value), flatT t = true → (RT s t x c ↔ ∀ j v, (valsT t x)[j]? = some v → c j = some v)
  | .bool, b, c, _ => by
    simp only [RT, valsT]
    exact ⟨fun h j v hv => by cases j with
      | zero => cases hv; exact h
      | succ j => simp at hv, fun h => h 0 _ rfl⟩
  | .int k, n, c, _ => by
    simp only [RT, valsT]
    exact ⟨fun h j v hv => by cases j with
      | zero => cases hv; exact h
      | succ j => simp at hv, fun h => h 0 _ rfl⟩
  | .str, x, c, _ => by
    simp only [RT, valsT]
    exact ⟨fun h j v hv => by cases j with
      | zero => cases hv; exact h
      | succ j => simp at hv, fun h => h 0 _ rfl⟩
  | .sl _, _, _, h => by simp [flatT] at h
  | .st fs, x, c, h => by simp only [flatT] at h; simp only [RT, valsT]; exact valsTs_RT fs x c h
theorem valsTs_RT {s : St} : ∀ (ts : List Ty) (x : Ty.Els ts) (c : Nat → Option Value), flatTs ts = true → (RTs s ts x c ↔ ∀ j v, (valsTs ts x)[j]? = some v → c j = some v)
  | [], _, c, _ => by simp [RTs, valsTs]
  | t :: ts, x, c, h => by
    simp only [flatTs, Bool.and_eq_true] at h
    simp only [RTs, valsTs]
    have hl := valsT_len t x.1 h.1
    rw [valsT_RT t x.1 c h.1, valsTs_RT ts x.2 _ h.2]
    constructor
    · rintro ⟨h1, h2⟩ j v hv
      rw [List.getElem?_append] at hv
      split at hv
      · exact h1 j v hv
      · have := h2 _ v hv
        rw [show t.size + (j - (valsT t x.1).length) = j by omega] at this
        exact this
    · intro h1
      refine ⟨fun j v hv => h1 j v ?_, fun j v hv => h1 _ v ?_⟩
      · rw [List.getElem?_append_left (List.getElem?_eq_some_iff.1 hv).1]
        exact hv
      · rw [List.getElem?_append_right (by omega), hl, Nat.add_sub_cancel_left]
        exact hv
end
mutual
theorem valsT_one : ∀ (t : Ty) (x : t.El), ∀ v ∈ valsT t x, v.oneCell' = true
  | .bool, _, v, h => by simp only [valsT, List.mem_singleton] at h; subst h; rfl
  | .int _, _, v, h => by simp only [valsT, List.mem_singleton] at h; subst h; rfl
  | .str, _, v, h => by simp only [valsT, List.mem_singleton] at h; subst h; rfl
  | .sl _, _, v, h => by simp [valsT] at h
  | .st fs, x, v, h => by simp only [valsT] at h; exact valsTs_one fs x v h
theorem valsTs_one : ∀ (ts : List Ty) (x : Ty.Els ts), ∀ v ∈ valsTs ts x, v.oneCell' = true
  | [], _, v, h => by simp [valsTs] at h
  | t :: ts, x, v, h => by
    simp only [valsTs, List.mem_append] at h
    rcases h with h | h
    · exact valsT_one t x.1 v h
    · exact valsTs_one ts x.2 v h
end
mutual
theorem valsT_R {s : St} : ∀ (t : Ty) (x : t.El), flatT t = true → RL s (flat t x) (valsT t x)
  | .bool, b, _ => by simp only [flat, valsT, RL, R]; exact ⟨_, _, rfl, rfl, rfl⟩
  | .int k, n, _ => by simp only [flat, valsT, RL, R]; exact ⟨_, _, rfl, rfl, rfl⟩
  | .str, x, _ => by simp only [flat, valsT, RL, R]; exact ⟨_, _, rfl, rfl, rfl⟩
  | .sl _, _, h => by simp [flatT] at h
  | .st fs, x, h => by simp only [flatT] at h; simp only [flat, valsT]; exact valsTs_R fs x h
theorem valsTs_R {s : St} : ∀ (ts : List Ty) (x : Ty.Els ts), flatTs ts = true → RL s (flats ts x) (valsTs ts x)
  | [], _, _ => by simp only [flats, valsTs, RL]
  | t :: ts, x, h => by
    simp only [flatTs, Bool.and_eq_true] at h
    simp only [flats, valsTs]
    exact RL_append (valsT_R t x.1 h.1) (valsTs_R ts x.2 h.2)
end
/-- An element, as it is handed to a function. -/
def elA (t : Ty) (x : t.El) : AV := match t with
  | .st fs => .agg (flats fs x)
  | .bool => .bool x
  | .int k => .int k x
  | .str => .str x
  | .sl e => .lst e x
def elV (t : Ty) (x : t.El) : Value := match t with
  | .st fs => .agg (valsTs fs x).toArray
  | .bool => .bool x
  | .int k => .int k x
  | .str => .string x
  | .sl _ => undef
theorem elA_R {s : St} (t : Ty) (x : t.El) (h : flatT t = true) : R s (elA t x) (elV t x) := by
  cases t with
  | st fs =>
    simp only [flatT] at h
    simp only [elA, elV, R]
    exact ⟨_, rfl, valsTs_R fs x h, valsTs_one fs x⟩
  | bool => simp only [elA, elV, R]
  | int k => simp only [elA, elV, R]
  | str => simp only [elA, elV, R]
  | sl e => simp [flatT] at h
def rowsV (t : Ty) (l : List t.El) : List Value := l.flatMap (valsT t)
theorem rowsV_len {t : Ty} (h : flatT t = true) : ∀ l : List t.El, (rowsV t l).length = l.length * t.size
  | [] => by simp [rowsV]
  | x :: l => by
    have := rowsV_len h l
    simp only [rowsV] at this
    simp only [rowsV, List.flatMap_cons, List.length_append, valsT_len t x h, this, List.length_cons, Nat.add_mul, Nat.one_mul]
    omega
theorem rowsV_get {t : Ty} (h : flatT t = true) : ∀ (l : List t.El) (i : Nat) (x : t.El) (j : Nat), l[i]? = some x → j < t.size → (rowsV t l)[i * t.size + j]? = (valsT t x)[j]?
  | y :: l, 0, x, j, hx, hj => by
    cases hx
    have hl := valsT_len t y h
    simp only [rowsV, List.flatMap_cons, Nat.zero_mul, Nat.zero_add]
    rw [List.getElem?_append_left (by omega)]
  | y :: l, i + 1, x, j, hx, hj => by
    have hl := valsT_len t y h
    have := rowsV_get h l i x j (by simpa using hx) hj
    simp only [rowsV, List.flatMap_cons]
    rw [List.getElem?_append_right (by rw [hl, Nat.add_mul]; omega), hl, Nat.add_mul, Nat.one_mul, show i * t.size + t.size + j - t.size = i * t.size + j by omega]
    exact this
theorem rowsV_of {s : St} {t : Ty} (h : flatT t = true) (hp : 0 < t.size) {l : List t.El} {xs : List Value} (hlen : xs.length = l.length * t.size) (hr : ∀ i x, l[i]? = some x → RT s t x (fun j => xs[i * t.size + j]?)) : xs = rowsV t l := by
  apply List.ext_getElem?
  intro q
  by_cases hq : q < l.length * t.size
  · have hi : q / t.size < l.length := (Nat.div_lt_iff_lt_mul hp).2 hq
    have hj := Nat.mod_lt q hp
    have hqe : q / t.size * t.size + q % t.size = q := by rw [Nat.mul_comm]; exact Nat.div_add_mod q t.size
    have hx : l[q / t.size]? = some l[q / t.size] := List.getElem?_eq_getElem hi
    have h1 := rowsV_get h l _ _ (q % t.size) hx hj
    rw [hqe] at h1
    have hl2 : q % t.size < (valsT t l[q / t.size]).length := by rw [valsT_len t _ h]; exact hj
    have hv : (valsT t l[q / t.size])[q % t.size]? = some (valsT t l[q / t.size])[q % t.size] := List.getElem?_eq_getElem hl2
    have h2 := (valsT_RT (s := s) t _ _ h).1 (hr _ _ hx) _ _ hv
    rw [hqe] at h2
    rw [h2, h1, hv]
  · rw [List.getElem?_eq_none (by omega), List.getElem?_eq_none (by rw [rowsV_len h]; omega)]
end Av
