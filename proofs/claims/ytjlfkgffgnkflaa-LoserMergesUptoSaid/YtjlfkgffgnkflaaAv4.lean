/-
  An abstract reading of values and memory: the operations that only read, or make memory.
-/
import Derived.Test.YtjlfkgffgnkflaaAv3
import Derived.Laws.Entries
namespace Av
open Go

/-! ### Small lemmas -/
theorem exec_value {P : Program} {w w' : World} {e : Sem Value} {v : Value} (h : e.run P w = .ok v w') : ((do pure (.value (← e))) : Sem Next).run P w = .ok (.value v) w' := by
  rw [Sem.run_bind, h]; rfl
theorem RL_vals {s : St} : ∀ {cs : List AV} {vs : List Value}, RL s cs vs → vs.length = cs.length
  | [], vs, h => by simp only [RL] at h; subst h; rfl
  | c :: cs, vs, h => by
    simp only [RL] at h
    obtain ⟨v, vs', rfl, _, h2⟩ := h
    simp [RL_vals h2]
theorem RL_get {s : St} : ∀ {cs : List AV} {vs : List Value}, RL s cs vs → ∀ (i : Nat) (c : AV), cs[i]? = some c → ∃ v, vs[i]? = some v ∧ R s c v
  | [], vs, h, i, c, hi => by simp at hi
  | x :: cs, vs, h, i, c, hi => by
    simp only [RL] at h
    obtain ⟨v, vs', rfl, h1, h2⟩ := h
    cases i with
    | zero => simp at hi; subst hi; exact ⟨v, by simp, h1⟩
    | succ i => simpa using RL_get h2 i c (by simpa using hi)
theorem RL_append {s : St} : ∀ {cs ds : List AV} {vs us : List Value}, RL s cs vs → RL s ds us → RL s (cs ++ ds) (vs ++ us)
  | [], ds, vs, us, h, k => by simp only [RL] at h; subst h; simpa using k
  | x :: cs, ds, vs, us, h, k => by
    simp only [RL] at h
    obtain ⟨v, vs', rfl, h1, h2⟩ := h
    simp only [List.cons_append, RL]
    exact ⟨v, vs' ++ us, rfl, h1, RL_append h2 k⟩
theorem RL_take {s : St} : ∀ {cs : List AV} {vs : List Value} (n : Nat), RL s cs vs → RL s (cs.take n) (vs.take n)
  | [], vs, n, h => by simp only [RL] at h; subst h; simp [RL]
  | x :: cs, vs, n, h => by
    simp only [RL] at h
    obtain ⟨v, vs', rfl, h1, h2⟩ := h
    cases n with
    | zero => simp [RL]
    | succ n => simp only [List.take_succ_cons, RL]; exact ⟨v, _, rfl, h1, RL_take n h2⟩
theorem RL_drop {s : St} : ∀ {cs : List AV} {vs : List Value} (n : Nat), RL s cs vs → RL s (cs.drop n) (vs.drop n)
  | [], vs, n, h => by simp only [RL] at h; subst h; simp [RL]
  | x :: cs, vs, n, h => by
    cases n with
    | zero => simpa using h
    | succ n =>
      simp only [RL] at h
      obtain ⟨v, vs', rfl, h1, h2⟩ := h
      simpa using RL_drop n h2
theorem RC_vals {s : St} : ∀ {cs : List AV} {c : Nat → Option Value}, RC s cs c → ∃ vs, RL s cs vs ∧ (∀ u ∈ vs, u.oneCell' = true) ∧ ∀ j v, vs[j]? = some v → c j = some v
  | [], c, h => ⟨[], by simp only [RL], by simp, by simp⟩
  | x :: cs, c, h => by
    simp only [RC] at h
    obtain ⟨⟨v, h0, h1, h2⟩, h3⟩ := h
    obtain ⟨vs, k1, k2, k3⟩ := RC_vals h3
    refine ⟨v :: vs, by simp only [RL]; exact ⟨v, vs, rfl, h1, k1⟩, ?_, ?_⟩
    · intro u hu
      rcases List.mem_cons.1 hu with rfl | hu
      · exact h2
      · exact k2 u hu
    · intro j u hu
      cases j with
      | zero => simp at hu; subst hu; exact h0
      | succ j => exact k3 j u (by simpa using hu)
theorem RC_of_RL {s : St} : ∀ {cs : List AV} {vs : List Value} {c : Nat → Option Value}, RL s cs vs → (∀ u ∈ vs, u.oneCell' = true) → (∀ j v, vs[j]? = some v → c j = some v) → RC s cs c
  | [], vs, c, h, _, _ => by simp only [RC]
  | x :: cs, vs, c, h, h1, h2 => by
    simp only [RL] at h
    obtain ⟨v, vs', rfl, k1, k2⟩ := h
    simp only [RC]
    exact ⟨⟨v, h2 0 v rfl, k1, h1 v (by simp)⟩, RC_of_RL k2 (fun u hu => h1 u (by simp [hu])) (fun j u hu => h2 (j + 1) u (by simpa using hu))⟩

def cellsOf : AV → Option (List AV)
  | .agg cs => some cs
  | .any => none
  | .und => none
  | .tup _ => none
  | v => some [v]
theorem cellsOf_R {s : St} {a : AV} {v : Value} {cs : List AV} (h : cellsOf a = some cs) (hr : R s a v) : ∃ vs : List Value, v.cells = vs.toArray ∧ RL s cs vs ∧ ∀ u ∈ vs, u.oneCell' = true := by
  have leaf : ∀ x : AV, R s x v → v.oneCell' = true → cs = [x] → ∃ vs : List Value, v.cells = vs.toArray ∧ RL s cs vs ∧ ∀ u ∈ vs, u.oneCell' = true := by
    intro x hx h1 hc
    subst hc
    refine ⟨[v], ?_, by simp only [RL]; exact ⟨v, [], rfl, hx, rfl⟩, by simpa using h1⟩
    cases v <;> first | rfl | (simp [Value.oneCell'] at h1)
  cases a <;> simp only [cellsOf] at h <;> first
    | (cases h; done)
    | skip
  case agg cs' =>
    cases h
    simp only [R] at hr
    obtain ⟨vs, rfl, h1, h2⟩ := hr
    exact ⟨vs, rfl, h1, h2⟩
  all_goals
    refine leaf _ hr ?_ (Option.some.inj h).symm
    simp only [R] at hr
  case bool => rw [hr]; rfl
  case int => rw [hr]; rfl
  case str => rw [hr]; rfl
  case nilp => rw [hr]; rfl
  case nsl => rw [hr]; rfl
  case zsl => rw [hr]; rfl
  case nilfn => rw [hr]; rfl
  case nili => rw [hr]; rfl
  case ptr => obtain ⟨_, b, rfl, _⟩ := hr; rfl
  case optr => obtain ⟨_, b, rfl, _⟩ := hr; rfl
  case own => obtain ⟨_, b, c, rfl, _⟩ := hr; rfl
  case osl => obtain ⟨_, b, c, rfl, _⟩ := hr; rfl
  case tosl => obtain ⟨⟨_, b, c, rfl, _⟩, _⟩ := hr; rfl
  case pv => obtain ⟨b, o, rfl, _⟩ := hr; rfl
  case lst => obtain ⟨b, o, rfl, _⟩ := hr; rfl
  case tlst => obtain ⟨⟨b, o, rfl, _⟩, _⟩ := hr; rfl
  case fn => obtain ⟨xs, ys, rfl, _⟩ := hr; rfl
  case iface => obtain ⟨y, rfl, _⟩ := hr; rfl
end Av
