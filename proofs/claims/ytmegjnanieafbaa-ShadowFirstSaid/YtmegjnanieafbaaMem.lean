/-
  Small lemmas on memory: what a call that makes memory leaves of the blocks that its caller has made before it.
-/
import Derived.WalkKit
import Derived.Lib.Hide
import Derived.Deep.MidRow
namespace Bk
open Go Go.RowKit

/-- A block that was made before the call reads behind it as it did. -/
theorem keepB {W w1 : World} (hb : Below W.heap.size W w1) {n : Nat} (h : n < W.heap.size) :
    (∀ o, w1.cell? ⟨n, o, none⟩ = W.cell? ⟨n, o, none⟩) ∧ (∀ o, w1.frozen? ⟨n, o, none⟩ = W.frozen? ⟨n, o, none⟩) ∧ n < w1.heap.size :=
  ⟨fun o => hb.cell (p := ⟨n, o, none⟩) h, fun o => hb.frozen (p := ⟨n, o, none⟩) h, Nat.lt_of_lt_of_le h hb.size⟩

theorem keepC {W w1 : World} (hb : Below W.heap.size W w1) {n : Nat} {c : Array Value} (h : n < W.heap.size) (hc : ∀ o, W.cell? ⟨n, o, none⟩ = c[o]?) :
    (∀ o, w1.cell? ⟨n, o, none⟩ = c[o]?) ∧ (∀ o, w1.frozen? ⟨n, o, none⟩ = W.frozen? ⟨n, o, none⟩) ∧ n < w1.heap.size :=
  ⟨fun o => (hb.cell (p := ⟨n, o, none⟩) h).trans (hc o), fun o => hb.frozen (p := ⟨n, o, none⟩) h, Nat.lt_of_lt_of_le h hb.size⟩

theorem size_alloc (w : World) (o : Obj) : (w.alloc o).heap.size = w.heap.size + 1 := by simp

/-- The block that has just been made. -/
theorem newCell (w : World) (A : Array Value) (a : TypeId) (o : Nat) : (w.alloc (.cells A a)).cell? ⟨w.heap.size, o, none⟩ = A[o]? := by
  simp only [World.cell?, heap_alloc_new]; simp
theorem newFrozen (w : World) (A : Array Value) (a : TypeId) (o : Nat) : (w.alloc (.cells A a)).frozen? ⟨w.heap.size, o, none⟩ = false := by
  simp only [World.frozen?, heap_alloc_new]; simp
theorem oldCell (w : World) (x : Obj) {n : Nat} (h : n < w.heap.size) (o : Nat) : (w.alloc x).cell? ⟨n, o, none⟩ = w.cell? ⟨n, o, none⟩ := by
  simp [World.cell?, Below.heap_alloc w x n h]
theorem oldFrozen (w : World) (x : Obj) {n : Nat} (h : n < w.heap.size) (o : Nat) : (w.alloc x).frozen? ⟨n, o, none⟩ = w.frozen? ⟨n, o, none⟩ := by
  simp [World.frozen?, Below.heap_alloc w x n h]

/-- A block whose cells are known, behind a store into it. -/
theorem cellSet {w : World} {n : Nat} {c : Array Value} (h : ∀ o, w.cell? ⟨n, o, none⟩ = c[o]?) (j : Nat) (v : Value) :
    ∀ o, (w.setCell ⟨n, j, none⟩ v).cell? ⟨n, o, none⟩ = (c.setIfInBounds j v)[o]? := by
  intro o
  by_cases hj : j = o
  · subst hj
    cases hc : c[j]? with
    | none =>
      have h1 := h j
      rw [hc] at h1
      have hlt : c.size ≤ j := by simpa using hc
      rw [Array.getElem?_eq_none (by simpa using hlt)]
      simp only [World.setCell, World.cell?, Array.getElem?_modify, if_true] at h1 ⊢
      cases hh : w.heap[n]? with
      | none => simp
      | some x =>
        cases x <;> simp_all
    | some u =>
      have h1 := h j
      rw [hc] at h1
      have hlt : j < c.size := (Array.getElem?_eq_some_iff.1 hc).1
      rw [World.cell?_setCell_same _ _ _ h1]
      simp [hlt]
  · rw [World.cell?_setCell_other _ _ _ _ (fun e => hj (Addr.mk.inj e).2.1), h o, Array.getElem?_setIfInBounds]
    simp [hj]
theorem cellDrew {w : World} {n : Nat} {c : Array Value} (h : ∀ o, w.cell? ⟨n, o, none⟩ = c[o]?) : ∀ o, w.drew.cell? ⟨n, o, none⟩ = c[o]? := h
theorem Below.old {w W w1 : World} (h : Below w.heap.size w W) (hb : Below W.heap.size W w1) : Below w.heap.size w w1 := h.trans (hb.mono h.size)
theorem own1 {w w1 : World} {A : Array Value} {a : TypeId} (hb : Below (w.alloc (.cells A a)).heap.size (w.alloc (.cells A a)) w1) :
    (∀ o, w1.cell? ⟨w.heap.size, o, none⟩ = A[o]?) ∧ (∀ o, w1.frozen? ⟨w.heap.size, o, none⟩ = false) ∧ w.heap.size < w1.heap.size ∧ Below w.heap.size w w1 := by
  have h0 : w.heap.size < (w.alloc (.cells A a)).heap.size := by simp only [size_alloc]; omega
  obtain ⟨p0, q0, r0⟩ := keepB hb h0
  refine ⟨fun o => (p0 o).trans ?_, fun o => (q0 o).trans ?_, r0, ?_⟩
  · exact newCell _ _ _ o
  · exact newFrozen _ _ _ o
  · exact ((Below.refl _ w).alloc (Nat.le_refl _) _).trans (hb.mono (by simp only [size_alloc]; omega))

theorem own2 {w w1 : World} {A B : Array Value} {a b : TypeId} (hb : Below ((w.alloc (.cells A a)).alloc (.cells B b)).heap.size ((w.alloc (.cells A a)).alloc (.cells B b)) w1) :
    (∀ o, w1.cell? ⟨w.heap.size, o, none⟩ = A[o]?) ∧ (∀ o, w1.frozen? ⟨w.heap.size, o, none⟩ = false) ∧ w.heap.size < w1.heap.size ∧ (∀ o, w1.cell? ⟨w.heap.size + 1, o, none⟩ = B[o]?) ∧ (∀ o, w1.frozen? ⟨w.heap.size + 1, o, none⟩ = false) ∧ w.heap.size + 1 < w1.heap.size ∧ Below w.heap.size w w1 := by
  have h0 : w.heap.size < ((w.alloc (.cells A a)).alloc (.cells B b)).heap.size := by simp only [size_alloc]; omega
  obtain ⟨p0, q0, r0⟩ := keepB hb h0
  have h1 : w.heap.size + 1 < ((w.alloc (.cells A a)).alloc (.cells B b)).heap.size := by simp only [size_alloc]; omega
  obtain ⟨p1, q1, r1⟩ := keepB hb h1
  refine ⟨fun o => (p0 o).trans ?_, fun o => (q0 o).trans ?_, r0, fun o => (p1 o).trans ?_, fun o => (q1 o).trans ?_, r1, ?_⟩
  · rw [oldCell _ _ (by simp only [size_alloc]; omega)]; exact newCell _ _ _ o
  · rw [oldFrozen _ _ (by simp only [size_alloc]; omega)]; exact newFrozen _ _ _ o
  · have := newCell (w.alloc (.cells A a)) B b o; simpa only [size_alloc] using this
  · have := newFrozen (w.alloc (.cells A a)) B b o; simpa only [size_alloc] using this
  · exact (((Below.refl _ w).alloc (Nat.le_refl _) _).alloc (by simp only [size_alloc]; omega) _).trans (hb.mono (by simp only [size_alloc]; omega))

theorem own3 {w w1 : World} {A B C : Array Value} {a b c : TypeId} (hb : Below (((w.alloc (.cells A a)).alloc (.cells B b)).alloc (.cells C c)).heap.size (((w.alloc (.cells A a)).alloc (.cells B b)).alloc (.cells C c)) w1) :
    (∀ o, w1.cell? ⟨w.heap.size, o, none⟩ = A[o]?) ∧ (∀ o, w1.frozen? ⟨w.heap.size, o, none⟩ = false) ∧ w.heap.size < w1.heap.size ∧ (∀ o, w1.cell? ⟨w.heap.size + 1, o, none⟩ = B[o]?) ∧ (∀ o, w1.frozen? ⟨w.heap.size + 1, o, none⟩ = false) ∧ w.heap.size + 1 < w1.heap.size ∧ (∀ o, w1.cell? ⟨w.heap.size + 1 + 1, o, none⟩ = C[o]?) ∧ (∀ o, w1.frozen? ⟨w.heap.size + 1 + 1, o, none⟩ = false) ∧ w.heap.size + 1 + 1 < w1.heap.size ∧ Below w.heap.size w w1 := by
  have h0 : w.heap.size < (((w.alloc (.cells A a)).alloc (.cells B b)).alloc (.cells C c)).heap.size := by simp only [size_alloc]; omega
  obtain ⟨p0, q0, r0⟩ := keepB hb h0
  have h1 : w.heap.size + 1 < (((w.alloc (.cells A a)).alloc (.cells B b)).alloc (.cells C c)).heap.size := by simp only [size_alloc]; omega
  obtain ⟨p1, q1, r1⟩ := keepB hb h1
  have h2 : w.heap.size + 1 + 1 < (((w.alloc (.cells A a)).alloc (.cells B b)).alloc (.cells C c)).heap.size := by simp only [size_alloc]; omega
  obtain ⟨p2, q2, r2⟩ := keepB hb h2
  refine ⟨fun o => (p0 o).trans ?_, fun o => (q0 o).trans ?_, r0, fun o => (p1 o).trans ?_, fun o => (q1 o).trans ?_, r1, fun o => (p2 o).trans ?_, fun o => (q2 o).trans ?_, r2, ?_⟩
  · rw [oldCell _ _ (by simp only [size_alloc]; omega), oldCell _ _ (by simp only [size_alloc]; omega)]; exact newCell _ _ _ o
  · rw [oldFrozen _ _ (by simp only [size_alloc]; omega), oldFrozen _ _ (by simp only [size_alloc]; omega)]; exact newFrozen _ _ _ o
  · rw [oldCell _ _ (by simp only [size_alloc]; omega)]; have := newCell (w.alloc (.cells A a)) B b o; simpa only [size_alloc] using this
  · rw [oldFrozen _ _ (by simp only [size_alloc]; omega)]; have := newFrozen (w.alloc (.cells A a)) B b o; simpa only [size_alloc] using this
  · have := newCell ((w.alloc (.cells A a)).alloc (.cells B b)) C c o; simpa only [size_alloc] using this
  · have := newFrozen ((w.alloc (.cells A a)).alloc (.cells B b)) C c o; simpa only [size_alloc] using this
  · exact ((((Below.refl _ w).alloc (Nat.le_refl _) _).alloc (by simp only [size_alloc]; omega) _).alloc (by simp only [size_alloc]; omega) _).trans (hb.mono (by simp only [size_alloc]; omega))

theorem own4 {w w1 : World} {A B C D : Array Value} {a b c d : TypeId} (hb : Below ((((w.alloc (.cells A a)).alloc (.cells B b)).alloc (.cells C c)).alloc (.cells D d)).heap.size ((((w.alloc (.cells A a)).alloc (.cells B b)).alloc (.cells C c)).alloc (.cells D d)) w1) :
    (∀ o, w1.cell? ⟨w.heap.size, o, none⟩ = A[o]?) ∧ (∀ o, w1.frozen? ⟨w.heap.size, o, none⟩ = false) ∧ w.heap.size < w1.heap.size ∧ (∀ o, w1.cell? ⟨w.heap.size + 1, o, none⟩ = B[o]?) ∧ (∀ o, w1.frozen? ⟨w.heap.size + 1, o, none⟩ = false) ∧ w.heap.size + 1 < w1.heap.size ∧ (∀ o, w1.cell? ⟨w.heap.size + 1 + 1, o, none⟩ = C[o]?) ∧ (∀ o, w1.frozen? ⟨w.heap.size + 1 + 1, o, none⟩ = false) ∧ w.heap.size + 1 + 1 < w1.heap.size ∧ (∀ o, w1.cell? ⟨w.heap.size + 1 + 1 + 1, o, none⟩ = D[o]?) ∧ (∀ o, w1.frozen? ⟨w.heap.size + 1 + 1 + 1, o, none⟩ = false) ∧ w.heap.size + 1 + 1 + 1 < w1.heap.size ∧ Below w.heap.size w w1 := by
  have h0 : w.heap.size < ((((w.alloc (.cells A a)).alloc (.cells B b)).alloc (.cells C c)).alloc (.cells D d)).heap.size := by simp only [size_alloc]; omega
  obtain ⟨p0, q0, r0⟩ := keepB hb h0
  have h1 : w.heap.size + 1 < ((((w.alloc (.cells A a)).alloc (.cells B b)).alloc (.cells C c)).alloc (.cells D d)).heap.size := by simp only [size_alloc]; omega
  obtain ⟨p1, q1, r1⟩ := keepB hb h1
  have h2 : w.heap.size + 1 + 1 < ((((w.alloc (.cells A a)).alloc (.cells B b)).alloc (.cells C c)).alloc (.cells D d)).heap.size := by simp only [size_alloc]; omega
  obtain ⟨p2, q2, r2⟩ := keepB hb h2
  have h3 : w.heap.size + 1 + 1 + 1 < ((((w.alloc (.cells A a)).alloc (.cells B b)).alloc (.cells C c)).alloc (.cells D d)).heap.size := by simp only [size_alloc]; omega
  obtain ⟨p3, q3, r3⟩ := keepB hb h3
  refine ⟨fun o => (p0 o).trans ?_, fun o => (q0 o).trans ?_, r0, fun o => (p1 o).trans ?_, fun o => (q1 o).trans ?_, r1, fun o => (p2 o).trans ?_, fun o => (q2 o).trans ?_, r2, fun o => (p3 o).trans ?_, fun o => (q3 o).trans ?_, r3, ?_⟩
  · rw [oldCell _ _ (by simp only [size_alloc]; omega), oldCell _ _ (by simp only [size_alloc]; omega), oldCell _ _ (by simp only [size_alloc]; omega)]; exact newCell _ _ _ o
  · rw [oldFrozen _ _ (by simp only [size_alloc]; omega), oldFrozen _ _ (by simp only [size_alloc]; omega), oldFrozen _ _ (by simp only [size_alloc]; omega)]; exact newFrozen _ _ _ o
  · rw [oldCell _ _ (by simp only [size_alloc]; omega), oldCell _ _ (by simp only [size_alloc]; omega)]; have := newCell (w.alloc (.cells A a)) B b o; simpa only [size_alloc] using this
  · rw [oldFrozen _ _ (by simp only [size_alloc]; omega), oldFrozen _ _ (by simp only [size_alloc]; omega)]; have := newFrozen (w.alloc (.cells A a)) B b o; simpa only [size_alloc] using this
  · rw [oldCell _ _ (by simp only [size_alloc]; omega)]; have := newCell ((w.alloc (.cells A a)).alloc (.cells B b)) C c o; simpa only [size_alloc] using this
  · rw [oldFrozen _ _ (by simp only [size_alloc]; omega)]; have := newFrozen ((w.alloc (.cells A a)).alloc (.cells B b)) C c o; simpa only [size_alloc] using this
  · have := newCell (((w.alloc (.cells A a)).alloc (.cells B b)).alloc (.cells C c)) D d o; simpa only [size_alloc] using this
  · have := newFrozen (((w.alloc (.cells A a)).alloc (.cells B b)).alloc (.cells C c)) D d o; simpa only [size_alloc] using this
  · exact (((((Below.refl _ w).alloc (Nat.le_refl _) _).alloc (by simp only [size_alloc]; omega) _).alloc (by simp only [size_alloc]; omega) _).alloc (by simp only [size_alloc]; omega) _).trans (hb.mono (by simp only [size_alloc]; omega))

theorem own5 {w w1 : World} {A B C D E : Array Value} {a b c d e : TypeId} (hb : Below (((((w.alloc (.cells A a)).alloc (.cells B b)).alloc (.cells C c)).alloc (.cells D d)).alloc (.cells E e)).heap.size (((((w.alloc (.cells A a)).alloc (.cells B b)).alloc (.cells C c)).alloc (.cells D d)).alloc (.cells E e)) w1) :
    (∀ o, w1.cell? ⟨w.heap.size, o, none⟩ = A[o]?) ∧ (∀ o, w1.frozen? ⟨w.heap.size, o, none⟩ = false) ∧ w.heap.size < w1.heap.size ∧ (∀ o, w1.cell? ⟨w.heap.size + 1, o, none⟩ = B[o]?) ∧ (∀ o, w1.frozen? ⟨w.heap.size + 1, o, none⟩ = false) ∧ w.heap.size + 1 < w1.heap.size ∧ (∀ o, w1.cell? ⟨w.heap.size + 1 + 1, o, none⟩ = C[o]?) ∧ (∀ o, w1.frozen? ⟨w.heap.size + 1 + 1, o, none⟩ = false) ∧ w.heap.size + 1 + 1 < w1.heap.size ∧ (∀ o, w1.cell? ⟨w.heap.size + 1 + 1 + 1, o, none⟩ = D[o]?) ∧ (∀ o, w1.frozen? ⟨w.heap.size + 1 + 1 + 1, o, none⟩ = false) ∧ w.heap.size + 1 + 1 + 1 < w1.heap.size ∧ (∀ o, w1.cell? ⟨w.heap.size + 1 + 1 + 1 + 1, o, none⟩ = E[o]?) ∧ (∀ o, w1.frozen? ⟨w.heap.size + 1 + 1 + 1 + 1, o, none⟩ = false) ∧ w.heap.size + 1 + 1 + 1 + 1 < w1.heap.size ∧ Below w.heap.size w w1 := by
  have h0 : w.heap.size < (((((w.alloc (.cells A a)).alloc (.cells B b)).alloc (.cells C c)).alloc (.cells D d)).alloc (.cells E e)).heap.size := by simp only [size_alloc]; omega
  obtain ⟨p0, q0, r0⟩ := keepB hb h0
  have h1 : w.heap.size + 1 < (((((w.alloc (.cells A a)).alloc (.cells B b)).alloc (.cells C c)).alloc (.cells D d)).alloc (.cells E e)).heap.size := by simp only [size_alloc]; omega
  obtain ⟨p1, q1, r1⟩ := keepB hb h1
  have h2 : w.heap.size + 1 + 1 < (((((w.alloc (.cells A a)).alloc (.cells B b)).alloc (.cells C c)).alloc (.cells D d)).alloc (.cells E e)).heap.size := by simp only [size_alloc]; omega
  obtain ⟨p2, q2, r2⟩ := keepB hb h2
  have h3 : w.heap.size + 1 + 1 + 1 < (((((w.alloc (.cells A a)).alloc (.cells B b)).alloc (.cells C c)).alloc (.cells D d)).alloc (.cells E e)).heap.size := by simp only [size_alloc]; omega
  obtain ⟨p3, q3, r3⟩ := keepB hb h3
  have h4 : w.heap.size + 1 + 1 + 1 + 1 < (((((w.alloc (.cells A a)).alloc (.cells B b)).alloc (.cells C c)).alloc (.cells D d)).alloc (.cells E e)).heap.size := by simp only [size_alloc]; omega
  obtain ⟨p4, q4, r4⟩ := keepB hb h4
  refine ⟨fun o => (p0 o).trans ?_, fun o => (q0 o).trans ?_, r0, fun o => (p1 o).trans ?_, fun o => (q1 o).trans ?_, r1, fun o => (p2 o).trans ?_, fun o => (q2 o).trans ?_, r2, fun o => (p3 o).trans ?_, fun o => (q3 o).trans ?_, r3, fun o => (p4 o).trans ?_, fun o => (q4 o).trans ?_, r4, ?_⟩
  · rw [oldCell _ _ (by simp only [size_alloc]; omega), oldCell _ _ (by simp only [size_alloc]; omega), oldCell _ _ (by simp only [size_alloc]; omega), oldCell _ _ (by simp only [size_alloc]; omega)]; exact newCell _ _ _ o
  · rw [oldFrozen _ _ (by simp only [size_alloc]; omega), oldFrozen _ _ (by simp only [size_alloc]; omega), oldFrozen _ _ (by simp only [size_alloc]; omega), oldFrozen _ _ (by simp only [size_alloc]; omega)]; exact newFrozen _ _ _ o
  · rw [oldCell _ _ (by simp only [size_alloc]; omega), oldCell _ _ (by simp only [size_alloc]; omega), oldCell _ _ (by simp only [size_alloc]; omega)]; have := newCell (w.alloc (.cells A a)) B b o; simpa only [size_alloc] using this
  · rw [oldFrozen _ _ (by simp only [size_alloc]; omega), oldFrozen _ _ (by simp only [size_alloc]; omega), oldFrozen _ _ (by simp only [size_alloc]; omega)]; have := newFrozen (w.alloc (.cells A a)) B b o; simpa only [size_alloc] using this
  · rw [oldCell _ _ (by simp only [size_alloc]; omega), oldCell _ _ (by simp only [size_alloc]; omega)]; have := newCell ((w.alloc (.cells A a)).alloc (.cells B b)) C c o; simpa only [size_alloc] using this
  · rw [oldFrozen _ _ (by simp only [size_alloc]; omega), oldFrozen _ _ (by simp only [size_alloc]; omega)]; have := newFrozen ((w.alloc (.cells A a)).alloc (.cells B b)) C c o; simpa only [size_alloc] using this
  · rw [oldCell _ _ (by simp only [size_alloc]; omega)]; have := newCell (((w.alloc (.cells A a)).alloc (.cells B b)).alloc (.cells C c)) D d o; simpa only [size_alloc] using this
  · rw [oldFrozen _ _ (by simp only [size_alloc]; omega)]; have := newFrozen (((w.alloc (.cells A a)).alloc (.cells B b)).alloc (.cells C c)) D d o; simpa only [size_alloc] using this
  · have := newCell ((((w.alloc (.cells A a)).alloc (.cells B b)).alloc (.cells C c)).alloc (.cells D d)) E e o; simpa only [size_alloc] using this
  · have := newFrozen ((((w.alloc (.cells A a)).alloc (.cells B b)).alloc (.cells C c)).alloc (.cells D d)) E e o; simpa only [size_alloc] using this
  · exact ((((((Below.refl _ w).alloc (Nat.le_refl _) _).alloc (by simp only [size_alloc]; omega) _).alloc (by simp only [size_alloc]; omega) _).alloc (by simp only [size_alloc]; omega) _).alloc (by simp only [size_alloc]; omega) _).trans (hb.mono (by simp only [size_alloc]; omega))

theorem own6 {w w1 : World} {A B C D E F : Array Value} {a b c d e f : TypeId} (hb : Below ((((((w.alloc (.cells A a)).alloc (.cells B b)).alloc (.cells C c)).alloc (.cells D d)).alloc (.cells E e)).alloc (.cells F f)).heap.size ((((((w.alloc (.cells A a)).alloc (.cells B b)).alloc (.cells C c)).alloc (.cells D d)).alloc (.cells E e)).alloc (.cells F f)) w1) :
    (∀ o, w1.cell? ⟨w.heap.size, o, none⟩ = A[o]?) ∧ (∀ o, w1.frozen? ⟨w.heap.size, o, none⟩ = false) ∧ w.heap.size < w1.heap.size ∧ (∀ o, w1.cell? ⟨w.heap.size + 1, o, none⟩ = B[o]?) ∧ (∀ o, w1.frozen? ⟨w.heap.size + 1, o, none⟩ = false) ∧ w.heap.size + 1 < w1.heap.size ∧ (∀ o, w1.cell? ⟨w.heap.size + 1 + 1, o, none⟩ = C[o]?) ∧ (∀ o, w1.frozen? ⟨w.heap.size + 1 + 1, o, none⟩ = false) ∧ w.heap.size + 1 + 1 < w1.heap.size ∧ (∀ o, w1.cell? ⟨w.heap.size + 1 + 1 + 1, o, none⟩ = D[o]?) ∧ (∀ o, w1.frozen? ⟨w.heap.size + 1 + 1 + 1, o, none⟩ = false) ∧ w.heap.size + 1 + 1 + 1 < w1.heap.size ∧ (∀ o, w1.cell? ⟨w.heap.size + 1 + 1 + 1 + 1, o, none⟩ = E[o]?) ∧ (∀ o, w1.frozen? ⟨w.heap.size + 1 + 1 + 1 + 1, o, none⟩ = false) ∧ w.heap.size + 1 + 1 + 1 + 1 < w1.heap.size ∧ (∀ o, w1.cell? ⟨w.heap.size + 1 + 1 + 1 + 1 + 1, o, none⟩ = F[o]?) ∧ (∀ o, w1.frozen? ⟨w.heap.size + 1 + 1 + 1 + 1 + 1, o, none⟩ = false) ∧ w.heap.size + 1 + 1 + 1 + 1 + 1 < w1.heap.size ∧ Below w.heap.size w w1 := by
  have h0 : w.heap.size < ((((((w.alloc (.cells A a)).alloc (.cells B b)).alloc (.cells C c)).alloc (.cells D d)).alloc (.cells E e)).alloc (.cells F f)).heap.size := by simp only [size_alloc]; omega
  obtain ⟨p0, q0, r0⟩ := keepB hb h0
  have h1 : w.heap.size + 1 < ((((((w.alloc (.cells A a)).alloc (.cells B b)).alloc (.cells C c)).alloc (.cells D d)).alloc (.cells E e)).alloc (.cells F f)).heap.size := by simp only [size_alloc]; omega
  obtain ⟨p1, q1, r1⟩ := keepB hb h1
  have h2 : w.heap.size + 1 + 1 < ((((((w.alloc (.cells A a)).alloc (.cells B b)).alloc (.cells C c)).alloc (.cells D d)).alloc (.cells E e)).alloc (.cells F f)).heap.size := by simp only [size_alloc]; omega
  obtain ⟨p2, q2, r2⟩ := keepB hb h2
  have h3 : w.heap.size + 1 + 1 + 1 < ((((((w.alloc (.cells A a)).alloc (.cells B b)).alloc (.cells C c)).alloc (.cells D d)).alloc (.cells E e)).alloc (.cells F f)).heap.size := by simp only [size_alloc]; omega
  obtain ⟨p3, q3, r3⟩ := keepB hb h3
  have h4 : w.heap.size + 1 + 1 + 1 + 1 < ((((((w.alloc (.cells A a)).alloc (.cells B b)).alloc (.cells C c)).alloc (.cells D d)).alloc (.cells E e)).alloc (.cells F f)).heap.size := by simp only [size_alloc]; omega
  obtain ⟨p4, q4, r4⟩ := keepB hb h4
  have h5 : w.heap.size + 1 + 1 + 1 + 1 + 1 < ((((((w.alloc (.cells A a)).alloc (.cells B b)).alloc (.cells C c)).alloc (.cells D d)).alloc (.cells E e)).alloc (.cells F f)).heap.size := by simp only [size_alloc]; omega
  obtain ⟨p5, q5, r5⟩ := keepB hb h5
  refine ⟨fun o => (p0 o).trans ?_, fun o => (q0 o).trans ?_, r0, fun o => (p1 o).trans ?_, fun o => (q1 o).trans ?_, r1, fun o => (p2 o).trans ?_, fun o => (q2 o).trans ?_, r2, fun o => (p3 o).trans ?_, fun o => (q3 o).trans ?_, r3, fun o => (p4 o).trans ?_, fun o => (q4 o).trans ?_, r4, fun o => (p5 o).trans ?_, fun o => (q5 o).trans ?_, r5, ?_⟩
  · rw [oldCell _ _ (by simp only [size_alloc]; omega), oldCell _ _ (by simp only [size_alloc]; omega), oldCell _ _ (by simp only [size_alloc]; omega), oldCell _ _ (by simp only [size_alloc]; omega), oldCell _ _ (by simp only [size_alloc]; omega)]; exact newCell _ _ _ o
  · rw [oldFrozen _ _ (by simp only [size_alloc]; omega), oldFrozen _ _ (by simp only [size_alloc]; omega), oldFrozen _ _ (by simp only [size_alloc]; omega), oldFrozen _ _ (by simp only [size_alloc]; omega), oldFrozen _ _ (by simp only [size_alloc]; omega)]; exact newFrozen _ _ _ o
  · rw [oldCell _ _ (by simp only [size_alloc]; omega), oldCell _ _ (by simp only [size_alloc]; omega), oldCell _ _ (by simp only [size_alloc]; omega), oldCell _ _ (by simp only [size_alloc]; omega)]; have := newCell (w.alloc (.cells A a)) B b o; simpa only [size_alloc] using this
  · rw [oldFrozen _ _ (by simp only [size_alloc]; omega), oldFrozen _ _ (by simp only [size_alloc]; omega), oldFrozen _ _ (by simp only [size_alloc]; omega), oldFrozen _ _ (by simp only [size_alloc]; omega)]; have := newFrozen (w.alloc (.cells A a)) B b o; simpa only [size_alloc] using this
  · rw [oldCell _ _ (by simp only [size_alloc]; omega), oldCell _ _ (by simp only [size_alloc]; omega), oldCell _ _ (by simp only [size_alloc]; omega)]; have := newCell ((w.alloc (.cells A a)).alloc (.cells B b)) C c o; simpa only [size_alloc] using this
  · rw [oldFrozen _ _ (by simp only [size_alloc]; omega), oldFrozen _ _ (by simp only [size_alloc]; omega), oldFrozen _ _ (by simp only [size_alloc]; omega)]; have := newFrozen ((w.alloc (.cells A a)).alloc (.cells B b)) C c o; simpa only [size_alloc] using this
  · rw [oldCell _ _ (by simp only [size_alloc]; omega), oldCell _ _ (by simp only [size_alloc]; omega)]; have := newCell (((w.alloc (.cells A a)).alloc (.cells B b)).alloc (.cells C c)) D d o; simpa only [size_alloc] using this
  · rw [oldFrozen _ _ (by simp only [size_alloc]; omega), oldFrozen _ _ (by simp only [size_alloc]; omega)]; have := newFrozen (((w.alloc (.cells A a)).alloc (.cells B b)).alloc (.cells C c)) D d o; simpa only [size_alloc] using this
  · rw [oldCell _ _ (by simp only [size_alloc]; omega)]; have := newCell ((((w.alloc (.cells A a)).alloc (.cells B b)).alloc (.cells C c)).alloc (.cells D d)) E e o; simpa only [size_alloc] using this
  · rw [oldFrozen _ _ (by simp only [size_alloc]; omega)]; have := newFrozen ((((w.alloc (.cells A a)).alloc (.cells B b)).alloc (.cells C c)).alloc (.cells D d)) E e o; simpa only [size_alloc] using this
  · have := newCell (((((w.alloc (.cells A a)).alloc (.cells B b)).alloc (.cells C c)).alloc (.cells D d)).alloc (.cells E e)) F f o; simpa only [size_alloc] using this
  · have := newFrozen (((((w.alloc (.cells A a)).alloc (.cells B b)).alloc (.cells C c)).alloc (.cells D d)).alloc (.cells E e)) F f o; simpa only [size_alloc] using this
  · exact (((((((Below.refl _ w).alloc (Nat.le_refl _) _).alloc (by simp only [size_alloc]; omega) _).alloc (by simp only [size_alloc]; omega) _).alloc (by simp only [size_alloc]; omega) _).alloc (by simp only [size_alloc]; omega) _).alloc (by simp only [size_alloc]; omega) _).trans (hb.mono (by simp only [size_alloc]; omega))

/-- What a result's variable holds at the end. -/
def RVal (P : Program) (tmps : Array Value) (w : World) (rv : ResultVar) (v : Value) : Prop :=
  match rv with
  | .tmp t => tmps.getD t undef = v
  | .cell a T => ∃ b, tmps.getD a undef = .pointer (some ⟨b, 0, none⟩) ∧ (loadVar T ⟨b, 0, none⟩).run P w = .ok v w

theorem RVal.struct {P : Program} {tmps : Array Value} {w : World} {a : Nat} {T : TypeId} {n : Nat} {d : TypeDesc} {cs : Array Value} (ht : tmps.getD a undef = .pointer (some ⟨n, 0, none⟩)) (hc : ∀ o, w.cell? ⟨n, o, none⟩ = cs[o]?)
    (hu : P.underlying T = some d) (hd : d.isRow = true) (hi : (P.info? T).map (·.size) = some cs.size) : RVal P tmps w (.cell a T) (.agg cs) :=
  ⟨n, ht, by
    have := run_loadVar_mid (P := P) w n 0 T cs.toList d (fun j v hv => by rw [Nat.zero_add, hc j]; simpa using hv) hu hd (by simpa using hi)
    simpa using this⟩

def rdR (tmps : Array Value) : ResultVar → Sem Value
  | .tmp t => pure (tmps.getD t undef)
  | .cell a t => do loadVar t (← asAddr (tmps.getD a undef))
theorem rval_run {P : Program} {tmps : Array Value} {w : World} {rv : ResultVar} {v : Value} (h : RVal P tmps w rv v) : (rdR tmps rv).run P w = .ok v w := by
  cases rv with
  | tmp t => simp only [RVal] at h; simp [rdR, h]
  | cell a T =>
    obtain ⟨b, h1, h2⟩ := h
    simp only [rdR, h1, Sem.run_bind, asAddr, Sem.run_pure, Result.andThen_ok, h2]
theorem results_rd (fn : Func) (tmps : Array Value) : results fn tmps = (do
  let vs ← fn.results.mapM (rdR tmps)
  pure (if h : vs.size = 1 then vs[0] else .tuple vs)) := rfl
theorem results1 {P : Program} {fn : Func} {tmps : Array Value} {w : World} {r0 : ResultVar} {v0 : Value} (h : fn.results = #[r0]) (h0 : RVal P tmps w r0 v0) : (results fn tmps).run P w = .ok v0 w := by
  have e0 := rval_run h0
  simp [results_rd, h, e0]
theorem results2 {P : Program} {fn : Func} {tmps : Array Value} {w : World} {r0 r1 : ResultVar} {v0 v1 : Value} (h : fn.results = #[r0, r1]) (h0 : RVal P tmps w r0 v0) (h1 : RVal P tmps w r1 v1) : (results fn tmps).run P w = .ok (.tuple #[v0, v1]) w := by
  have e0 := rval_run h0
  have e1 := rval_run h1
  simp [results_rd, h, e0, e1]
theorem results3 {P : Program} {fn : Func} {tmps : Array Value} {w : World} {r0 r1 r2 : ResultVar} {v0 v1 v2 : Value} (h : fn.results = #[r0, r1, r2]) (h0 : RVal P tmps w r0 v0) (h1 : RVal P tmps w r1 v1) (h2 : RVal P tmps w r2 v2) : (results fn tmps).run P w = .ok (.tuple #[v0, v1, v2]) w := by
  have e0 := rval_run h0
  have e1 := rval_run h1
  have e2 := rval_run h2
  simp [results_rd, h, e0, e1, e2]
end Bk
