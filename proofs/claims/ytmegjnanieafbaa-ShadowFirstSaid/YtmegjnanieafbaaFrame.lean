/-
  From a law's contract to its row: the arguments are opened, and read behind the call as they read before.
-/
import Derived.Test.YtmegjnanieafbaaRows
import Derived.Test.YtmegjnanieafbaaSl
import Derived.ProofKit
import Derived.Deep.Slices
import Derived.Lib.SmallJoins
namespace Go.Proofs.Ytmegjnanieafbaa
open Go.ChangeShapes Go.WideShapes Go.ChangeAt Go.RowKit Go.Joins Go.Deep Bk

theorem Try.own : ownKnob Try.prog.godebug = none := by kernel_rfl
theorem Try.laidOut : laidOutB Try.prog = true := by kernel_rfl
theorem cellsEntry : Try.prog.cellsOf 25 = 4 := by kernel_rfl

section
variable {H : Type} {enc : TypeId × Value → H} {w : World}

/-- Every argument reads as it did. -/
theorem all_below {W W' : World} (hb : Below W.heap.size W W') : ∀ (ts : List TypeId) (vs : List Value) (ds : List (DataW H)) (ps : List MemPlace), (∀ t ∈ ts, Try.prog.readableRec t = true ∧ t < Try.prog.types.size) →
    DataW.TrodAll enc Try.prog W 0 (fun _ => true) true ts vs ds ps → (∀ x ∈ ps, x.block < W.heap.size) → DataW.TrodAll enc Try.prog W' 0 (fun b => decide (b < W.heap.size)) true ts vs ds ps
  | [], vs, ds, ps, _, h, _ => by
    obtain ⟨rfl, rfl, rfl⟩ := trodAll_nil h
    exact trodAll_mk0
  | t :: ts, vs, ds, ps, hr, h, hlt => by
    obtain ⟨v, vs', d, ds', p, q, rfl, rfl, rfl, h1, h2⟩ := trodAll_cons h
    obtain ⟨r1, r2⟩ := hr t (by simp)
    exact trodAll_cons_mk (Below.trod Try.laidOut r1 r2 h1 hb (fun x hx => hlt x (by simp [hx]))) (all_below hb ts vs' ds' q (fun t' ht' => hr t' (by simp [ht'])) h2 (fun x hx => hlt x (by simp [hx])))

/-- What the row asks of the end of a law. -/
theorem law_post {f : Func} {s : ChangeSpec} {W W' : World} {args : Array Value} {ds gs : List (DataW H)} {before : List MemPlace} (hW : DataW.Whole enc Try.prog f.params.toList s.vars false W args.toList ds gs before)
    (hv : s.vars = []) (hres : (s.fn H (ds ++ [])).results = [.lit (.bool true)]) (hargs : (s.fn H (ds ++ [])).args = ds) (hvs : (s.fn H (ds ++ [])).vars = []) (hR : f.resultTypes = #[4])
    (hr : ∀ t ∈ f.params.toList, Try.prog.readableRec t = true ∧ t < Try.prog.types.size) (hb : Below W.heap.size W W') :
    s.post enc Try.prog f false true false false W args (.bool true) W' := by
  have hlt := hW.lt
  have hW' := hW
  obtain ⟨p, q, hA, hV, rfl, _, _⟩ := hW
  rw [hv] at hV
  obtain ⟨rfl, rfl⟩ := trodVars_none hV
  refine ⟨ds, [], p ++ [], [], p, [], hW', ?_, ?_, ?_, hb.frame _, fun h => by cases h⟩
  · rw [hres, hR]
    exact trodAll_mk1 (shut_bool Try.underlying4 true)
  · rw [hargs]
    exact all_below hb _ _ _ _ hr hA (fun x hx => hlt x (by simp [hx]))
  · rw [hv, hvs]
    exact rfl

theorem spot_none {a : Addr} {v : Value} (h : w.cell? a = some v) : a.spot = none := by
  unfold World.cell? at h
  split at h
  · cases hs : a.spot with
    | none => rfl
    | some s => simp [hs] at h
  · cases h
theorem add_at {a : Addr} (h : a.spot = none) (k : Nat) : a.add k = ⟨a.block, a.off + k, none⟩ := by
  obtain ⟨b, o, s⟩ := a
  simp only at h
  subst h
  unfold Addr.add
  split <;> simp_all

/-- An entry that came in. -/
theorem open_entry {n : Nat} {base : Nat} {spare : Nat → Bool} {held : Bool} {cs : List Value} {x : DataW H × List MemPlace} (h : DataW.trod enc Try.prog w base spare held n 25 cs = some x) :
    ∃ e : Ent, cs = e.cells ∧ e.ok ∧ (Lit.int .i64 e.s).wf = true := by
  obtain ⟨y0, y1, y2, y3, m, _, hlen, h0, h1, h2, h3⟩ := trod_struct4 Try.underlying25 h
  rw [cellsEntry] at hlen
  match cs, hlen with
  | [c0, c1, c2, c3], _ =>
    have k9 : Try.prog.cellsOf 9 = 1 := by kernel_rfl
    have k4 : Try.prog.cellsOf 4 = 1 := by kernel_rfl
    have k2 : Try.prog.cellsOf 2 = 1 := by kernel_rfl
    simp only [k9, k4, k2, List.drop_zero, List.drop_succ_cons, List.take_succ_cons, List.take_zero] at h0 h1 h2 h3
    obtain ⟨sk, e0, _, b0⟩ := DataW.trod_string Try.underlying9 h0
    obtain ⟨sv, e1, _, b1⟩ := DataW.trod_string Try.underlying9 h1
    obtain ⟨bd, e2, _⟩ := DataW.trod_bool Try.underlying4 h2
    obtain ⟨is, e3, _, b3⟩ := DataW.trod_int Try.underlying2 h3
    simp at e0 e1 e2 e3
    subst e0 e1 e2 e3
    exact ⟨⟨sk, sv, bd, is⟩, rfl, ⟨b0, b1⟩, b3⟩
theorem open_entry_val {t : TypeId} {r : Reach} {b0 base : Nat} {spare : Nat → Bool} {held : Bool} {v : Value} {d : DataW H} {p : List MemPlace} (ht : t = 25) (hv : Value.okWide Try.prog w r b0 t v) (h : DataW.Trod enc Try.prog w base spare held t v d p) : ∃ e : Ent, v = e.val ∧ e.ok ∧ (Lit.int .i64 e.s).wf = true := by
  subst ht
  obtain ⟨cs, rfl, hsz⟩ := okWide_struct Try.underlying25 hv
  obtain ⟨fuel, hf⟩ := h
  obtain ⟨e, h1, h2, h3⟩ := open_entry hf
  refine ⟨e, ?_, h2, h3⟩
  simp only [Value.cells] at h1
  rw [Ent.val, show cs = e.cells.toArray from by rw [← h1]]
  rfl
/-- A slice of entries that came in. -/
theorem open_entries {t : TypeId} {r : Reach} {b0 base : Nat} {held : Bool} {v : Value} {d : DataW H} {p : List MemPlace} (ht : t = 33) (hv : Value.okWide Try.prog w r b0 t v) (h : DataW.Trod enc Try.prog w base (fun _ => true) held t v d p) :
    ∃ l : List Ent, EntSl w v l ∧ ∀ x ∈ l, x.ok := by
  subst ht
  obtain ⟨fuel, hf⟩ := h
  obtain ⟨a0, len0, cap0, rfl⟩ := okWide_slice Try.underlying33 hv
  rcases open_slice Try.underlying33 hf with ⟨hcs, _⟩ | ⟨a, len, cap, m, n, D, Pl, hcs, hb, hl, hm, hmm, _, hx⟩
  · simp [Value.cells] at hcs
    obtain ⟨rfl, rfl, rfl⟩ := hcs
    exact ⟨[], ⟨none, 0, rfl, by simp, fun h => absurd rfl h⟩, by simp⟩
  · simp [Value.cells] at hcs
    obtain ⟨rfl, rfl, rfl⟩ := hcs
    simp only [if_true] at hmm
    subst hmm
    have hall : ∀ i, i < len0 → ∃ e : Ent, (∀ j, j < 4 → w.cell? (a.add (i * 4 + j)) = e.cells[j]?) ∧ e.ok := by
      intro i hi
      obtain ⟨cs', h1, h2⟩ := hx i (by omega)
      obtain ⟨e, rfl, h3, _⟩ := open_entry h2
      refine ⟨e, fun j hj => ?_, h3⟩
      rw [cellsEntry] at h1
      have := (World.cells?_some h1).2.2 j hj
      rw [Deep.add_add] at this
      exact this
    have : Inhabited Ent := ⟨⟨⟨#[]⟩, ⟨#[]⟩, false, 0⟩⟩
    obtain ⟨f, hf'⟩ := choose_lt hall
    refine ⟨(List.range len0).map f, ⟨some a, m, by simp, by simp only [maxLen] at hm; simp; omega, fun hne => ?_⟩, fun x hx => ?_⟩
    · have h0 : 0 < len0 := by
        rcases Nat.eq_zero_or_pos len0 with h | h
        · subst h; exact absurd rfl hne
        · exact h
      have hspot : a.spot = none := by
        have h1 := (hf' 0 h0).1 0 (by omega)
        rw [show 0 * 4 + 0 = 0 from rfl, show a.add 0 = a from by simp [Addr.add]] at h1
        exact spot_none (w := w) (v := .string (f 0).k) (by rw [h1]; rfl)
      refine ⟨a.block, a.off, ?_, fun i x hx => ?_⟩
      · obtain ⟨b, o, s⟩ := a
        simp only at hspot
        subst hspot
        rfl
      · have hi : i < len0 := by have := (List.getElem?_eq_some_iff.1 hx).1; simpa using this
        obtain rfl : f i = x := by
          rw [List.getElem?_map, List.getElem?_range hi] at hx
          simpa using hx
        have key : ∀ j, j < 4 → w.cell? ⟨a.block, a.off + i * 4 + j, none⟩ = (f i).cells[j]? := fun j hj => by
          have h1 := (hf' i hi).1 j hj
          rw [add_at hspot, ← Nat.add_assoc] at h1
          exact h1
        exact ⟨key 0 (by omega), key 1 (by omega), key 2 (by omega), key 3 (by omega)⟩
    · simp only [List.mem_map, List.mem_range] at hx
      obtain ⟨i, hi, rfl⟩ := hx
      exact (hf' i hi).2
end
end Go.Proofs.Ytmegjnanieafbaa
