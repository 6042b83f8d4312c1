/-
  Filter and Count of the program.
-/
import Derived.Test.YtmegjnanieafbaaShW
namespace Go.Proofs.Ytmegjnanieafbaa
open Go.RowKit Bk

set_option maxHeartbeats 1000000 in
theorem walkNone (a : Option Addr) (ca : Nat) (bot : Bool) (fv : Value) (w : World) :
    Calls Try.prog 29 #[.slice a 0 ca, .bool bot, fv] w fun e w' => e = .returned (.tuple #[.int .i64 0, .int .i64 0]) ∧ Below w.heap.size w w' := by
  go_enter Try.func29, Try.ntmps29
  go_wp2_with (go_at_call 13; refine (begin_cells _ _).mono ?_; rintro e w1 ⟨rfl, hb⟩)
  go_loop [21] (fun i => i = .int .i64 0) (fun _ => 0)
  case atStart => rfl
  case round =>
    subst hrel
    go_wp2
    go_ret2
    exact ⟨rfl, hb.alloc hb.size _⟩

theorem walkAny {l : List Ent} {v : Value} {bot : Bool} {f : Nat} {cap : Value} {w : World} {I : List (Nat × Ent) → Option Nat → World → Prop} (hI : Work f cap w I) (h0 : I [] none w) (hok : ∀ x ∈ l, x.ok)
    (hv : EntSl w v l) (hread : ∀ W d row, I d row W → EntSl W v l) :
    Calls Try.prog 29 #[v, .bool bot, .func (.func f) #[] #[cap]] w (WalkPost bot l I) := by
  obtain ⟨a, ca, rfl, hl, hA⟩ := hv
  by_cases hL : 20000 < l.length
  · exact (walkLong l a ca bot _ w hl hL).mono fun e w' ⟨h1, h2⟩ => ⟨-1, 3, 0, none, .inl ⟨hL, rfl, rfl, rfl⟩, h1, h2 ▸ h0⟩
  · by_cases hne : l = []
    · subst hne
      exact (walkNone a ca bot _ w).mono fun e w' ⟨h1, h2⟩ => ⟨0, 0, 0, none, .inr (.inr ⟨by simp, rfl, rfl, rfl, fun j hj => absurd hj (by omega)⟩), h1, hI.keep _ _ _ _ h0 h2 (fun k hk => by cases hk)⟩
    · obtain ⟨ba, oa, rfl, hA'⟩ := hA hne
      refine walkFull l ba oa ca bot f cap w I hI h0 (by omega) hok (fun W d row hW => ?_)
      obtain ⟨a', ca', hv', _, hB⟩ := hread W d row hW
      obtain ⟨b', o', ha', hB'⟩ := hB hne
      simp only [Value.slice.injEq] at hv'
      rw [← hv'.1] at ha'
      simp only [Option.some.injEq, Addr.mk.injEq, and_true] at ha'
      obtain ⟨rfl, rfl⟩ := ha'
      exact hB'

theorem RVal.one {P : Program} {tmps : Array Value} {w : World} {a : Nat} {T : TypeId} {n : Nat} {d : TypeDesc} {v : Value} (ht : tmps.getD a undef = .pointer (some ⟨n, 0, none⟩)) (hc : w.cell? ⟨n, 0, none⟩ = some v)
    (hu : P.underlying T = some d) (hd : d.isRow = false) : RVal P tmps w (.cell a T) v :=
  ⟨n, ht, by cases d <;> simp_all [go_sem, loadVar, isAgg, run_underlying hu, TypeDesc.isRow]⟩
/-- What the collecting closure is worth. -/
def FI (w0 : World) (d : List (Nat × Ent)) (row : Option Nat) (W : World) : Prop :=
  ∃ u, W.heap[w0.heap.size]? = some (.cells #[u] 33 (0, 0)) ∧ W.ownsRow (w0.heap.size + 1) 25 4 u (keptOf d).length (entsCells (keptOf d)) ∧ row = u.ownBlock ∧ Below w0.heap.size w0 W
theorem owns_same {base e size n : Nat} {v : Value} {xs : List Value} {w w' : World} (h : w.ownsRow base e size v n xs) (hk : ∀ k, v.ownBlock = some k → w'.heap[k]? = w.heap[k]?) : w'.ownsRow base e size v n xs := by
  refine ⟨h.1, ?_⟩
  rcases h.2 with h | ⟨g, cap, cur, rfl, hb, hg, r⟩
  · exact .inl h
  · exact .inr ⟨g, cap, cur, rfl, hb, (hk g rfl).trans hg, r⟩

theorem owns_slice {base e size n : Nat} {v : Value} {xs : List Value} {w : World} (h : w.ownsRow base e size v n xs) : ∃ a m c, v = .slice a m c := by
  rcases h.2 with ⟨h, _⟩ | ⟨g, cap, cur, h, _⟩
  · exact ⟨_, _, _, h⟩
  · exact ⟨_, _, _, h⟩
theorem filterWork (w0 : World) (p : World) (hp : p.heap.size = w0.heap.size + 1) : Work 30 (.pointer (some ⟨w0.heap.size, 0, none⟩)) p (FI w0) where
  call := fun args w => by kernel_rfl
  keep := by
    rintro d row W W' ⟨u, h1, h2, rfl, h4⟩ hb hr
    exact ⟨u, (hb.block _ (by omega)).trans h1, owns_same h2 hr, rfl, h4.trans (hb.mono (by omega))⟩
  lt := by
    rintro d row W ⟨u, h1, h2, rfl, h4⟩ k hk
    have := h2.lt k hk
    omega
  step := by
    rintro d row W n ⟨xk, xv, xd, xs⟩ ⟨u, h1, h2, rfl, h4⟩ hn hd
    have hsz := h4.size
    by_cases h0 : n = 0
    · subst h0
      refine (filterKept xk xv xd xs W w0.heap.size u (keptOf d) h1 h2 (by have := keptOf_length d; omega)).mono ?_
      rintro e W' ⟨he, hf⟩
      obtain ⟨v', c1, c2, c3⟩ := hf.cell
      refine ⟨he, v'.ownBlock, ⟨v', c1, ?_, rfl, ?_⟩, ?_, hf.size, fun k hk1 hk2 hk3 => hf.rest k hk2 (by omega) hk3⟩
      · rw [keptOf_snoc, if_pos rfl]; exact c2
      · refine h4.trans ⟨hf.os, hf.tape, hf.output, hf.size, fun k hk => hf.rest k (by omega) (by omega) (fun e => ?_)⟩
        have := h2.lt k e.symm
        omega
      · exact c3
    · refine (filterOther n (by omega) xk xv xd xs W _).mono ?_
      rintro e W' ⟨he, hb⟩
      refine ⟨he, u.ownBlock, ⟨u, (hb.block _ (by have := lt_of_block h1; omega)).trans h1, ?_, rfl, h4.trans (hb.mono (by omega))⟩, .inl rfl, hb.size, fun k _ hk2 _ => hb.block k hk2⟩
      rw [keptOf_snoc, if_neg h0]
      exact owns_same h2 (fun k hk => hb.block k (h2.lt k hk).2)

def outOf (bot : Bool) (l : List Ent) (E : Int) (m : Nat) : List Ent := if E = 0 then keptOf (fatesTo bot l m) else []
/-- What Filter returns. -/
def FilterPost (bot : Bool) (l : List Ent) (w : World) (e : Ending) (w' : World) : Prop :=
  ∃ v i E m, WalkEnd bot l i E m ∧ e = .returned (.tuple #[v, .int .i64 i, .int .i64 E]) ∧ EntSl w' v (outOf bot l E m) ∧ Below w.heap.size w w'

set_option maxHeartbeats 1000000 in
theorem filterAny {l : List Ent} {v : Value} (bot : Bool) (w : World) (hok : ∀ x ∈ l, x.ok) (hv : EntSl w v l) :
    Calls Try.prog 18 #[v, .bool bot] w (FilterPost bot l w) := by
  have HV := Lib.hid hv
  have HOK := Lib.hid hok
  clear hv hok
  go_enter Try.func18, Try.ntmps18
  go_wp2_with (fail)
  have hsl : EntSl (w.alloc (.cells #[.slice none 0 0] 33)) v l := HV.out.mono ((Below.refl _ _).alloc (Nat.le_refl _) _)
  have h0 : FI w [] none (w.alloc (.cells #[.slice none 0 0] 33)) := ⟨.slice none 0 0, heap_alloc_new w _, World.ownsRow_nil _ _ _ _, rfl, (Below.refl _ _).alloc (Nat.le_refl _) _⟩
  refine (walkAny (I := FI w) (l := l) (filterWork w _ (by simp)) h0 HOK.out hsl (fun W d row ⟨u, _, _, _, hW⟩ => HV.out.mono hW)).mono ?_
  rintro e w1 ⟨i, E, m, row, hend, rfl, u, h1, h2, h3, h4⟩
  obtain ⟨ua, un, uc, rfl⟩ := owns_slice h2
  have HEND := Lib.hid hend
  have H1 := Lib.hid h1
  have H2 := Lib.hid h2
  have hcell := cell_of_one h1
  have hfree := free_of_one h1
  clear hend h1 h2 h3 hsl h0
  by_cases hE : E = 0
  · subst hE
    go_wp2
    refine bodyPost_ret (v := .tuple #[.slice ua un uc, .int .i64 0, .int .i64 0]) (results3 rfl (RVal.one rfl (cell_of_one (one_setCell H1.out)) Try.underlying33 rfl) rfl rfl) rfl ⟨_, 0, 0, m, ?_, rfl, ?_, ?_⟩
    · rcases HEND.out with ⟨_, _, h, _⟩ | ⟨_, _, _, _, h, _⟩ | h
      · exact absurd h (by decide)
      · exact absurd rfl h
      · exact .inr (.inr ⟨h.1, h.2.1, rfl, rfl, h.2.2.2.2⟩)
    · exact EntSl.of_owns (ownsRow_setCell_below H2.out (by simp) _)
    · exact h4.setCell (Nat.le_refl _) _
  · have hne : (E != 0) = true := by simpa using hE
    have HE := Lib.hid hE
    clear hE
    go_wp2
    refine bodyPost_ret (v := .tuple #[.slice none 0 0, .int .i64 i, .int .i64 E]) (results3 rfl (RVal.one rfl (cell_of_one (one_setCell H1.out)) Try.underlying33 rfl) rfl rfl) rfl ⟨_, i, E, m, HEND.out, rfl, ?_, ?_⟩
    · rw [outOf, if_neg HE.out]
      exact ⟨none, 0, rfl, by simp, fun h => absurd rfl h⟩
    · exact h4.setCell (Nat.le_refl _) _

/-- What the counting closure is worth. -/
def CI (w0 : World) (d : List (Nat × Ent)) (row : Option Nat) (W : World) : Prop :=
  W.heap[w0.heap.size]? = some (.cells #[.int .i64 (cntOf 0 d), .int .i64 (cntOf 1 d), .int .i64 (cntOf 2 d)] 38 (0, 0)) ∧ row = none ∧ Below w0.heap.size w0 W ∧ d.length ≤ 20000
theorem countWork (w0 : World) (p : World) (hp : p.heap.size = w0.heap.size + 1) : Work 31 (.pointer (some ⟨w0.heap.size, 0, none⟩)) p (CI w0) where
  call := fun args w => by kernel_rfl
  keep := by
    rintro d row W W' ⟨h1, rfl, h4, h5⟩ hb _
    exact ⟨(hb.block _ (by omega)).trans h1, rfl, h4.trans (hb.mono (by omega)), h5⟩
  lt := by
    rintro d row W ⟨h1, rfl, h4, _⟩ k hk
    cases hk
  step := by
    rintro d row W n ⟨xk, xv, xd, xs⟩ ⟨h1, rfl, h4, _⟩ hn hd
    have r0 := cntOf_range 0 d
    have r1 := cntOf_range 1 d
    have r2 := cntOf_range 2 d
    refine (countStep n (by omega) xk xv xd xs W w0.heap.size _ _ _ h1 (by omega) (by omega) (by omega)).mono ?_
    rintro e W' ⟨he, c1, c2, c3⟩
    refine ⟨he, none, ⟨?_, rfl, h4.trans c2, by simp; omega⟩, .inl rfl, c2.size, fun k hk1 hk2 _ => c3 k (by omega)⟩
    rw [cntOf_snoc, cntOf_snoc, cntOf_snoc]
    exact c1

/-- What Count returns: as many as have each fate. -/
def cntVal (bot : Bool) (l : List Ent) (E : Int) (m : Nat) : Value :=
  if E = 0 then .agg #[.int .i64 (cntOf 0 (fatesTo bot l m)), .int .i64 (cntOf 1 (fatesTo bot l m)), .int .i64 (cntOf 2 (fatesTo bot l m))] else .agg #[.int .i64 0, .int .i64 0, .int .i64 0]
def CountPost (bot : Bool) (l : List Ent) (w : World) (e : Ending) (w' : World) : Prop :=
  ∃ i E m, WalkEnd bot l i E m ∧ e = .returned (.tuple #[cntVal bot l E m, .int .i64 i, .int .i64 E]) ∧ Below w.heap.size w w'

set_option maxHeartbeats 1000000 in
theorem countAny {l : List Ent} {v : Value} (bot : Bool) (w : World) (hok : ∀ x ∈ l, x.ok) (hv : EntSl w v l) :
    Calls Try.prog 20 #[v, .bool bot] w (CountPost bot l w) := by
  have HV := Lib.hid hv
  have HOK := Lib.hid hok
  clear hv hok
  go_enter Try.func20, Try.ntmps20
  go_wp2_with (fail)
  have hsl : EntSl (w.alloc (.cells #[.int .i64 0, .int .i64 0, .int .i64 0] 38)) v l := HV.out.mono ((Below.refl _ _).alloc (Nat.le_refl _) _)
  have h0 : CI w [] none (w.alloc (.cells #[.int .i64 0, .int .i64 0, .int .i64 0] 38)) := ⟨heap_alloc_new w _, rfl, (Below.refl _ _).alloc (Nat.le_refl _) _, by simp⟩
  refine (walkAny (I := CI w) (l := l) (countWork w _ (by simp)) h0 HOK.out hsl (fun W d row ⟨_, _, hW, _⟩ => HV.out.mono hW)).mono ?_
  rintro e w1 ⟨i, E, m, row, hend, rfl, h1, h3, h4, _⟩
  have HEND := Lib.hid hend
  have H1 := Lib.hid h1
  obtain ⟨c0, f0, z0⟩ := blkAt h1
  have hcv : cntVal bot l 0 m = .agg #[.int .i64 (cntOf 0 (fatesTo bot l m)), .int .i64 (cntOf 1 (fatesTo bot l m)), .int .i64 (cntOf 2 (fatesTo bot l m))] := if_pos rfl
  have HCV := Lib.hid hcv
  clear hend h1 h3 hsl h0 hcv
  revert H1 HCV c0
  generalize cntOf 0 (fatesTo bot l m) = n0
  generalize cntOf 1 (fatesTo bot l m) = n1
  generalize cntOf 2 (fatesTo bot l m) = n2
  intro H1 c0 HCV
  by_cases hE : E = 0
  · subst hE
    go_wp2
    refine bodyPost_ret (v := .tuple #[.agg #[.int .i64 n0, .int .i64 n1, .int .i64 n2], .int .i64 0, .int .i64 0]) (results3 rfl (RVal.struct rfl (cellSet (cellSet (cellSet c0 _ _) _ _) _ _) Try.underlying38 rfl (by kernel_rfl)) rfl rfl) rfl ⟨0, 0, m, ?_, by rw [HCV.out], ?_⟩
    · rcases HEND.out with ⟨_, _, h, _⟩ | ⟨_, _, _, _, h, _⟩ | h
      · exact absurd h (by decide)
      · exact absurd rfl h
      · exact .inr (.inr ⟨h.1, h.2.1, rfl, rfl, h.2.2.2.2⟩)
    · exact ((h4.setCell (p := ⟨w.heap.size, 0, none⟩) (Nat.le_refl _) _).setCell (p := ⟨w.heap.size, 1, none⟩) (Nat.le_refl _) _).setCell (p := ⟨w.heap.size, 2, none⟩) (Nat.le_refl _) _
  · have hne : (E != 0) = true := by simpa using hE
    have HE := Lib.hid hE
    clear hE
    go_wp2
    refine bodyPost_ret (v := .tuple #[.agg #[.int .i64 0, .int .i64 0, .int .i64 0], .int .i64 i, .int .i64 E]) (results3 rfl (RVal.struct rfl (cellSet (cellSet (cellSet c0 _ _) _ _) _ _) Try.underlying38 rfl (by kernel_rfl)) rfl rfl) rfl ⟨i, E, m, HEND.out, by rw [cntVal, if_neg HE.out], ?_⟩
    exact ((h4.setCell (p := ⟨w.heap.size, 0, none⟩) (Nat.le_refl _) _).setCell (p := ⟨w.heap.size, 1, none⟩) (Nat.le_refl _) _).setCell (p := ⟨w.heap.size, 2, none⟩) (Nat.le_refl _) _
end Go.Proofs.Ytmegjnanieafbaa
