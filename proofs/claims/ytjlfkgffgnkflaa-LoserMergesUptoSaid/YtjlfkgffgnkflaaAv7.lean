/-
  An abstract reading of values and memory: what is reckoned of an operation that reads or makes memory is so.
-/
import Derived.Test.YtjlfkgffgnkflaaAv6
import Derived.IntWalk
import Derived.Laws.StructEq
import Derived.Laws.MakeOwn
namespace Av
open Go

def SubH (h0 h : List AObj) : Prop := ∀ (id : Nat) (o : AObj), h0[id]? = some o → o.alive = true → h[id]? = some o
theorem SubH.refl (h : List AObj) : SubH h h := fun _ _ e _ => e

/-- A reckoning gives a value, and may have made the block nid. -/
def Gv (P : Program) (e : Sem Value) (s : St) (nid : Nat) (v : AV) (ob : Option AObj) : Prop :=
  ∃ cv s', e.run P s.w = .ok cv s'.w ∧ Step s s' ∧ Ok s' ∧ R s' v cv ∧ s'.h = putO s.h nid ob
theorem Gv.same {P : Program} {e : Sem Value} {s : St} {nid : Nat} {v : AV} {cv : Value} (hok : Ok s) (hr : e.run P s.w = .ok cv s.w) (hv : R s v cv) : Gv P e s nid v none :=
  ⟨cv, s, hr, Step.refl s, hok, hv, rfl⟩
theorem Gv.new {P : Program} {e : Sem Value} {s : St} {nid : Nat} {v : AV} {ob : AObj} {cv : Value} {w' : World} (hok : Ok s) (hf : Free s.h nid) (hr : e.run P s.w = .ok cv w') (hw : Grew s.w w')
    (hb : ∀ b, blkOf cv = some b → s.w.heap.size ≤ b) (ho : ObjR (s.new nid ob cv w') nid ob) (hv : R (s.new nid ob cv w') v cv) : Gv P e s nid v (some ob) :=
  ⟨cv, s.new nid ob cv w', hr, St.new_step hf hw hb, St.new_ok hok hf hw hb ho, hv, rfl⟩

section
variable {P : Program} {tb : Tb}

theorem tb_und (hT : TbOk P tb) {T : TypeId} {ti : TI} (h : lk tb T = some ti) : ti.Good P T := TI.good (hT T ti h)

theorem kind_agg {k : TK} {d : TypeDesc} (h : k.fits d = true) : isRowK k = d.isRow := by
  cases k <;> cases d <;> simp_all [TK.fits, isRowK]
theorem isAgg_run (hT : TbOk P tb) {T : TypeId} {ti : TI} (h : lk tb T = some ti) (w : World) : (isAgg T).run P w = .ok (isRowK ti.kind) w := by
  obtain ⟨d, hd, hk⟩ := (tb_und hT h).und
  rw [kind_agg hk]
  unfold isAgg
  rw [Sem.run_bind, run_underlying hd w]
  cases d <;> simp [TypeDesc.isRow]
theorem sizeOf_run (hT : TbOk P tb) {T : TypeId} {ti : TI} (h : lk tb T = some ti) (w : World) : (Go.sizeOf T).run P w = .ok ti.size w := by
  obtain ⟨i, z, hi, hs, _⟩ := (tb_und hT h).info
  simp [Go.sizeOf, typeInfo, hi, hs]
theorem zero_run (hT : TbOk P tb) {T : TypeId} {ti : TI} (h : lk tb T = some ti) (w : World) : ∃ z, (zeroValue T).run P w = .ok z w ∧ zf ti.zero z.cells.toList = true := by
  obtain ⟨i, z, hi, _, _, hz, hf⟩ := (tb_und hT h).info
  exact ⟨z, by simp [zeroValue, typeInfo, hi, hz], hf⟩

/-! ### New variables -/
theorem newVar_Gv {e : Sem Value} {s : St} (hok : Ok s) {nid : Nat} (hf : Free s.h nid) {T : TypeId} {cs : List AV} {v : Value} {vs : List Value} (hv : v.cells = vs.toArray) (hl : RL s cs vs) (h1 : ∀ u ∈ vs, u.oneCell' = true)
    (hr : e.run P s.w = .ok (.pointer (some ⟨s.w.heap.size, 0, none⟩)) (s.w.alloc (.cells v.cells T))) : Gv P e s nid (.ptr nid 0) (some (.cells T cs)) := by
  have hb : ∀ b, blkOf (.pointer (some ⟨s.w.heap.size, 0, none⟩)) = some b → s.w.heap.size ≤ b := by
    intro b hb; cases hb; exact Nat.le_refl _
  have hst := St.new_step (s := s) (nid := nid) hf (ob := .cells T cs) (v := .pointer (some ⟨s.w.heap.size, 0, none⟩)) (Grew.alloc s.w (.cells v.cells T)) hb
  refine Gv.new hok hf hr (Grew.alloc _ _) hb ?_ ?_
  · refine ⟨s.w.heap.size, vs, by simp only [St.new, upd_same], ?_, RL_mono hst cs vs hl, h1⟩
    simp only [St.new]
    rw [heap_alloc_new, hv]
  · simp only [R]
    refine ⟨?_, s.w.heap.size, rfl, fun T' cs' hc => by simp only [St.new, upd_same]⟩
    simp only [St.new, kn, put_same hf]
theorem alloc_Gv (hT : TbOk P tb) {s : St} (hok : Ok s) {nid : Nat} (hf : Free s.h nid) {T : TypeId} {v : AV} {ob : Option AObj} (h : (pAlloc tb nid T).Is v ob) (x : Value) : Gv P (Instr.alloc T true x) s nid v ob := by
  unfold pAlloc at h
  split at h
  · rename_i ti hl
    obtain ⟨rfl, rfl⟩ := h
    obtain ⟨z, hz, hzf⟩ := zero_run hT hl s.w
    obtain ⟨h1, h2⟩ := zf_RL (s := s) hzf
    refine newVar_Gv hok hf (v := z) rfl h1 h2 ?_
    simp [Instr.alloc, hz, newVar, newRow]
  · exact h.elim
theorem box_Gv {s : St} (hok : Ok s) {nid : Nat} (hf : Free s.h nid) {T : TypeId} {x : AV} {cx : Value} (hx : R s x cx) {v : AV} {ob : Option AObj} (h : (pBox nid T x).Is v ob) : Gv P (Instr.box T cx) s nid v ob := by
  unfold pBox at h
  split at h
  · rename_i cs hc
    obtain ⟨rfl, rfl⟩ := h
    obtain ⟨vs, h1, h2, h3⟩ := cellsOf_R hc hx
    refine newVar_Gv hok hf (v := cx) h1 h2 h3 ?_
    simp [Instr.box, newVar, newRow]
  · exact h.elim

/-! ### Moves -/
theorem own_nil {s : St} (hok : Ok s) {nid : Nat} (hf : Free s.h nid) {e : Sem Value} {E : TypeId} {t : Ty} (hr : e.run P s.w = .ok (.slice none 0 0) s.w) : Gv P e s nid (.own nid 0 0) (some (.arr E t [] false 0)) := by
  have hb : ∀ b, blkOf (.slice none 0 0) = some b → s.w.heap.size ≤ b := by intro b hb; cases hb
  refine Gv.new hok hf hr (Grew.refl _) hb ?_ ?_
  · refine ⟨[], ?_, by simp, by simp, by simp⟩
    simp only [St.new, upd_same]
    exact World.ownsRow_nil _ _ _ _
  · simp only [R]
    refine ⟨by simp only [St.new, kn, put_same hf], none, 0, rfl, fun T t l f g0 hc => ?_⟩
    simp only [St.new, put_same hf] at hc
    cases hc
    exact ⟨Nat.le_refl _, fun _ => ⟨Nat.le_refl _, 0, by simp only [St.new, upd_same]⟩⟩
theorem move_Gv {s : St} (hok : Ok s) {nid : Nat} (hf : Free s.h nid) {T : TypeId} {x : AV} {cx : Value} (hx : R s x cx) {v : AV} {ob : Option AObj} (h : (pMove tb nid T x).Is v ob) : Gv P (pure cx) s nid v ob := by
  unfold pMove at h
  split at h
  · simp only [R] at hx
    subst hx
    unfold pNil at h
    split at h
    · split at h
      · split at h
        · split at h
          · obtain ⟨rfl, rfl⟩ := h
            exact own_nil hok hf rfl
          · obtain ⟨rfl, rfl⟩ := h
            exact Gv.same hok rfl (by simp only [R])
        · obtain ⟨rfl, rfl⟩ := h
          exact Gv.same hok rfl (by simp only [R])
      · exact h.elim
    · exact h.elim
  · exact h.elim
  · obtain ⟨rfl, rfl⟩ := h
    exact Gv.same hok rfl hx
theorem pick_Gv {s : St} (hok : Ok s) {nid : Nat} {c a b : AV} {cc ca cb : Value} (hc : R s c cc) (ha : R s a ca) (hb : R s b cb) {v : AV} {ob : Option AObj} (h : (pPick c a b).Is v ob) :
    Gv P (do pure (if ← asBool cc then ca else cb)) s nid v ob := by
  unfold pPick at h
  split at h
  · simp only [R] at hc
    subst hc
    rcases h with ⟨rfl, rfl, rfl⟩ | ⟨rfl, rfl, rfl⟩
    · exact Gv.same hok (by simp [asBool]) ha
    · exact Gv.same hok (by simp [asBool]) hb
  · exact h.elim

/-! ### Loads -/
theorem RC_drop {s : St} {cs : List AV} {c : Nat → Option Value} (n : Nat) (h : RC s cs c) : RC s (cs.drop n) (fun j => c (n + j)) := by
  rcases Nat.lt_or_ge n cs.length with hn | hn
  · exact (RC_take_drop cs n c (Nat.le_of_lt hn) h).2
  · rw [List.drop_eq_nil_of_le hn]
    simp only [RC]
theorem load_RC (hT : TbOk P tb) {s : St} {T : TypeId} {ti : TI} (hl : lk tb T = some ti) {cs : List AV} {v : AV} (h : ldA ti cs = some v) {b o : Nat} (hc : RC s cs (fun j => s.w.cell? ⟨b, o + j, none⟩)) :
    ∃ cv, (loadVar T ⟨b, o, none⟩).run P s.w = .ok cv s.w ∧ R s v cv := by
  unfold ldA at h
  split at h
  · rename_i hk
    cases hb : Nat.ble ti.size cs.length with
    | false => rw [hb] at h; cases h
    | true =>
      rw [hb] at h
      cases h
      have hle := Nat.le_of_ble_eq_true hb
      obtain ⟨vs, h1, h2, h3⟩ := RC_vals (RC_take_drop cs ti.size _ hle hc).1
      have hlen : vs.length = ti.size := by rw [RL_vals h1, List.length_take, Nat.min_eq_left hle]
      obtain ⟨d, hd, hf⟩ := (tb_und hT hl).und
      obtain ⟨i, z, hi, hs, _⟩ := (tb_und hT hl).info
      refine ⟨.agg vs.toArray, run_loadVar_mid s.w b o T vs d h3 hd (by rw [← kind_agg hf]; exact hk) (by rw [hi, hlen]; simp [hs]), ?_⟩
      simp only [R]
      exact ⟨vs, rfl, h1, h2⟩
  · rename_i hk
    split at h
    · cases h
      obtain ⟨⟨u, h0, h1, h2⟩, _⟩ := hc
      refine ⟨u, ?_, h1⟩
      have h0 : s.w.cell? ⟨b, o, none⟩ = some u := h0
      simp [loadVar, isAgg_run hT hl, hk, h0]
    · cases h
theorem cells_RC {s : St} (hok : Ok s) {id : Nat} {T : TypeId} {cs : List AV} (h : s.h[id]? = some (.cells T cs)) : ∃ b, s.σ id = .pointer (some ⟨b, 0, none⟩) ∧ RC s cs (fun j => s.w.cell? ⟨b, j, none⟩) := by
  obtain ⟨b, vs, hσ, hh, hl, h1⟩ := hok.obj id _ h
  refine ⟨b, hσ, RC_of_RL hl h1 (fun j v hv => ?_)⟩
  rw [cell_of_row s.w b j _ T (0, 0) hh]
  simpa using hv
theorem arr_RC {s : St} (hok : Ok s) {id : Nat} {T : TypeId} {t : Ty} {l : List t.El} {f : Bool} {g : Nat} (h : s.h[id]? = some (.arr T t l f g)) {b len cap : Nat} (hσ : s.σ id = .slice (some ⟨b, 0, none⟩) len cap)
    {i : Nat} {x : t.El} (hx : l[i]? = some x) : RC s (flat t x) (fun j => s.w.cell? ⟨b, i * t.size + j, none⟩) := by
  obtain ⟨xs, hown, h1, hr, _⟩ := hok.obj id _ h
  rw [hσ] at hown
  have hil : i < l.length := (List.getElem?_eq_some_iff.1 hx).1
  refine RC_mono (Step.refl s) _ _ _ ?_ (RT_RC t x _ (hr i x hx))
  intro j v hv
  have := hown.cells (g := b) rfl (i * t.size + j) v hv
  rw [Addr.add_mid, Nat.zero_add] at this
  exact this
theorem okO_Is {x : Option AV} {v : AV} {ob : Option AObj} (h : (okO x).Is v ob) : x = some v ∧ ob = none := by
  unfold okO at h
  split at h
  · obtain ⟨rfl, rfl⟩ := h; exact ⟨rfl, rfl⟩
  · exact h.elim
theorem load_Gv (hT : TbOk P tb) {s : St} (hok : Ok s) {h0 : List AObj} (hs : SubH h0 s.h) {nid : Nat} {T : TypeId} {x : AV} {cx : Value} (hx : R s x cx) {v : AV} {ob : Option AObj} (h : (pLoad tb h0 T x).Is v ob) :
    Gv P (Instr.loadAt T cx) s nid v ob := by
  unfold pLoad at h
  split at h
  · exact h.elim
  · rename_i ti hl
    split at h
    · rename_i id off
      split at h
      · rename_i T' cs hc
        obtain ⟨h1, rfl⟩ := okO_Is h
        have hc' := hs id _ hc rfl
        simp only [R] at hx
        obtain ⟨_, b, rfl, hσ⟩ := hx
        have hσ := hσ T' cs hc'
        obtain ⟨b', hσ', hrc⟩ := cells_RC hok hc'
        rw [hσ] at hσ'
        cases hσ'
        obtain ⟨cv, hr, hv⟩ := load_RC hT hl h1 (RC_drop off hrc)
        exact Gv.same hok (by simp [Instr.loadAt, Instr.sureAddr, hr]) hv
      · exact h.elim
    · obtain ⟨h1, rfl⟩ := okO_Is h
      simp only [R] at hx
      obtain ⟨b, o, rfl, _, _, hrc⟩ := hx
      obtain ⟨cv, hr, hv⟩ := load_RC hT hl h1 hrc
      exact Gv.same hok (by simp [Instr.loadAt, Instr.sureAddr, hr]) hv
    · rename_i id g t i off
      split at h
      · rename_i T' t' l f g' hc
        obtain ⟨⟨rfl, hb⟩, x, _, hxi, h2⟩ := h
        have := Ty.eq_of_beq _ _ hb
        subst this
        obtain ⟨h1, rfl⟩ := okO_Is h2
        have hc' := hs id _ hc rfl
        simp only [R] at hx
        obtain ⟨_, b, rfl, hx⟩ := hx
        obtain ⟨_, hx2⟩ := hx T' t' l f g' hc'
        obtain ⟨_, hil, len, cap, hσ⟩ := hx2 rfl
        simp only [Int.toNat_natCast] at hxi
        have hrc := RC_drop off (arr_RC hok hc' hσ hxi)
        have : (fun j => s.w.cell? ⟨b, i * t'.size + (off + j), none⟩) = (fun j => s.w.cell? ⟨b, i * t'.size + off + j, none⟩) := by
          funext j; rw [Nat.add_assoc]
        rw [this] at hrc
        obtain ⟨cv, hr, hv⟩ := load_RC hT hl h1 hrc
        exact Gv.same hok (by simp [Instr.loadAt, Instr.sureAddr, hr]) hv
      · exact h.elim
    · exact h.elim
end
theorem R_tyNil {s : St} {tb : Tb} {T : TypeId} {x : AV} {v : Value} (h : R s x v) : R s (tyNil tb T x) v := by
  unfold tyNil
  split
  · split
    · split
      · simp only [R] at h ⊢
        exact h
      · exact h
    · exact h
  · exact h
theorem R_detos {s : St} {x : AV} {v : Value} (h : R s x v) : R s (detos x) v := by
  unfold detos
  split
  · simp only [R] at h ⊢
    exact h.1
  · simp only [R] at h ⊢
    exact h
  · exact h
end Av
