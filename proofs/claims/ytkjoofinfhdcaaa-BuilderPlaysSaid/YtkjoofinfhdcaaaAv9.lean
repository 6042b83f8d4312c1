/-
  An abstract reading of values and memory: what is reckoned of an operation that reads or makes memory is so.
  An abstract reading of values and memory: fields, elements, numbers, strings.
  An abstract reading of values and memory: numbers, strings, comparisons, conversions.
-/
import Derived.Test.YtkjoofinfhdcaaaAv6
import Derived.IntWalk
import Derived.Laws.StructEq
import Derived.Laws.MakeOwn
namespace Av
open Go

def SubH (h0 h : List AObj) : Prop := ∀ (id : Nat) (o : AObj), h0[id]? = some o → o.alive = true → h[id]? = some o
theorem SubH.refl (h : List AObj) : SubH h h := fun _ _ e _ => e

def Gv (P : Program) (e : Sem Value) (s : St) (nid : Nat) (v : AV) (ob : Option AObj) : Prop :=
 ∃ cv s', e.run P s.w = .ok cv s'.w ∧ Step s s' ∧ Ok s' ∧ R s' v cv ∧ s'.h = putO s.h nid ob
theorem Gv.same {P : Program} {e : Sem Value} {s : St} {nid : Nat} {v : AV} {cv : Value} (hok : Ok s) (hr : e.run P s.w = .ok cv s.w) (hv : R s v cv) : Gv P e s nid v none :=
 ⟨cv, s, hr, Step.refl s, hok, hv, rfl⟩
theorem Gv.new {P : Program} {e : Sem Value} {s : St} {nid : Nat} {v : AV} {ob : AObj} {cv : Value} {w' : World} (hok : Ok s) (hf : Free s.h nid) (hr : e.run P s.w = .ok cv w') (hw : Grew s.w w')
  (hb : ∀ b, blkOf cv = some b → s.w.heap.size ≤ b) (ho : ObjR (s.new nid ob cv w') nid ob) (hv : R (s.new nid ob cv w') v cv) (hmo : ob.more = [] := by rfl) : Gv P e s nid v (some ob) :=
 ⟨cv, s.new nid ob cv w', hr, St.new_step hf hw hb hmo, St.new_ok hok hf hw hb ho hmo, hv, rfl⟩

section
variable {P : Program} {tb : Tb}

theorem tb_und (hT : TbOk P tb) {T : TypeId} {ti : TI} (h : lk tb T = some ti) : ti.Good P T := TI.good (hT T ti h)

theorem kind_agg {k : TK} {d : TypeDesc} (h : k.fits d = true) : isRowK k = d.isRow := by
 cases k <;> cases d <;> simp_all [TK.fits, isRowK]
theorem isAgg_run (hT : TbOk P tb) {T : TypeId} {ti : TI} (h : lk tb T = some ti) (w : World) : (isAgg T).run P w = .ok (isRowK ti.kind) w := by
 obtain ⟨d, hd, hk⟩ := (tb_und hT h).und
 rw [kind_agg hk]
 unfold isAgg
 rw [Sem.run_bind, run_underlying hd w]
 cases d <;> simp [TypeDesc.isRow]
theorem sizeOf_run (hT : TbOk P tb) {T : TypeId} {ti : TI} (h : lk tb T = some ti) (w : World) : (Go.sizeOf T).run P w = .ok ti.size w := by
 obtain ⟨i, z, hi, hs, _⟩ := (tb_und hT h).info
 simp [Go.sizeOf, typeInfo, hi, hs]
theorem zero_run (hT : TbOk P tb) {T : TypeId} {ti : TI} (h : lk tb T = some ti) (w : World) : ∃ z, (zeroValue T).run P w = .ok z w ∧ zf ti.zero z.cells.toList = true := by
 obtain ⟨i, z, hi, _, _, hz, hf⟩ := (tb_und hT h).info
 exact ⟨z, by simp [zeroValue, typeInfo, hi, hz], hf⟩

/-! ### New variables -/
theorem newVar_Gv {e : Sem Value} {s : St} (hok : Ok s) {nid : Nat} (hf : Free s.h nid) {T : TypeId} {cs : List AV} {v : Value} {vs : List Value} (hv : v.cells = vs.toArray) (hl : RL s cs vs) (h1 : ∀ u ∈ vs, u.oneCell' = true)
  (hr : e.run P s.w = .ok (.pointer (some ⟨s.w.heap.size, 0, none⟩)) (s.w.alloc (.cells v.cells T))) : Gv P e s nid (.ptr nid 0) (some (.cells T cs)) := by
 have hb : ∀ b, blkOf (.pointer (some ⟨s.w.heap.size, 0, none⟩)) = some b → s.w.heap.size ≤ b := by
  intro b hb; cases hb; exact Nat.le_refl _
 have hst := St.new_step (s := s) (nid := nid) hf (ob := .cells T cs) (v := .pointer (some ⟨s.w.heap.size, 0, none⟩)) (Grew.alloc s.w (.cells v.cells T)) hb
 refine Gv.new hok hf hr (Grew.alloc _ _) hb ?_ ?_
 ·refine ⟨s.w.heap.size, vs, [], by simp only [St.new, upd_same], ?_, RL_mono hst cs vs hl, h1⟩
  simp only [St.new]
  rw [heap_alloc_new, hv, List.append_nil]
 ·simp only [R]
  refine ⟨?_, s.w.heap.size, rfl, fun T' cs' hc => by simp only [St.new, upd_same]⟩
  simp only [St.new, kn, put_same hf]
theorem alloc_Gv (hT : TbOk P tb) {s : St} (hok : Ok s) {nid : Nat} (hf : Free s.h nid) {T : TypeId} {v : AV} {ob : Option AObj} (h : (pAlloc tb nid T).Is v ob) (x : Value) : Gv P (Instr.alloc T true x) s nid v ob := by
 unfold pAlloc at h
 split at h
 ·rename_i ti hl
  obtain ⟨rfl, rfl⟩ := h
  obtain ⟨z, hz, hzf⟩ := zero_run hT hl s.w
  obtain ⟨h1, h2⟩ := zf_RL (s := s) hzf
  refine newVar_Gv hok hf (v := z) rfl h1 h2 ?_
  simp [Instr.alloc, hz, newVar, newRow]
 ·exact h.elim
theorem box_Gv {s : St} (hok : Ok s) {nid : Nat} (hf : Free s.h nid) {T : TypeId} {x : AV} {cx : Value} (hx : R s x cx) {v : AV} {ob : Option AObj} (h : (pBox nid T x).Is v ob) : Gv P (Instr.box T cx) s nid v ob := by
 unfold pBox at h
 split at h
 ·rename_i cs hc
  obtain ⟨rfl, rfl⟩ := h
  obtain ⟨vs, h1, h2, h3⟩ := cellsOf_R hc hx
  refine newVar_Gv hok hf (v := cx) h1 h2 h3 ?_
  simp [Instr.box, newVar, newRow]
 ·exact h.elim

/-! ### Moves -/
theorem own_nil {s : St} (hok : Ok s) {nid : Nat} (hf : Free s.h nid) {e : Sem Value} {E : TypeId} {t : Ty} (hr : e.run P s.w = .ok (.slice none 0 0) s.w) : Gv P e s nid (.own nid 0 0) (some (.arr E t [] false 0)) := by
 have hb : ∀ b, blkOf (.slice none 0 0) = some b → s.w.heap.size ≤ b := by intro b hb; cases hb
 refine Gv.new hok hf hr (Grew.refl _) hb ?_ ?_
 ·refine ⟨[], ?_, by simp, by simp, by simp⟩
  simp only [St.new, upd_same]
  exact World.ownsRow_nil _ _ _ _
 ·simp only [R]
  refine ⟨by simp only [St.new, kn, put_same hf], none, 0, rfl, fun T t l f g0 hc => ?_⟩
  simp only [St.new, put_same hf] at hc
  cases hc
  exact ⟨Nat.le_refl _, fun _ => ⟨Nat.le_refl _, 0, by simp only [St.new, upd_same]⟩⟩
theorem move_Gv {s : St} (hok : Ok s) {nid : Nat} (hf : Free s.h nid) {T : TypeId} {x : AV} {cx : Value} (hx : R s x cx) {v : AV} {ob : Option AObj} (h : (pMove tb nid T x).Is v ob) : Gv P (pure cx) s nid v ob := by
 unfold pMove at h
 split at h
 ·simp only [R] at hx
  subst hx
  unfold pNil at h
  split at h
  ·split at h
   ·split at h
    ·split at h
     ·obtain ⟨rfl, rfl⟩ := h
      exact own_nil hok hf rfl
     ·obtain ⟨rfl, rfl⟩ := h
      exact Gv.same hok rfl (by simp only [R])
    ·obtain ⟨rfl, rfl⟩ := h
     exact Gv.same hok rfl (by simp only [R])
   ·exact h.elim
  ·exact h.elim
 ·exact h.elim
 ·obtain ⟨rfl, rfl⟩ := h
  exact Gv.same hok rfl hx
theorem pick_Gv {s : St} (hok : Ok s) {nid : Nat} {c a b : AV} {cc ca cb : Value} (hc : R s c cc) (ha : R s a ca) (hb : R s b cb) {v : AV} {ob : Option AObj} (h : (pPick c a b).Is v ob) :
  Gv P (do pure (if ← asBool cc then ca else cb)) s nid v ob := by
 unfold pPick at h
 split at h
 ·simp only [R] at hc
  subst hc
  rcases h with ⟨rfl, rfl, rfl⟩ | ⟨rfl, rfl, rfl⟩
  ·exact Gv.same hok (by simp [asBool]) ha
  ·exact Gv.same hok (by simp [asBool]) hb
 ·exact h.elim

/-! ### Loads -/
theorem RC_drop {s : St} {cs : List AV} {c : Nat → Option Value} (n : Nat) (h : RC s cs c) : RC s (cs.drop n) (fun j => c (n + j)) := by
 rcases Nat.lt_or_ge n cs.length with hn | hn
 ·exact (RC_take_drop cs n c (Nat.le_of_lt hn) h).2
 ·rw [List.drop_eq_nil_of_le hn]
  simp only [RC]
theorem load_RC (hT : TbOk P tb) {s : St} {T : TypeId} {ti : TI} (hl : lk tb T = some ti) {cs : List AV} {v : AV} (h : ldA ti cs = some v) {b o : Nat} (hc : RC s cs (fun j => s.w.cell? ⟨b, o + j, none⟩)) :
  ∃ cv, (loadVar T ⟨b, o, none⟩).run P s.w = .ok cv s.w ∧ R s v cv := by
 unfold ldA at h
 split at h
 ·rename_i hk
  cases hb : Nat.ble ti.size cs.length with
  | false => rw [hb] at h; cases h
  | true =>
   rw [hb] at h
   cases h
   have hle := Nat.le_of_ble_eq_true hb
   obtain ⟨vs, h1, h2, h3⟩ := RC_vals (RC_take_drop cs ti.size _ hle hc).1
   have hlen : vs.length = ti.size := by rw [RL_vals h1, List.length_take, Nat.min_eq_left hle]
   obtain ⟨d, hd, hf⟩ := (tb_und hT hl).und
   obtain ⟨i, z, hi, hs, _⟩ := (tb_und hT hl).info
   refine ⟨.agg vs.toArray, run_loadVar_mid s.w b o T vs d h3 hd (by rw [← kind_agg hf]; exact hk) (by rw [hi, hlen]; simp [hs]), ?_⟩
   simp only [R]
   exact ⟨vs, rfl, h1, h2⟩
 ·rename_i hk
  split at h
  ·cases h
   obtain ⟨⟨u, h0, h1, h2⟩, _⟩ := hc
   refine ⟨u, ?_, h1⟩
   have h0 : s.w.cell? ⟨b, o, none⟩ = some u := h0
   simp [loadVar, isAgg_run hT hl, hk, h0]
  ·cases h
theorem cells_RC {s : St} (hok : Ok s) {id : Nat} {T : TypeId} {cs : List AV} (h : s.h[id]? = some (.cells T cs)) : ∃ b, s.σ id = .pointer (some ⟨b, 0, none⟩) ∧ RC s cs (fun j => s.w.cell? ⟨b, j, none⟩) := by
 obtain ⟨b, vs, rest, hσ, hh, hl, h1⟩ := hok.obj id _ h
 refine ⟨b, hσ, RC_of_RL hl h1 (fun j v hv => ?_)⟩
 rw [cell_of_row s.w b j _ T (0, 0) hh]
 have hlt := (List.getElem?_eq_some_iff.1 hv).1
 rw [List.getElem?_toArray, List.getElem?_append_left hlt]
 exact hv
theorem arr_RC {s : St} (hok : Ok s) {id : Nat} {T : TypeId} {t : Ty} {l : List t.El} {f : Bool} {g : Nat} (h : s.h[id]? = some (.arr T t l f g)) {b len cap : Nat} (hσ : s.σ id = .slice (some ⟨b, 0, none⟩) len cap)
  {i : Nat} {x : t.El} (hx : l[i]? = some x) : RC s (flat t x) (fun j => s.w.cell? ⟨b, i * t.size + j, none⟩) := by
 obtain ⟨xs, hown, h1, hr, _⟩ := hok.obj id _ h
 rw [hσ] at hown
 have hil : i < l.length := (List.getElem?_eq_some_iff.1 hx).1
 refine RC_mono (Step.refl s) _ _ _ ?_ (RT_RC t x _ (hr i x hx))
 intro j v hv
 have := hown.cells (g := b) rfl (i * t.size + j) v hv
 rw [Addr.add_mid, Nat.zero_add] at this
 exact this
theorem lkB_mem {α : Type} : ∀ {m : List (Nat × α)} {b : Nat} {x : α}, lkB m b = some x → (b, x) ∈ m
 | [], _, _, h => by simp [lkB] at h
 | (k, y) :: m, b, x, h => by
  simp only [lkB] at h
  split at h
  ·rename_i e; cases h; rw [e]; exact List.mem_cons_self
  ·exact List.mem_cons_of_mem _ (lkB_mem h)
theorem bxL_get {α : Type} {m : List (Nat × α)} {b : Nat} {x : α} (h : (bxL m b)[(0 : Int).toNat]? = some x) : lkB m b = some x := by
 unfold bxL at h
 cases e : lkB m b with
 | none => rw [e] at h; cases h
 | some y => rw [e] at h; exact h
theorem bxs_RC {s : St} (hok : Ok s) {K : Nat} {T : TypeId} {t : Ty} {m : List (Nat × t.El)} (h : s.h[K]? = some (.oth (.bxs T t m))) {b : Nat} {x : t.El} (hx : lkB m b = some x) : RC s (flat t x) (fun j => s.w.cell? ⟨b, j, none⟩) := by
 obtain ⟨_, _, hm⟩ := hok.obj K _ h
 obtain ⟨vs, rest, hh, hl, hr, h1⟩ := hm b x (lkB_mem hx)
 refine RC_mono (Step.refl s) _ _ _ (fun j v hv => ?_) (RT_RC t x _ hr)
 rw [cell_of_row s.w b j _ T (0, 0) hh]
 have hlt := (List.getElem?_eq_some_iff.1 hv).1
 rw [List.getElem?_toArray, List.getElem?_append_left hlt]
 exact hv
theorem okO_Is {x : Option AV} {v : AV} {ob : Option AObj} (h : (okO x).Is v ob) : x = some v ∧ ob = none := by
 unfold okO at h
 split at h
 ·obtain ⟨rfl, rfl⟩ := h; exact ⟨rfl, rfl⟩
 ·exact h.elim
theorem load_Gv (hT : TbOk P tb) {s : St} (hok : Ok s) {h0 : List AObj} (hs : SubH h0 s.h) {nid : Nat} {T : TypeId} {x : AV} {cx : Value} (hx : R s x cx) {v : AV} {ob : Option AObj} (h : (pLoad tb h0 T x).Is v ob) :
  Gv P (Instr.loadAt T cx) s nid v ob := by
 unfold pLoad at h
 split at h
 ·exact h.elim
 ·rename_i ti hl
  split at h
  ·rename_i id off
   split at h
   ·rename_i T' cs hc
    obtain ⟨h1, rfl⟩ := okO_Is h
    have hc' := hs id _ hc rfl
    simp only [R] at hx
    obtain ⟨_, b, rfl, hσ⟩ := hx
    have hσ := hσ T' cs hc'
    obtain ⟨b', hσ', hrc⟩ := cells_RC hok hc'
    rw [hσ] at hσ'
    cases hσ'
    obtain ⟨cv, hr, hv⟩ := load_RC hT hl h1 (RC_drop off hrc)
    exact Gv.same hok (by simp [Instr.loadAt, Instr.sureAddr, hr]) hv
   ·exact h.elim
  ·obtain ⟨h1, rfl⟩ := okO_Is h
   simp only [R] at hx
   obtain ⟨b, o, rfl, _, _, hrc⟩ := hx
   obtain ⟨cv, hr, hv⟩ := load_RC hT hl h1 hrc
   exact Gv.same hok (by simp [Instr.loadAt, Instr.sureAddr, hr]) hv
  ·rename_i id g t i off
   split at h
   ·rename_i T' t' l f g' hc
    obtain ⟨⟨rfl, hb⟩, x, _, hxi, h2⟩ := h
    have := Ty.eq_of_beq _ _ hb
    subst this
    obtain ⟨h1, rfl⟩ := okO_Is h2
    have hc' := hs id _ hc rfl
    simp only [R] at hx
    obtain ⟨_, b, rfl, hx⟩ := hx
    obtain ⟨_, hx2⟩ := hx T' t' l f g' hc'
    obtain ⟨_, hil, len, cap, hσ⟩ := hx2 rfl
    simp only [Int.toNat_natCast] at hxi
    have hrc := RC_drop off (arr_RC hok hc' hσ hxi)
    have : (fun j => s.w.cell? ⟨b, i * t'.size + (off + j), none⟩) = (fun j => s.w.cell? ⟨b, i * t'.size + off + j, none⟩) := by
     funext j; rw [Nat.add_assoc]
    rw [this] at hrc
    obtain ⟨cv, hr, hv⟩ := load_RC hT hl h1 hrc
    exact Gv.same hok (by simp [Instr.loadAt, Instr.sureAddr, hr]) hv
   ·exact h.elim
  ·rename_i K b off
   split at h
   ·rename_i T' t m hc
    obtain ⟨x, _, hxi, h2⟩ := h
    obtain ⟨h1, rfl⟩ := okO_Is h2
    simp only [R] at hx
    subst hx
    have hrc := RC_drop off (bxs_RC hok (hs K _ hc rfl) (bxL_get hxi))
    obtain ⟨cv, hr, hv⟩ := load_RC hT hl h1 hrc
    exact Gv.same hok (by simp [Instr.loadAt, Instr.sureAddr, hr]) hv
   ·exact h.elim
  ·exact h.elim
end
theorem R_tyNil {s : St} {tb : Tb} {T : TypeId} {x : AV} {v : Value} (h : R s x v) : R s (tyNil tb T x) v := by
 unfold tyNil
 split
 ·split
  ·split
   ·simp only [R] at h ⊢
    exact h
   ·exact h
  ·exact h
 ·exact h
theorem R_detos {s : St} {x : AV} {v : Value} (h : R s x v) : R s (detos x) v := by
 unfold detos
 split
 ·simp only [R] at h ⊢
  exact h.1
 ·simp only [R] at h ⊢
  exact h
 ·exact h
end Av
namespace Av
open Go
section
variable {P : Program} {tb : Tb}

/-! ### Fields -/
theorem pairs_get {fs : List (TypeId × Nat)} {gs : List Field} (h : fs = gs.map (fun f => (f.type, f.offset))) {i ft off : Nat} (hi : fs[i]? = some (ft, off)) : ∃ f, gs[i]? = some f ∧ f.type = ft ∧ f.offset = off := by
 subst h
 rw [List.getElem?_map] at hi
 obtain ⟨f, hf, he⟩ := Option.map_eq_some_iff.1 hi
 simp only [Prod.mk.injEq] at he
 exact ⟨f, hf, he.1, he.2⟩
theorem struct_und (hT : TbOk P tb) {T : TypeId} {ti : TI} (h : lk tb T = some ti) {fs : List (TypeId × Nat)} (hk : ti.kind = .st fs) : ∃ gs, P.underlying T = some (.struct gs) ∧ fs = gs.toList.map (fun f => (f.type, f.offset)) := by
 obtain ⟨d, hd, hf⟩ := (tb_und hT h).und
 rw [hk] at hf
 cases d <;> simp only [TK.fits] at hf <;> first
  | (cases hf; done)
  | exact ⟨_, hd, pairsEq_eq hf⟩
theorem slice_und (hT : TbOk P tb) {T : TypeId} {ti : TI} (h : lk tb T = some ti) {e : TypeId} (hk : ti.kind = .sl e) : P.underlying T = some (.slice e) := by
 obtain ⟨d, hd, hf⟩ := (tb_und hT h).und
 rw [hk] at hf
 cases d <;> simp only [TK.fits] at hf <;> first
  | (cases hf; done)
  | (rw [hd, Nat.eq_of_beq_eq_true hf])
theorem str_und (hT : TbOk P tb) {T : TypeId} {ti : TI} (h : lk tb T = some ti) (hk : ti.kind = .str) : P.underlying T = some .string := by
 obtain ⟨d, hd, hf⟩ := (tb_und hT h).und
 rw [hk] at hf
 cases d <;> simp only [TK.fits] at hf <;> first
  | (cases hf; done)
  | exact hd
theorem int_und (hT : TbOk P tb) {T : TypeId} {ti : TI} (h : lk tb T = some ti) {k : IntKind} (hk : ti.kind = .int k) : P.underlying T = some (.int k) := by
 obtain ⟨d, hd, hf⟩ := (tb_und hT h).und
 rw [hk] at hf
 cases d <;> simp only [TK.fits] at hf <;> first
  | (cases hf; done)
  | (rw [hd, of_decide_eq_true hf])
theorem place_run (hT : TbOk P tb) {ft : TypeId} {tf : TI} (h : lk tb ft = some tf) {f : Field} (hf : f.type = ft) (b o : Nat) (w : World) : (fieldPlace ⟨b, o, none⟩ f).run P w = .ok ⟨b, o + f.offset, none⟩ w := by
 have hp := (tb_und hT h).pos
 subst hf
 unfold fieldPlace
 rw [Sem.run_bind, sizeOf_run hT h w]
 simp only [Result.andThen_ok]
 rw [if_neg (by omega)]
 simp [Addr.add_mid]
theorem fieldAddr_Gv (hT : TbOk P tb) {s : St} (hok : Ok s) {nid : Nat} {T : TypeId} {x : AV} {cx : Value} (hx : R s x cx) {i : Nat} {v : AV} {ob : Option AObj} (h : (pFieldAddr tb T x i).Is v ob) : Gv P (Instr.fieldAt T cx i) s nid v ob := by
 unfold pFieldAddr at h
 split at h
 ·exact h.elim
 ·rename_i ti hl
  split at h
  ·rename_i fs hk
   split at h
   ·exact h.elim
   ·rename_i ft off hi
    split at h
    ·exact h.elim
    ·rename_i tf hf
     obtain ⟨gs, hu, he⟩ := struct_und hT hl hk
     obtain ⟨f, hgf, hft, hfo⟩ := pairs_get he hi
     have hgf' : gs[i]? = some f := by simpa using hgf
     have run : ∀ b o, cx = .pointer (some ⟨b, o, none⟩) → (Instr.fieldAt T cx i).run P s.w = .ok (.pointer (some ⟨b, o + off, none⟩)) s.w := by
      intro b o hc
      subst hc
      simp [Instr.fieldAt, run_underlying hu, hgf', Instr.sureAddr, place_run hT hf hft b o s.w, hfo]
     split at h
     ·rename_i id o
      obtain ⟨rfl, rfl⟩ := h
      simp only [R] at hx
      obtain ⟨hk, b, rfl, hx⟩ := hx
      refine Gv.same hok (run b o rfl) ?_
      simp only [R]
      exact ⟨hk, b, rfl, hx⟩
     ·rename_i cs
      cases hb : Nat.ble off cs.length with
      | false => rw [hb] at h; exact h.elim
      | true =>
       rw [hb] at h
       obtain ⟨rfl, rfl⟩ := h
       simp only [R] at hx
       obtain ⟨b, o, rfl, hlt, hown, hrc⟩ := hx
       refine Gv.same hok (run b o rfl) ?_
       simp only [R]
       refine ⟨b, o + off, rfl, hlt, hown, ?_⟩
       have := RC_drop off hrc
       have e : (fun j => s.w.cell? ⟨b, o + (off + j), none⟩) = (fun j => s.w.cell? ⟨b, o + off + j, none⟩) := by
        funext j; rw [Nat.add_assoc]
       rw [e] at this
       exact this
     ·rename_i id g t j o
      obtain ⟨rfl, rfl⟩ := h
      simp only [R] at hx
      obtain ⟨hk', b, rfl, hx⟩ := hx
      refine Gv.same hok (run b _ rfl) ?_
      simp only [R]
      exact ⟨hk', b, by rw [Nat.add_assoc], hx⟩
     ·rename_i K b o
      obtain ⟨rfl, rfl⟩ := h
      simp only [R] at hx
      refine Gv.same hok (run b o hx) ?_
      simp only [R]
     ·exact h.elim
  ·exact h.elim
theorem part_run (hT : TbOk P tb) {s : St} {ft : TypeId} {tf : TI} (hf : lk tb ft = some tf) {cs : List AV} {vs : List Value} {v : AV} {off : Nat} (hl : RL s cs vs) (h1 : ∀ u ∈ vs, u.oneCell' = true) (h : ldA tf (cs.drop off) = some v) :
  ∃ cv, (part ft vs.toArray off).run P s.w = .ok cv s.w ∧ R s v cv := by
 have hlen := RL_vals hl
 unfold ldA at h
 unfold part
 rw [Sem.run_bind, isAgg_run hT hf s.w]
 simp only [Result.andThen_ok]
 split at h
 ·rename_i hk
  cases hb : Nat.ble tf.size (cs.drop off).length with
  | false => rw [hb] at h; cases h
  | true =>
   rw [hb] at h
   cases h
   rw [hk]
   simp only [if_true, Sem.run_bind, sizeOf_run hT hf s.w, Result.andThen_ok, Sem.run_pure]
   refine ⟨_, rfl, ?_⟩
   simp only [R]
   refine ⟨(vs.drop off).take tf.size, ?_, RL_take _ (RL_drop _ hl), fun u hu => h1 u (List.mem_of_mem_drop (List.mem_of_mem_take hu))⟩
   congr 1
   simp [List.extract_toArray, Nat.add_sub_cancel_left]
 ·rename_i hk
  rw [hk]
  simp only [Bool.false_eq_true, if_false]
  split at h
  ·rename_i c cs' hd
   cases h
   have hc : cs[off]? = some v := by
    have := congrArg (fun l => l[0]?) hd
    simpa using this
   obtain ⟨u, hu, hr⟩ := RL_get hl off v hc
   refine ⟨u, ?_, hr⟩
   have : vs.toArray[off]? = some u := by simpa using hu
   rw [this]
   rfl
  ·cases h
theorem field_Gv (hT : TbOk P tb) {s : St} (hok : Ok s) {nid : Nat} {T : TypeId} {x : AV} {cx : Value} (hx : R s x cx) {i : Nat} {v : AV} {ob : Option AObj} (h : (pField tb T x i).Is v ob) : Gv P (Instr.field T cx i) s nid v ob := by
 unfold pField at h
 split at h
 ·exact h.elim
 ·rename_i ti hl
  split at h
  ·rename_i fs hk
   split at h
   ·exact h.elim
   ·rename_i ft off hi
    split at h
    ·exact h.elim
    ·rename_i tf hf
     split at h
     ·rename_i cs
      obtain ⟨h1, rfl⟩ := okO_Is h
      obtain ⟨gs, hu, he⟩ := struct_und hT hl hk
      obtain ⟨f, hgf, hft, hfo⟩ := pairs_get he hi
      have hgf' : gs[i]? = some f := by simpa using hgf
      simp only [R] at hx
      obtain ⟨vs, rfl, h2, h3⟩ := hx
      obtain ⟨cv, hr, hv⟩ := part_run hT hf h2 h3 h1
      refine Gv.same hok ?_ hv
      simp [Instr.field, run_underlying hu, hgf', asAgg, hft, hfo, hr]
     ·exact h.elim
  ·exact h.elim

/-! ### Elements -/
theorem lst_elem {s : St} {t : Ty} {l : List t.El} {cx : Value} (hx : RLst s t l cx) {n : Int} {x : t.El} (h0 : 0 ≤ n) (hi : l[n.toNat]? = some x) :
  ∃ b o cap, cx = .slice (some ⟨b, o, none⟩) l.length cap ∧ n < l.length ∧ R s (.pv (flat t x)) (.pointer (some ⟨b, o + n.toNat * t.size, none⟩)) := by
 obtain ⟨a, cap, rfl, hc, hm⟩ := hx
 have hil : n.toNat < l.length := (List.getElem?_eq_some_iff.1 hi).1
 have hne : l ≠ [] := by rintro rfl; simp at hi
 obtain ⟨b, o, rfl, hlt, hown, hr⟩ := hm hne
 refine ⟨b, o, cap, rfl, by omega, ?_⟩
 simp only [R]
 exact ⟨b, _, rfl, hlt, hown, RT_RC t x _ (hr _ x hi)⟩
theorem index_run (hT : TbOk P tb) {T e : TypeId} {ti te : TI} (hl : lk tb T = some ti) (hk : ti.kind = .sl e) (he : lk tb e = some te) {b o len cap : Nat} {k : IntKind} {n : Int} (h0 : 0 ≤ n) (h1 : n < len) (w : World) :
  (Instr.indexAt T (.slice (some ⟨b, o, none⟩) len cap) (.int k n)).run P w = .ok (.pointer (some ⟨b, o + n.toNat * te.size, none⟩)) w := by
 have hu := slice_und hT hl hk
 simp [Instr.indexAt, run_underlying hu, asIntOf, h0, h1, sizeOf_run hT he w, Addr.add_mid]
theorem array_und (hT : TbOk P tb) {T : TypeId} {ti : TI} (h : lk tb T = some ti) {n : Nat} {e : TypeId} (hk : ti.kind = .ar n e) : P.underlying T = some (.array n e) := by
 obtain ⟨d, hd, hf⟩ := (tb_und hT h).und
 rw [hk] at hf
 cases d <;> simp only [TK.fits, Bool.and_eq_true] at hf <;> first
  | (cases hf; done)
  | (rw [hd, Nat.eq_of_beq_eq_true hf.1, Nat.eq_of_beq_eq_true hf.2])
theorem index_ar (hT : TbOk P tb) {T e : TypeId} {ti te : TI} {len : Nat} (hl : lk tb T = some ti) (hk : ti.kind = .ar len e) (he : lk tb e = some te) {b o : Nat} {k : IntKind} {n : Int} (h0 : 0 ≤ n) (h1 : n < len) (w : World) :
  (Instr.indexAt T (.pointer (some ⟨b, o, none⟩)) (.int k n)).run P w = .ok (.pointer (some ⟨b, o + n.toNat * te.size, none⟩)) w := by
 have hu := array_und hT hl hk
 simp [Instr.indexAt, Instr.sureAddr, run_underlying hu, asIntOf, h0, h1, sizeOf_run hT he w, Addr.add_mid]
theorem indexAddr_Gv (hT : TbOk P tb) {s : St} (hok : Ok s) {h0 : List AObj} (hs : SubH h0 s.h) {nid : Nat} {T : TypeId} {x i : AV} {cx ci : Value} (hx : R s x cx) (hi : R s i ci) {v : AV} {ob : Option AObj} (h : (pIndexAddr tb h0 T x i).Is v ob) :
  Gv P (Instr.indexAt T cx ci) s nid v ob := by
 unfold pIndexAddr at h
 split at h
 ·exact h.elim
 ·rename_i ti hl
  split at h
  ·rename_i e hk
   split at h
   ·exact h.elim
   ·rename_i te he
    split at h
    ·rename_i k n
     simp only [R] at hi
     subst hi
     split at h
     ·rename_i t l
      cases hb : Nat.beq t.size te.size with
      | false => rw [hb] at h; exact h.elim
      | true =>
       rw [hb] at h
       obtain ⟨y, h0, hy, rfl, rfl⟩ := h
       simp only [R] at hx
       obtain ⟨b, o, cap, rfl, hlt, hr⟩ := lst_elem hx h0 hy
       rw [Nat.eq_of_beq_eq_true hb] at hr
       exact Gv.same hok (index_run hT hl hk he h0 hlt s.w) hr
     ·rename_i t l
      cases hb : Nat.beq t.size te.size with
      | false => rw [hb] at h; exact h.elim
      | true =>
       rw [hb] at h
       obtain ⟨y, h0, hy, rfl, rfl⟩ := h
       simp only [R] at hx
       obtain ⟨b, o, cap, rfl, hlt, hr⟩ := lst_elem hx.1 h0 hy
       rw [Nat.eq_of_beq_eq_true hb] at hr
       exact Gv.same hok (index_run hT hl hk he h0 hlt s.w) hr
     ·rename_i id g m
      split at h
      ·rename_i E t l f g' hc
       cases hb : Nat.beq t.size te.size with
       | false => rw [hb] at h; exact h.elim
       | true =>
        rw [hb] at h
        obtain ⟨⟨rfl, h0, hlt⟩, rfl, rfl⟩ := h
        have hc' := hs id _ hc rfl
        simp only [R] at hx
        obtain ⟨hkn, base, cap, rfl, hx⟩ := hx
        obtain ⟨_, hx2⟩ := hx E t l f g' hc'
        obtain ⟨hml, len, hσ⟩ := hx2 rfl
        obtain ⟨xs, hown, _, _, _⟩ := hok.obj id _ hc'
        rw [hσ] at hown
        rcases hown.2 with ⟨he', hz⟩ | ⟨b, cap', cur, he', _, _, _⟩
        ·exfalso; omega
        ·cases he'
         refine Gv.same hok (index_run hT hl hk he h0 hlt s.w) ?_
         simp only [R]
         refine ⟨hkn, b, by rw [Nat.eq_of_beq_eq_true hb, Nat.zero_add]; rfl, fun T' t' l' f' g1 hc1 => ?_⟩
         rw [hc'] at hc1
         cases hc1
         exact ⟨Nat.le_refl _, fun _ => ⟨rfl, by omega, _, _, hσ⟩⟩
      ·exact h.elim
     ·rename_i id g lo m
      split at h
      ·rename_i E t l f g' hc
       cases hb : Nat.beq t.size te.size with
       | false => rw [hb] at h; exact h.elim
       | true =>
        rw [hb] at h
        obtain ⟨⟨rfl, h0, hlt⟩, rfl, rfl⟩ := h
        have hc' := hs id _ hc rfl
        simp only [R] at hx
        obtain ⟨hkn, a, cap', rfl, hcap, hx⟩ := hx
        obtain ⟨_, hx2⟩ := hx E t l f g' hc'
        obtain ⟨hml, base, len, cap, hσ, hbase⟩ := hx2 rfl
        obtain ⟨b, rfl, rfl⟩ := hbase (by omega)
        refine Gv.same hok (index_run hT hl hk he h0 hlt s.w) ?_
        simp only [R]
        refine ⟨hkn, b, ?_, fun T' t' l' f' g1 hc1 => ?_⟩
        ·rw [Nat.eq_of_beq_eq_true hb, Nat.add_mul]; rfl
        ·rw [hc'] at hc1
         cases hc1
         exact ⟨Nat.le_refl _, fun _ => ⟨rfl, by omega, _, _, hσ⟩⟩
      ·exact h.elim
     ·rename_i id m c
      obtain ⟨⟨h0, hlt⟩, rfl, rfl⟩ := h
      simp only [R] at hx
      obtain ⟨hkn, b, rfl, hx⟩ := hx
      refine Gv.same hok (index_run hT hl hk he h0 hlt s.w) ?_
      simp only [R]
      exact ⟨hkn, b, by rw [Nat.zero_add], hx⟩
     ·exact h.elim
    ·exact h.elim
  ·rename_i len e hk
   split at h
   ·exact h.elim
   ·rename_i te he
    split at h
    ·rename_i k n id o
     simp only [R] at hi
     subst hi
     obtain ⟨⟨h0, h1⟩, rfl, rfl⟩ := h
     simp only [R] at hx
     obtain ⟨hkn, b, rfl, hx⟩ := hx
     refine Gv.same hok (index_ar hT hl hk he h0 h1 s.w) ?_
     simp only [R]
     exact ⟨hkn, b, rfl, hx⟩
    ·exact h.elim
  ·exact h.elim
theorem index_Gv (hT : TbOk P tb) {s : St} (hok : Ok s) {nid : Nat} {T : TypeId} {x i : AV} {cx ci : Value} (hx : R s x cx) (hi : R s i ci) {v : AV} {ob : Option AObj} (h : (pIndex tb T x i).Is v ob) :
  Gv P (Instr.index T cx ci) s nid v ob := by
 unfold pIndex at h
 split at h
 ·exact h.elim
 ·rename_i ti hl
  split at h
  ·rename_i str k n hk
   obtain ⟨b, h0, hb, rfl, rfl⟩ := h
   simp only [R] at hx hi
   subst hx hi
   have hu := str_und hT hl hk
   have hlt : n.toNat < str.size := by
    have := (List.getElem?_eq_some_iff.1 hb).1
    simpa using this
   have hg : str[n.toNat]? = some b := by
    rw [getElem?_pos str n.toNat hlt]
    have h2 : n.toNat < str.data.toList.length := by simpa using hlt
    rw [List.getElem?_eq_getElem h2] at hb
    have h3 := Option.some.inj hb
    rw [← h3]
    rfl
   exact Gv.same (cv := .int .u8 b.toNat) hok (by simp [Instr.index, run_underlying hu, asIntOf, h0, hg]) (by simp only [R])
  ·exact h.elim
end
end Av
namespace Av
open Go
theorem wrap_in {k : IntKind} {n : Int} (h : inR k n) : k.wrap n = n := by
 cases k <;> simp only [inR] at h
 ·exact IntWalk.i8_in n h
 ·exact IntWalk.i16_in n h
 ·exact IntWalk.i32_in n h
 ·exact IntWalk.i64_in n h
 ·exact IntWalk.u8_in n h
 ·exact IntWalk.u16_in n h
 ·exact IntWalk.u32_in n h
 ·exact IntWalk.u64_in n h
theorem sEq_iff {a b : ByteArray} : sEq a b = true ↔ a = b := by
 unfold sEq
 rw [beq_iff_eq, Array.toList_inj]
 exact ⟨fun h => by cases a; cases b; simp_all, fun h => by rw [h]⟩
theorem sEq_model (a b : ByteArray) : (a.toList == b.toList) = sEq a b := by
 rw [ByteArray.toList_eq, ByteArray.toList_eq]; rfl
theorem sLt_model (a b : ByteArray) : Op.bytesLess a.toList b.toList = sLt a b := by
 rw [ByteArray.toList_eq, ByteArray.toList_eq]; rfl
theorem bytesLess_tri : ∀ (x y : List UInt8), (Op.bytesLess x y || x == y) = !Op.bytesLess y x
 | [], [] => by simp [Op.bytesLess]
 | [], b :: y => by simp [Op.bytesLess]
 | a :: x, [] => by simp [Op.bytesLess]
 | a :: x, b :: y => by
  have ih := bytesLess_tri x y
  simp only [Op.bytesLess]
  by_cases h1 : a < b
  ·have h2 : ¬ b < a := by rw [UInt8.lt_iff_toNat_lt] at *; omega
   have h3 : (b == a) = false := by rw [beq_eq_false_iff_ne]; rintro rfl; rw [UInt8.lt_iff_toNat_lt] at h1; omega
   simp [h1, h2, h3]
  ·by_cases h2 : b < a
   ·have h3 : (a == b) = false := by rw [beq_eq_false_iff_ne]; rintro rfl; rw [UInt8.lt_iff_toNat_lt] at h2; omega
    simp [h1, h2, h3]
   ·have h3 : a = b := by rw [UInt8.lt_iff_toNat_lt] at *; exact UInt8.toNat_inj.1 (by omega)
    subst h3
    simp [h1]
    rw [← ih]
mutual
theorem RT_cut {s : St} : ∀ (t : Ty) (x : t.El) (c : Nat → Option Value) (n : Nat), t.size ≤ n → RT s t x c → RT s t x (fun j => if j < n then c j else none)
 | .bool, _, _, n, hn, h => by simp only [Ty.size] at hn; simp only [RT] at h ⊢; rw [if_pos (by omega)]; exact h
 | .int _, _, _, n, hn, h => by simp only [Ty.size] at hn; simp only [RT] at h ⊢; rw [if_pos (by omega)]; exact h
 | .str, _, _, n, hn, h => by simp only [Ty.size] at hn; simp only [RT] at h ⊢; rw [if_pos (by omega)]; exact h
 | .sl _, _, _, n, hn, h => by simp only [Ty.size] at hn; simp only [RT] at h ⊢; rw [if_pos (by omega)]; exact h
 | .raw _, _, _, n, hn, h => by simp only [Ty.size] at hn; simp only [RT] at h ⊢; rw [if_pos (by omega)]; exact h
 | .ifc _ _, _, _, n, hn, h => by simp only [Ty.size] at hn; simp only [RT] at h ⊢; rw [if_pos (by omega)]; exact h
 | .st fs, x, c, n, hn, h => by simp only [Ty.size] at hn; simp only [RT] at h ⊢; exact RTs_cut fs x c n hn h
theorem RTs_cut {s : St} : ∀ (ts : List Ty) (x : Ty.Els ts) (c : Nat → Option Value) (n : Nat), Ty.sizes ts ≤ n → RTs s ts x c → RTs s ts x (fun j => if j < n then c j else none)
 | [], _, _, _, _, _ => by simp only [RTs]
 | t :: ts, x, c, n, hn, h => by
  simp only [Ty.sizes] at hn
  simp only [RTs] at h ⊢
  refine ⟨RT_cut t x.1 c n (by omega) h.1, RTs_mono (Step.refl s) _ _ _ _ ?_ (RTs_cut ts x.2 _ (n - t.size) (by omega) h.2)⟩
  intro j v hv
  split at hv
  ·rw [if_pos (by omega)]; exact hv
  ·cases hv
end
section
variable {P : Program} {tb : Tb}

/-! ### Equality of data -/
def VT (s : St) : (t : Ty) → t.El → Value → Prop
 | .st fs, x, v => ∃ cs, v = .agg cs ∧ RTs s fs x (fun j => cs[j]?)
 | .bool, x, v => v = .bool x
 | .int k, x, v => v = .int k x
 | .str, x, v => v = .string x
 | .sl e, l, v => RLst s e l v
 | .ifc Ts ts, x, v => RA s ts Ts x v
 | .raw _, x, v => let x' : Option Nat := x; v = .pointer (x'.map fun b => ⟨b, 0, none⟩)
theorem eqTs_cons (t : Ty) (ts : List Ty) (a b : Ty.Els (t :: ts)) : eqTs (t :: ts) a b = (eqT t a.1 b.1 && eqTs ts a.2 b.2) := by
 cases ts with
 | nil => simp [eqTs]
 | cons u us => simp [eqTs]
theorem chk_bool {d : Nat} {T : TypeId} (h : chkC P (d + 1) T .bool = true) : P.underlying T = some .bool := by
 unfold chkC at h; split at h <;> simp_all
theorem chk_int {d : Nat} {T : TypeId} {k : IntKind} (h : chkC P (d + 1) T (.int k) = true) : P.underlying T = some (.int k) := by
 unfold chkC at h; split at h <;> simp_all
theorem chk_str {d : Nat} {T : TypeId} (h : chkC P (d + 1) T .str = true) : P.underlying T = some .string := by
 unfold chkC at h; split at h <;> simp_all
theorem chk_sl {d : Nat} {T : TypeId} {e : Ty} (h : chkC P (d + 1) T (.sl e) = true) : ∃ E, P.underlying T = some (.slice E) ∧ chkC P d E e = true := by
 unfold chkC at h; split at h <;> simp_all
theorem chk_st {d : Nat} {T : TypeId} {ts : List Ty} (h : chkC P (d + 1) T (.st ts) = true) : ∃ gs, P.underlying T = some (.struct gs) ∧ P.stoodInHeld T = false ∧ P.eqGuardType P.depth T = false ∧ chkFs P (chkC P d) gs.toList ts 0 = true := by
 unfold chkC at h; split at h <;> simp_all
theorem chk_ifc {d : Nat} {T : TypeId} {Ts : List TypeId} {ts : List Ty} (h : chkC P (d + 1) T (.ifc Ts ts) = true) : ∃ a, P.underlying T = some (.interface a) := by
 unfold chkC at h; split at h <;> simp_all
theorem chk_raw {d : Nat} {T : TypeId} {K : Nat} (h : chkC P (d + 1) T (.raw K) = true) : ∃ e, P.underlying T = some (.pointer e) := by
 unfold chkC at h; split at h <;> simp_all
theorem info_of_und {T : TypeId} {d : TypeDesc} (h : P.underlying T = some d) : ∃ i, P.info? T = some i := by
 cases hi : P.info? T with
 | some i => exact ⟨i, rfl⟩
 | none => simp [Program.underlying, hi] at h
theorem agg_run {T : TypeId} {d : TypeDesc} (h : P.underlying T = some d) (w : World) : (isAgg T).run P w = .ok d.isRow w := by
 unfold isAgg
 rw [Sem.run_bind, run_underlying h w]
 cases d <;> rfl
theorem part_code {s : St} {d : Nat} {T : TypeId} : ∀ {t : Ty} (_h : chkC P (d + 1) T t = true) (_hsz : P.cellsOf T = t.size) {xs : Array Value} {off : Nat} {x : t.El} (_hx : RT s t x (fun j => xs[off + j]?)),
  ∃ v, (part T xs off).run P s.w = .ok v s.w ∧ VT s t x v
 | .st fs, h, hsz, xs, off, x, hx => by
  obtain ⟨gs, hu, _⟩ := chk_st h
  obtain ⟨i, hi⟩ := info_of_und hu
  have hs : (Go.sizeOf T).run P s.w = .ok (Ty.st fs).size s.w := by
   simp only [Program.cellsOf, hi] at hsz
   simp [Go.sizeOf, typeInfo, hi]
   simpa using hsz
  refine ⟨.agg (xs.extract off (off + (Ty.st fs).size)), ?_, ?_⟩
  ·unfold part
   rw [Sem.run_bind, agg_run hu s.w]
   simp [TypeDesc.isRow, hs]
  ·simp only [VT]
   refine ⟨_, rfl, ?_⟩
   simp only [RT] at hx
   refine RTs_mono (Step.refl s) _ _ _ _ ?_ (RTs_cut fs x _ (Ty.st fs).size (by simp only [Ty.size]; exact Nat.le_refl _) hx)
   intro j v hv
   split at hv
   ·rename_i hj
    rw [Array.getElem?_extract, if_pos (by
     have := (Array.getElem?_eq_some_iff.1 hv).1
     omega)]
    exact hv
   ·cases hv
 | .bool, h, _, xs, off, x, hx => by
  simp only [RT, Nat.add_zero] at hx
  exact ⟨.bool x, by unfold part; rw [Sem.run_bind, agg_run (chk_bool h) s.w]; simp [TypeDesc.isRow, hx], by simp only [VT]⟩
 | .int k, h, _, xs, off, x, hx => by
  simp only [RT, Nat.add_zero] at hx
  exact ⟨.int k x, by unfold part; rw [Sem.run_bind, agg_run (chk_int h) s.w]; simp [TypeDesc.isRow, hx], by simp only [VT]⟩
 | .str, h, _, xs, off, x, hx => by
  simp only [RT, Nat.add_zero] at hx
  exact ⟨.string x, by unfold part; rw [Sem.run_bind, agg_run (chk_str h) s.w]; simp [TypeDesc.isRow, hx], by simp only [VT]⟩
 | .raw K, h, _, xs, off, x, hx => by
  obtain ⟨_, hu⟩ := chk_raw h
  simp only [RT, Nat.add_zero] at hx
  exact ⟨.pointer (Option.map (fun b => ⟨b, 0, none⟩) x), by unfold part; rw [Sem.run_bind, agg_run hu s.w]; simp [TypeDesc.isRow, hx], by simp only [VT]⟩
 | .ifc Ts ts, h, _, xs, off, x, hx => by
  obtain ⟨_, hu⟩ := chk_ifc h
  simp only [RT, Nat.add_zero] at hx
  obtain ⟨v, h0, h1⟩ := hx
  exact ⟨v, by unfold part; rw [Sem.run_bind, agg_run hu s.w]; simp only [TypeDesc.isRow, Result.andThen_ok, Bool.false_eq_true, if_false, h0]; rfl, by simp only [VT]; exact h1⟩
 | .sl e, h, _, xs, off, x, hx => by
  obtain ⟨E, hu, _⟩ := chk_sl h
  simp only [RT, Nat.add_zero] at hx
  obtain ⟨a, cap, h0, h1, h2⟩ := hx
  exact ⟨_, by unfold part; rw [Sem.run_bind, agg_run hu s.w]; simp only [TypeDesc.isRow, Result.andThen_ok, Bool.false_eq_true, if_false, h0]; rfl, by simp only [VT]; exact ⟨a, cap, rfl, h1, h2⟩⟩

theorem eqFields_run {s : St} {d m : Nat} (ih : ∀ (T : TypeId) (t : Ty) (x y : t.El) (cx cy : Value), chkC P (d + 1) T t = true → t.flatEq = true → VT s t x cx → VT s t y cy → (Op.equalIn m T cx cy).run P s.w = .ok (eqT t x y) s.w) :
  ∀ (fs : List Field) (ts : List Ty) (off : Nat) (x y : Ty.Els ts) (xs ys : Array Value), chkFs P (chkC P (d + 1)) fs ts off = true → Ty.flatEqs ts = true → RTs s ts x (fun j => xs[off + j]?) → RTs s ts y (fun j => ys[off + j]?) →
   (Op.eqFields m xs ys fs).run P s.w = .ok (eqTs ts x y) s.w
 | [], [], off, x, y, xs, ys, _, _, _, _ => by simp [Op.eqFields, eqTs]
 | [], _ :: _, off, x, y, xs, ys, h, _, _, _ => by simp [chkFs] at h
 | _ :: _, [], off, x, y, xs, ys, h, _, _, _ => by simp [chkFs] at h
 | f :: fs, t :: ts, off, x, y, xs, ys, h, hf, hx, hy => by
  simp only [chkFs, Bool.and_eq_true] at h
  obtain ⟨⟨⟨⟨h1, h2⟩, h3⟩, h4⟩, h5⟩ := h
  have h2 := Nat.eq_of_beq_eq_true h2
  have h4 := Nat.eq_of_beq_eq_true h4
  simp only [Ty.flatEqs, Bool.and_eq_true] at hf
  simp only [RTs] at hx hy
  obtain ⟨vx, ex, hvx⟩ := part_code (s := s) h3 h4 (xs := xs) (off := off) hx.1
  obtain ⟨vy, ey, hvy⟩ := part_code (s := s) h3 h4 (xs := ys) (off := off) hy.1
  have hq := ih f.type t x.1 y.1 vx vy h3 hf.1 hvx hvy
  have assoc : ∀ (zs : Array Value), (fun j => zs[off + (t.size + j)]?) = (fun j => zs[off + t.size + j]?) := fun zs => by funext j; rw [Nat.add_assoc]
  have hx2 := hx.2
  have hy2 := hy.2
  simp only [assoc] at hx2 hy2
  have hrest := eqFields_run ih fs ts (off + t.size) x.2 y.2 xs ys h5 hf.2 hx2 hy2
  rw [eqTs_cons]
  have h1' : f.name ≠ "_" := by simpa using h1
  simp only [Op.eqFields, if_pos h1', Sem.run_bind, h2, ex, ey, hq, Result.andThen_ok]
  cases eqT t x.1 y.1
  ·simp
  ·simp [hrest]
theorem equalIn_run {s : St} : ∀ (d m : Nat) (T : TypeId) (t : Ty) (x y : t.El) (cx cy : Value), d ≤ m → chkC P d T t = true → t.flatEq = true → VT s t x cx → VT s t y cy → (Op.equalIn m T cx cy).run P s.w = .ok (eqT t x y) s.w
 | 0, _, _, _, _, _, _, _, _, h, _, _, _ => by simp [chkC] at h
 | d + 1, 0, _, _, _, _, _, _, hm, _, _, _, _ => by omega
 | d + 1, m + 1, T, .bool, x, y, cx, cy, hm, h, _, hx, hy => by
  simp only [VT] at hx hy
  subst hx hy
  rw [run_equalIn_bool' s.w m T x y (chk_bool h)]
  simp only [eqT]
 | d + 1, m + 1, T, .int k, x, y, cx, cy, hm, h, _, hx, hy => by
  simp only [VT] at hx hy
  subst hx hy
  rw [run_equalIn_int s.w m T k k x y (chk_int h)]
  simp only [eqT]
 | d + 1, m + 1, T, .str, x, y, cx, cy, hm, h, _, hx, hy => by
  simp only [VT] at hx hy
  subst hx hy
  rw [run_equalIn_string s.w m T x y (chk_str h)]
  simp only [eqT]
  exact congrArg (fun b => Result.ok b s.w) (sEq_model x y)
 | d + 1, m + 1, T, .sl e, x, y, cx, cy, hm, h, hf, hx, hy => by simp [Ty.flatEq] at hf
 | d + 1, m + 1, T, .st fs, x, y, cx, cy, hm, h, hf, hx, hy => by
  obtain ⟨gs, hu, h1, _, h2⟩ := chk_st h
  simp only [VT] at hx hy
  obtain ⟨xs, rfl, hx⟩ := hx
  obtain ⟨ys, rfl, hy⟩ := hy
  simp only [Ty.flatEq] at hf
  have hfs : P.fieldsOf T = gs := by simp [Program.fieldsOf, hu]
  rw [run_equalIn_struct s.w m T xs ys (by rw [hfs]; exact hu) h1, hfs]
  simp only [eqT]
  cases d with
  | zero =>
   cases fs with
   | nil => cases hg : gs.toList <;> simp_all [chkFs, Op.eqFields, eqTs]
   | cons t ts => cases hg : gs.toList <;> simp_all [chkFs, chkC]
  | succ d =>
   exact eqFields_run (fun T t x y cx cy h hf hx hy => equalIn_run (d + 1) m T t x y cx cy (by omega) h hf hx hy) gs.toList fs 0 x y xs ys h2 hf (by simpa using hx) (by simpa using hy)
end
end Av
