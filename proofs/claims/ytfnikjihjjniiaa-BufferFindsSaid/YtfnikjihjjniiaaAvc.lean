/-
  An abstract reading of values and memory: values that are put together.
  An abstract reading of values and memory: slices; and all operations that only read or make memory.
-/
import Derived.Test.YtfnikjihjjniiaaAva
import Derived.Laws.Tables
import Derived.Great.FillDense
import Derived.Great.BuildSlice
import Derived.Laws.BytesString
import Derived.Laws.Cells
namespace Av
open Go
/-- Operands of a composite, and what they stand for. -/
def RP (s : St) : List (Nat × AV) → List (Nat × Value) → Prop
  | [], ws => ws = []
  | p :: ps, ws => ∃ v ws', ws = (p.1, v) :: ws' ∧ R s p.2 v ∧ RP s ps ws'
theorem RP_map {s : St} {ρ : Operand → AV} {ev : Operand → Value} (h : ∀ x, R s (ρ x) (ev x)) : ∀ (l : List (Nat × Operand)), RP s (l.map fun p => (p.1, ρ p.2)) (l.map fun p => (p.1, ev p.2))
  | [] => rfl
  | p :: l => ⟨ev p.2, _, rfl, h p.2, RP_map h l⟩

theorem splice_fold (z : Array Value) (off : Nat) (l : List Value) (h : off + l.length ≤ z.size) :
    (l.zipIdx.foldl (fun cs (x : Value × Nat) => cs.setIfInBounds (off + x.2) x.1) z).toList = z.toList.take off ++ (l ++ z.toList.drop (off + l.length)) := by
  obtain ⟨h1, h2⟩ := Great.foldl_set off l 0 z
  apply List.ext_getElem?
  intro k
  rw [Array.getElem?_toList, h2 k]
  simp only [Nat.add_zero]
  by_cases a : off ≤ k
  · by_cases b : k < off + l.length
    · rw [if_pos ⟨a, b, by omega⟩, List.getElem?_append_right (by simp; omega), List.getElem?_append_left (by simp; omega)]
      congr 1
      simp
      omega
    · rw [if_neg (by omega), List.getElem?_append_right (by simp; omega), List.getElem?_append_right (by simp; omega), List.getElem?_drop, Array.getElem?_toList]
      congr 1
      simp
      omega
  · rw [if_neg (by omega), List.getElem?_append_left (by simp; omega), List.getElem?_take, if_pos (by omega), Array.getElem?_toList]
section
variable {P : Program} {tb : Tb}
theorem fillA_fill {s : St} {place : Nat → Option (Nat × Nat)} {fs : List (TypeId × Nat)} (hp : ∀ i ft off ti, fs[i]? = some (ft, off) → lk tb ft = some ti → place i = some (off, ti.size)) :
    ∀ (ps : List (Nat × AV)) (ws : List (Nat × Value)) (z : List AV) (zc : Array Value) (cs : List AV), fillA tb fs z ps = some cs → RP s ps ws → RL s z zc.toList → (∀ u ∈ zc.toList, u.oneCell' = true) →
      ∃ cells, Instr.fill place zc ws = some cells ∧ RL s cs cells.toList ∧ ∀ u ∈ cells.toList, u.oneCell' = true
  | [], ws, z, zc, cs, h, hr, hz, h1 => by
    simp only [fillA] at h
    cases h
    simp only [RP] at hr
    subst hr
    exact ⟨zc, rfl, hz, h1⟩
  | (i, x) :: ps, ws, z, zc, cs, h, hr, hz, h1 => by
    simp only [RP] at hr
    obtain ⟨v, ws', rfl, hx, hr⟩ := hr
    simp only [fillA] at h
    split at h
    · cases h
    · rename_i ft off hi
      split at h
      · rename_i ti new hl hc
        cases hb : (Nat.beq new.length ti.size && Nat.ble (off + new.length) z.length) with
        | false => rw [hb] at h; cases h
        | true =>
          rw [hb] at h
          simp only [Bool.and_eq_true] at hb
          have hsz := Nat.eq_of_beq_eq_true hb.1
          have hle := Nat.le_of_ble_eq_true hb.2
          obtain ⟨vs, hv, hn, hn1⟩ := cellsOf_R hc (R_tyNil hx)
          have hlen := RL_vals hn
          have hzl := RL_vals hz
          have hzs : zc.toList.length = zc.size := by simp
          have hfold := splice_fold zc off vs (by omega)
          have hrl : RL s (splice z off new) (zc.toList.take off ++ (vs ++ zc.toList.drop (off + vs.length))) := by
            unfold splice
            rw [hlen]
            exact RL_append (RL_take _ hz) (RL_append hn (RL_drop _ hz))
          have hone : ∀ u ∈ (zc.toList.take off ++ (vs ++ zc.toList.drop (off + vs.length))), u.oneCell' = true := by
            intro u hu
            rcases List.mem_append.1 hu with hu | hu
            · exact h1 u (List.mem_of_mem_take hu)
            · rcases List.mem_append.1 hu with hu | hu
              · exact hn1 u hu
              · exact h1 u (List.mem_of_mem_drop hu)
          rw [← hfold] at hrl hone
          obtain ⟨cells, h2, h3, h4⟩ := fillA_fill hp ps ws' _ _ cs h hr hrl hone
          refine ⟨cells, ?_, h3, h4⟩
          have hvs : v.cells.size = ti.size := by rw [hv]; simp; omega
          have hns : v.cells.size = vs.length := by rw [hv]; simp
          simp only [Instr.fill, hp i ft off ti hi hl]
          rw [if_neg (by
            simp only [Bool.or_eq_true, decide_eq_true_eq, ne_eq]
            rw [hvs]
            simp
            omega)]
          have hz2 : v.cells.zipIdx.foldl (fun cs (x : Value × Nat) => cs.setIfInBounds (off + x.2) x.1) zc = vs.zipIdx.foldl (fun cs (x : Value × Nat) => cs.setIfInBounds (off + x.2) x.1) zc := by
            rw [hv, ← Array.foldl_toList]
            simp
          show Instr.fill place (v.cells.zipIdx.foldl (fun cs (x : Value × Nat) => cs.setIfInBounds (off + x.2) x.1) zc) ws' = some cells
          rw [hz2]
          exact h2
      · cases h
theorem places_of {gs : List Field} : ∀ {fs : List (TypeId × Nat)}, fs = gs.map (fun f => (f.type, f.offset)) → (∀ p ∈ fs, ∃ i, P.info? p.1 = some i) →
    ∃ pl, gs.mapM (fun f => (P.info? f.type).map fun i => (f.offset, i.size)) = some pl ∧ ∀ (i : Nat) (ft : TypeId) (off : Nat), fs[i]? = some (ft, off) → pl[i]? = some (off, P.cellsOf ft) := by
  induction gs with
  | nil =>
    intro fs h _
    subst h
    exact ⟨[], by simp, by simp⟩
  | cons g gs ih =>
    intro fs h hi
    subst h
    obtain ⟨i0, h0⟩ := hi (g.type, g.offset) (by simp)
    obtain ⟨pl, h1, h2⟩ := ih rfl (fun p hp => hi p (by simp only [List.map_cons, List.mem_cons]; exact .inr hp))
    refine ⟨(g.offset, i0.size) :: pl, by simp [List.mapM_cons, h0, h1], ?_⟩
    intro i ft off hq
    cases i with
    | zero =>
      simp only [List.map_cons, List.getElem?_cons_zero, Option.some.injEq, Prod.mk.injEq] at hq
      obtain ⟨rfl, rfl⟩ := hq
      simp [Program.cellsOf, h0]
    | succ i => simpa using h2 i ft off (by simpa using hq)
theorem cellsOf_lk (hT : TbOk P tb) {T : TypeId} {ti : TI} (h : lk tb T = some ti) : P.cellsOf T = ti.size := by
  obtain ⟨i, z, hi, hs, _⟩ := (tb_und hT h).info
  simp [Program.cellsOf, hi, hs]
theorem build_Gv (hT : TbOk P tb) {s : St} (hok : Ok s) {nid : Nat} {T : TypeId} {ps : List (Nat × AV)} {ws : Array (Nat × Value)} (hp : RP s ps ws.toList) {v : AV} {ob : Option AObj} (h : (pBuild tb T ps).Is v ob) : Gv P (Instr.build T ws) s nid v ob := by
  unfold pBuild at h
  split at h
  · rename_i ti hl
    split at h
    · rename_i fs hk
      split at h
      · rename_i cs hc
        obtain ⟨rfl, rfl⟩ := h
        obtain ⟨gs, hu, he⟩ := struct_und hT hl hk
        obtain ⟨i, z, hi, hs, _, hz, hzf⟩ := (tb_und hT hl).info
        obtain ⟨pl, hpl, hpi⟩ := places_of (P := P) he ((tb_und hT hl).flds fs hk)
        obtain ⟨hz1, hz2⟩ := zf_RL (s := s) hzf
        obtain ⟨cells, h1, h2, h3⟩ := fillA_fill (tb := tb) (s := s) (place := fun i => pl.toArray[i]?) (fs := fs) (fun i ft off ti' hi' hl' => by
          have := hpi i ft off hi'
          rw [cellsOf_lk hT hl'] at this
          simpa using this) ps ws.toList ti.zero z.cells cs hc hp hz1 hz2
        refine Gv.same (cv := .agg cells) hok (run_build s.w T ws cells ?_) ?_
        · simp only [Program.built, hi, hu, hz, hpl]
          exact h1
        · simp only [R]
          exact ⟨cells.toList, by simp, h2, h3⟩
      · exact h.elim
    · rename_i n e hk
      split at h
      · rename_i te hle
        split at h
        · rename_i cs hc
          obtain ⟨rfl, rfl⟩ := h
          have hu := array_und hT hl hk
          obtain ⟨i, z, hi, hs, _, hz, hzf⟩ := (tb_und hT hl).info
          obtain ⟨ie, _, hie, hse, _⟩ := (tb_und hT hle).info
          obtain ⟨hz1, hz2⟩ := zf_RL (s := s) hzf
          obtain ⟨cells, h1, h2, h3⟩ := fillA_fill (tb := tb) (s := s) (place := fun i => some (i * ie.size, ie.size)) (fs := arFs e te.size n 0) (fun i ft off ti' hi' hl' => by
            obtain ⟨rfl, rfl⟩ := arFs_at hi'
            rw [hle] at hl'
            cases hl'
            rw [hse, Nat.zero_add]) ps ws.toList ti.zero z.cells cs hc hp hz1 hz2
          refine Gv.same (cv := .agg cells) hok (run_build s.w T ws cells ?_) ?_
          · simp only [Program.built, hi, hu, hz, hie]
            exact h1
          · simp only [R]
            exact ⟨cells.toList, by simp, h2, h3⟩
        · exact h.elim
      · exact h.elim
    · exact h.elim
  · exact h.elim
/-! ### New rows -/
theorem newArr_Gv {e : Sem Value} {s : St} (hok : Ok s) {nid : Nat} (hfr : Free s.h nid) {E : TypeId} {t : Ty} {l : List t.El} {n : Nat} {xs : List Value} {w' : World} (hn : n ≤ l.length)
    (hr : e.run P s.w = .ok (.slice (some ⟨s.w.heap.size, 0, none⟩) n l.length) w') (hw : Grew s.w w') (hown : w'.ownsRow 0 E t.size (.slice (some ⟨s.w.heap.size, 0, none⟩) l.length l.length) l.length xs)
    (h1 : ∀ u ∈ xs, u.oneCell' = true) (hx : ∀ i x, l[i]? = some x → RT s t x (fun j => xs[i * t.size + j]?)) : ∀ (fl : Bool), Gv P e s nid (.own nid 0 n) (some (.arr E t l fl 0)) := by
  intro fl
  have hb : ∀ b, blkOf (.slice (some ⟨s.w.heap.size, 0, none⟩) l.length l.length) = some b → s.w.heap.size ≤ b := by
    intro b hb; cases hb; exact Nat.le_refl _
  have hst := St.new_step (s := s) (nid := nid) hfr (ob := .arr E t l fl 0) hw hb
  refine ⟨_, s.new nid (.arr E t l fl 0) (.slice (some ⟨s.w.heap.size, 0, none⟩) l.length l.length) w', hr, hst, St.new_ok hok hfr hw hb ?_, ?_, rfl⟩
  · refine ⟨xs, ?_, h1, fun i x hi => RT_mono hst t x _ _ (fun _ _ hv => hv) (hx i x hi), fun _ => ⟨some ⟨s.w.heap.size, 0, none⟩, by simp only [St.new, upd_same]⟩⟩
    simp only [St.new, upd_same]
    exact hown
  · simp only [R]
    refine ⟨by simp only [St.new, kn, put_same hfr], _, _, rfl, fun T t' l' f' g0 hc => ?_⟩
    simp only [St.new, put_same hfr] at hc
    cases hc
    exact ⟨Nat.le_refl _, fun _ => ⟨hn, l.length, by simp only [St.new, upd_same]⟩⟩
theorem decList_spec {s : St} {t : Ty} : ∀ (ps : List (Nat × AV)) (k : Nat) (l : List t.El) (ws : List (Nat × Value)), decList t k ps = some l → RP s ps ws →
    ∃ vs : List Value, ws = (vs.zipIdx k).map (fun x => (x.2, x.1)) ∧ vs.length = l.length ∧ ps.length = l.length ∧ (∀ v ∈ vs, v.cells.size = t.size) ∧ (∀ u ∈ vs.flatMap (fun v => v.cells.toList), u.oneCell' = true) ∧
      ∀ i x, l[i]? = some x → RT s t x (fun j => (vs.flatMap fun v => v.cells.toList)[i * t.size + j]?)
  | [], k, l, ws, h, hr => by
    simp only [decList] at h
    cases h
    simp only [RP] at hr
    subst hr
    exact ⟨[], rfl, rfl, rfl, by simp, by simp, by simp⟩
  | (i, x) :: ps, k, l, ws, h, hr => by
    simp only [RP] at hr
    obtain ⟨v, ws', rfl, hx, hr⟩ := hr
    simp only [decList] at h
    cases hb : Nat.beq i k with
    | false => rw [hb] at h; cases h
    | true =>
      rw [hb] at h
      have := Nat.eq_of_beq_eq_true hb
      subst this
      simp only [cond_true] at h
      split at h
      · rename_i cs hc
        split at h
        · rename_i y ys hy hys
          cases h
          obtain ⟨vs, h1, h2, h3, h4, h5, h6⟩ := decList_spec ps (i + 1) ys ws' hys hr
          obtain ⟨us, hv, hu, hu1⟩ := cellsOf_R hc hx
          have hsz := dec_size t cs y hy
          have hul := RL_vals hu
          have hvs : v.cells.toList = us := by rw [hv]
          refine ⟨v :: vs, ?_, by simp [h2], by simp [h3], ?_, ?_, ?_⟩
          · rw [h1]; simp [List.zipIdx_cons]
          · intro v' hv'
            rcases List.mem_cons.1 hv' with rfl | hv'
            · rw [hv]; simp; omega
            · exact h4 v' hv'
          · intro u hu'
            simp only [List.flatMap_cons, List.mem_append] at hu'
            rcases hu' with hu' | hu'
            · rw [hvs] at hu'; exact hu1 u hu'
            · exact h5 u hu'
          · intro j z hz
            cases j with
            | zero =>
              simp only [List.getElem?_cons_zero, Option.some.injEq] at hz
              subst hz
              have hd := dec_RT (s := s) t cs y (fun j => us[j]?) hy (RC_of_RL hu hu1 (fun j v hv => hv))
              refine RT_mono (Step.refl s) _ _ _ _ ?_ hd
              intro j v' hv'
              simp only [Nat.zero_mul, Nat.zero_add, List.flatMap_cons, hvs]
              have : j < us.length := (List.getElem?_eq_some_iff.1 hv').1
              rw [List.getElem?_append_left this]
              exact hv'
            | succ j =>
              simp only [List.getElem?_cons_succ] at hz
              refine RT_mono (Step.refl s) _ _ _ _ ?_ (h6 j z hz)
              intro m v' hv'
              simp only [List.flatMap_cons, hvs]
              rw [List.getElem?_append_right (by rw [Nat.add_mul]; omega)]
              rw [← hv']
              congr 1
              rw [Nat.add_mul]
              omega
        · cases h
      · cases h
theorem zrow_RL {s : St} {as : List AV} {vs : List Value} (h : RL s as vs) (h1 : ∀ u ∈ vs, u.oneCell' = true) : ∀ n, RL s (zrow as n) (zrow vs n) ∧ ∀ u ∈ zrow vs n, u.oneCell' = true
  | 0 => by simp [zrow, RL]
  | n + 1 => by
    obtain ⟨h2, h3⟩ := zrow_RL h h1 n
    refine ⟨RL_append h h2, fun u hu => ?_⟩
    rcases List.mem_append.1 hu with hu | hu
    · exact h1 u hu
    · exact h3 u hu
theorem zrow_range (vs : List Value) (hk : 0 < vs.length) : ∀ n, (List.range (n * vs.length)).map (fun j => vs[j % vs.length]!) = zrow vs n
  | 0 => by simp [zrow]
  | n + 1 => by
    rw [Nat.add_mul, Nat.one_mul, Nat.add_comm, List.range_add, List.map_append, List.map_map, zrow]
    congr 1
    · refine List.ext_getElem (by simp) fun i h1 h2 => ?_
      simp only [List.getElem_map, List.getElem_range, Nat.mod_eq_of_lt h2]
      exact getElem!_pos vs i h2
    · rw [← zrow_range vs hk n]
      refine List.map_congr_left fun j _ => ?_
      simp
theorem newCsl_Gv {e : Sem Value} {s : St} (hok : Ok s) {nid : Nat} (hf : Free s.h nid) {T : TypeId} {cs : List AV} {n c : Nat} {vs : List Value} (hl : RL s cs vs) (h1 : ∀ u ∈ vs, u.oneCell' = true)
    (hr : e.run P s.w = .ok (.slice (some ⟨s.w.heap.size, 0, none⟩) n c) (s.w.alloc (.cells vs.toArray T))) : Gv P e s nid (.csl nid n c) (some (.cells T cs)) := by
  have hb : ∀ b, blkOf (.pointer (some ⟨s.w.heap.size, 0, none⟩)) = some b → s.w.heap.size ≤ b := by
    intro b hb; cases hb; exact Nat.le_refl _
  have hg := Grew.alloc s.w (.cells vs.toArray T)
  have hst := St.new_step (s := s) (nid := nid) hf (ob := .cells T cs) (v := .pointer (some ⟨s.w.heap.size, 0, none⟩)) hg hb
  refine ⟨_, s.new nid (.cells T cs) (.pointer (some ⟨s.w.heap.size, 0, none⟩)) _, hr, hst, St.new_ok hok hf hg hb ?_, ?_, rfl⟩
  · refine ⟨s.w.heap.size, vs, [], by simp only [St.new, upd_same], ?_, RL_mono hst cs vs hl, h1⟩
    show (s.w.heap.push (.cells vs.toArray T))[s.w.heap.size]? = _
    simp
  · simp only [R]
    refine ⟨?_, s.w.heap.size, rfl, fun T' cs' hc => by simp only [St.new, upd_same]⟩
    simp only [St.new, kn, put_same hf]
theorem buildSlice_Gv (hT : TbOk P tb) {s : St} (hok : Ok s) {nid : Nat} (hf : Free s.h nid) {T : TypeId} {n : Nat} {ps : List (Nat × AV)} {ws : Array (Nat × Value)} (hp : RP s ps ws.toList) {v : AV} {ob : Option AObj} (h : (pBuildSlice tb nid T n ps).Is v ob) :
    Gv P (Instr.buildSlice T n ws) s nid v ob := by
  unfold pBuildSlice at h
  split at h
  · rename_i ti hl
    split at h
    · rename_i e hk
      split at h
      · rename_i te he
        split at h
        · rename_i t hc
          split at h
          · rename_i l hd
            cases hb : (Nat.beq n ps.length && Nat.ble (n * te.size) 16777216) with
            | false => rw [hb] at h; exact h.elim
            | true =>
              rw [hb] at h
              obtain ⟨rfl, rfl⟩ := h
              simp only [Bool.and_eq_true] at hb
              have hn := Nat.eq_of_beq_eq_true hb.1
              have hle := Nat.le_of_ble_eq_true hb.2
              have hu := slice_und hT hl hk
              obtain ⟨vs, h1, h2, h3, h4, h5, h6⟩ := decList_spec ps 0 l ws.toList hd hp
              obtain ⟨ie, z, hie, hs, _, hz, hzf⟩ := (tb_und hT he).info
              have hsz := ((tb_und hT he).code t hc).1
              have hpos := (tb_und hT he).pos
              obtain rfl : n = l.length := by omega
              have hws : ws = ((vs.zipIdx 0).map (fun x => (x.2, x.1))).toArray := by rw [← h1]
              have hcells : (vs.flatMap fun v => v.cells.toList).length = l.length * t.size := by
                rw [← h2]
                clear h1 h2 h5 h6 hws
                induction vs with
                | nil => simp
                | cons v vs ih =>
                  simp only [List.flatMap_cons, List.length_append, List.length_cons]
                  rw [ih (fun v hv => h4 v (by simp [hv])), Nat.add_mul]
                  have := h4 v (by simp)
                  simp
                  omega
              refine newArr_Gv hok hf (Nat.le_refl _) (w' := s.w.alloc (.cells (vs.flatMap fun v => v.cells.toList).toArray e)) (xs := vs.flatMap fun v => v.cells.toList) ?_ (Grew.alloc _ _) ?_ h5 h6 false
              · by_cases h0 : l.length * ie.size = 0
                · have hl0 : l.length = 0 := by
                    rcases Nat.mul_eq_zero.1 h0 with h | h
                    · exact h
                    · omega
                  have hv0 : vs = [] := List.eq_nil_of_length_eq_zero (by omega)
                  subst hv0
                  subst hws
                  simp [Instr.buildSlice, run_underlying hu, Go.sizeOf, typeInfo, hie, hl0, Instr.fill, newRow, Array.range_zero']
                · refine run_buildSlice s.w T e l.length ws _ ie z hu hie hz (by rw [hs]; omega) h0 ?_
                  rw [h1]
                  have := Great.fill_whole (s := ie.size) (by omega) vs ((Array.range (l.length * ie.size)).map (z.cells[· % z.cells.size]!)) (fun v hv => by rw [h4 v hv, hsz, hs]) (by simp [h2])
                  exact this
              · have := World.ownsRow_lit (base := 0) (e := e) (size := t.size) s.w (vs.flatMap fun v => v.cells.toList).toArray l.length (Nat.zero_le _) (by
                  simp only [maxLen]
                  have : l.length * 1 ≤ l.length * te.size := Nat.mul_le_mul_left _ hpos
                  omega) (by simpa using hcells)
                simpa using this
          · exact h.elim
        · split at h
          · rename_i cs hc
            cases hb : ((Nat.beq te.zero.length te.size && Nat.ble 1 n) && Nat.ble (n * te.size) 16777216) with
            | false => rw [hb] at h; exact h.elim
            | true =>
              rw [hb] at h
              obtain ⟨rfl, rfl⟩ := h
              simp only [Bool.and_eq_true] at hb
              have hzl := Nat.eq_of_beq_eq_true hb.1.1
              have hn := Nat.le_of_ble_eq_true hb.1.2
              have hle := Nat.le_of_ble_eq_true hb.2
              have hu := slice_und hT hl hk
              obtain ⟨ie, z, hie, hs, _, hz, hzf⟩ := (tb_und hT he).info
              have hpos := (tb_und hT he).pos
              obtain ⟨hz1, hz2⟩ := zf_RL (s := s) hzf
              obtain ⟨hz3, hz4⟩ := zrow_RL hz1 hz2 n
              have hzs : z.cells.toList.length = ie.size := by have := RL_vals hz1; omega
              have hrow : ((Array.range (n * ie.size)).map (z.cells[· % z.cells.size]!)).toList = zrow z.cells.toList n := by
                rw [← zrow_range z.cells.toList (by omega) n, hzs]
                simp [← hzs]
                intro a _
                rw [getElem!_def]
                cases z.cells[a % z.cells.size]? <;> rfl
              obtain ⟨cells, h1, h2, h3⟩ := fillA_fill (tb := tb) (s := s) (place := fun i => some (i * ie.size, ie.size)) (fs := arFs e te.size n 0) (fun i ft off ti' hi' hl' => by
                obtain ⟨rfl, rfl⟩ := arFs_at hi'
                rw [he] at hl'
                cases hl'
                rw [hs, Nat.zero_add]) ps ws.toList (zrow te.zero n) ((Array.range (n * ie.size)).map (z.cells[· % z.cells.size]!)) cs hc hp (by rw [hrow]; exact hz3) (by rw [hrow]; exact hz4)
              have h0 : ¬ n * ie.size = 0 := by
                intro h
                rcases Nat.mul_eq_zero.1 h with h | h <;> omega
              exact newCsl_Gv hok hf (vs := cells.toList) h2 h3 (run_buildSlice s.w T e n ws cells ie z hu hie hz (by rw [hs]; omega) h0 h1)
          · exact h.elim
      · exact h.elim
    · exact h.elim
  · exact h.elim
/-! ### make -/
theorem madeCells_get (z : Array Value) (n j : Nat) (h : j < n) : (madeCells z n).toList[j]? = some z[j % z.size]! := by
  simp [madeCells, h]
theorem make_Gv (hT : TbOk P tb) {s : St} (hok : Ok s) {nid : Nat} (hf : Free s.h nid) {T : TypeId} {x y : AV} {cx cy : Value} (hx : R s x cx) (hy : R s y cy) {v : AV} {ob : Option AObj} (h : (pMake tb nid T x y).Is v ob) : Gv P (Instr.makeSlice T cx cy) s nid v ob := by
  unfold pMake at h
  split at h
  · exact h.elim
  · rename_i ti hl
    split at h
    · rename_i e k n k' c hk
      split at h
      · exact h.elim
      · rename_i te he
        split at h
        · exact h.elim
        · rename_i t hc
          split at h
          · exact h.elim
          · rename_i z hz0
            obtain ⟨⟨h0, hnc, hbytes, h63⟩, rfl, rfl⟩ := h
            simp only [R] at hx hy
            subst hx hy
            have hu := slice_und hT hl hk
            obtain ⟨ie, zv, hie, hs, hby, hz, hzf⟩ := (tb_und hT he).info
            have hsz := ((tb_und hT he).code t hc).1
            have hpos := (tb_und hT he).pos
            obtain ⟨hz1, hz2⟩ := zf_RL (s := s) hzf
            have hzl := RL_vals hz1
            unfold zeroEl at hz0
            have hds := dec_size t te.zero z hz0
            have hzs : zv.cells.size = t.size := by
              have : zv.cells.toList.length = zv.cells.size := by simp
              omega
            have hr := run_make (P := P) s.w T e ie zv hu hie hz k k' n c h0 hnc (by rw [hby, Int.mul_comm]; omega) h63
            have hlen : (List.replicate c.toNat z).length = c.toNat := by simp
            refine newArr_Gv hok hf (l := List.replicate c.toNat z) (by rw [hlen]; omega) (xs := (madeCells zv.cells (c.toNat * ie.size)).toList) (by rw [hlen]; exact hr) (Grew.alloc _ _) ?_ ?_ ?_ true
            · rw [hlen]
              exact World.ownsRow_lit s.w _ c.toNat (Nat.zero_le _) (by simp only [maxLen]; omega) (by rw [size_madeCells, hs, hsz])
            · intro u hu'
              obtain ⟨j, hj, rfl⟩ := List.mem_iff_getElem.1 hu'
              have hj' : j < c.toNat * ie.size := by simpa [size_madeCells] using hj
              have := madeCells_get zv.cells (c.toNat * ie.size) j hj'
              rw [List.getElem?_eq_getElem hj] at this
              rw [Option.some.inj this]
              have hm : j % zv.cells.size < zv.cells.size := Nat.mod_lt _ (by omega)
              rw [getElem!_pos zv.cells (j % zv.cells.size) hm]
              exact hz2 _ (by simp)
            · intro i x hi
              have hil : i < c.toNat := by
                have := (List.getElem?_eq_some_iff.1 hi).1
                simpa using this
              have hxz : z = x := by
                rw [List.getElem?_replicate, if_pos hil] at hi
                exact Option.some.inj hi
              subst hxz
              have hd := dec_RT (s := s) t te.zero z (fun j => zv.cells.toList[j]?) hz0 (RC_of_RL hz1 hz2 (fun j v hv => hv))
              refine RT_mono (Step.refl s) _ _ _ _ ?_ hd
              intro j v' hv'
              have hj : j < zv.cells.size := by
                have := (List.getElem?_eq_some_iff.1 hv').1
                simpa using this
              have hmul : i * t.size + j < c.toNat * ie.size := by
                have : (i + 1) * t.size ≤ c.toNat * t.size := Nat.mul_le_mul_right _ hil
                rw [Nat.add_mul] at this
                rw [hs, ← hsz]
                omega
              rw [madeCells_get _ _ _ hmul]
              have hmod : (i * t.size + j) % zv.cells.size = j := by
                rw [hzs, Nat.mul_comm, Nat.mul_add_mod]
                exact Nat.mod_eq_of_lt (by omega)
              rw [hmod, getElem!_pos zv.cells j hj]
              rw [Array.getElem?_toList, Array.getElem?_eq_getElem hj] at hv'
              exact hv'
    · exact h.elim

/-! ### Functions, pointers -/
theorem RL_map {s : St} {ρ : Operand → AV} {ev : Operand → Value} (h : ∀ x, R s (ρ x) (ev x)) : ∀ (l : List Operand), RL s (l.map ρ) (l.map ev)
  | [] => by simp only [List.map_nil, RL]
  | x :: l => by simp only [List.map_cons, RL]; exact ⟨_, _, rfl, h x, RL_map h l⟩
theorem nilCheck_ok {s : St} {x : AV} {cx : Value} (hx : R s x cx) {v : AV} {ob : Option AObj} (h : (pNilCheck x).Is v ob) :
    v = x ∧ ob = none ∧ ((∃ a, cx = .pointer (some a)) ∨ (∃ f a b, cx = .func (.func f) a b) ∨ (∃ t y, cx = .iface t y)) := by
  unfold pNilCheck at h
  split at h
  · obtain ⟨rfl, rfl⟩ := h
    simp only [R] at hx
    obtain ⟨_, b, rfl, _⟩ := hx
    exact ⟨rfl, rfl, .inl ⟨_, rfl⟩⟩
  · obtain ⟨rfl, rfl⟩ := h
    simp only [R] at hx
    obtain ⟨_, b, rfl, _⟩ := hx
    exact ⟨rfl, rfl, .inl ⟨_, rfl⟩⟩
  · obtain ⟨rfl, rfl⟩ := h
    simp only [R] at hx
    obtain ⟨b, o, rfl, _⟩ := hx
    exact ⟨rfl, rfl, .inl ⟨_, rfl⟩⟩
  · obtain ⟨rfl, rfl⟩ := h
    simp only [R] at hx
    obtain ⟨b, o, rfl, _⟩ := hx
    exact ⟨rfl, rfl, .inr (.inl ⟨_, _, _, rfl⟩)⟩
  · obtain ⟨rfl, rfl⟩ := h
    simp only [R] at hx
    obtain ⟨y, rfl, _⟩ := hx
    exact ⟨rfl, rfl, .inr (.inr ⟨_, _, rfl⟩)⟩
  · exact h.elim

/-! ### Type assertions -/
theorem zeroA_run (hT : TbOk P tb) {s : St} {T : TypeId} {ti : TI} (hl : lk tb T = some ti) {z : AV} (h : zeroA ti = some z) : ∃ zv, (zeroValue T).run P s.w = .ok zv s.w ∧ R s z zv := by
  obtain ⟨i, zv, hi, hs, _, hz, hzf⟩ := (tb_und hT hl).info
  have hrow := (tb_und hT hl).row i zv hi hz
  obtain ⟨h1, h2⟩ := zf_RL (s := s) hzf
  refine ⟨zv, by simp [zeroValue, typeInfo, hi, hz], ?_⟩
  unfold zeroA ldA at h
  split at h
  · rename_i hk
    cases hb : Nat.ble ti.size ti.zero.length with
    | false => rw [hb] at h; cases h
    | true =>
      rw [hb] at h
      cases h
      have hlen := RL_vals h1
      have hle := Nat.le_of_ble_eq_true hb
      cases zv <;> simp only [rowZ, hk, Bool.not_true, Bool.true_and] at hrow <;> first
        | (cases hrow; done)
        | skip
      rename_i a
      have hsz := Nat.eq_of_beq_eq_true hrow
      simp only [R]
      have hal : (Value.agg a).cells.toList.length = a.size := by simp [Value.cells]
      refine ⟨a.toList, by simp, ?_, by simpa [Value.cells] using h2⟩
      have : ti.zero.take ti.size = ti.zero := List.take_of_length_le (by omega)
      rw [this]
      simpa [Value.cells] using h1
  · rename_i hk
    split at h
    · rename_i c cs hzc
      have hc1 : zv.cells = #[zv] := by
        cases zv <;> simp only [rowZ, hk, Bool.false_and] at hrow <;> first
          | (cases hrow; done)
          | rfl
      rw [hc1, hzc] at h1
      simp only [RL] at h1
      obtain ⟨v, vs', he, h3, _⟩ := h1
      cases he
      cases h
      exact h3
    · cases h
theorem assert_Gv (hT : TbOk P tb) {s : St} (hok : Ok s) {nid : Nat} {T X : TypeId} {ok : Bool} {x : AV} {cx : Value} (hx : R s x cx) {v : AV} {ob : Option AObj} (h : (pAssert tb x T ok).Is v ob) : Gv P (Instr.typeAssert cx X T ok) s nid v ob := by
  unfold pAssert at h
  split at h
  · exact h.elim
  · rename_i ti hl
    obtain ⟨d, hd, hf⟩ := (tb_und hT hl).und
    split at h
    · exact h.elim
    · rename_i hk
      have hni : ∀ ms, d ≠ .interface ms := by
        rintro ms rfl
        cases hki : ti.kind <;> rw [hki] at hf <;> simp [TK.fits] at hf
        exact hk hki
      have tup2 : ∀ a b : AV, ∀ ca cb : Value, R s a ca → R s b cb → R s (.tup [a, b]) (.tuple #[ca, cb]) := fun a b ca cb ha hb => by
        simp only [R, RL]
        exact ⟨[ca, cb], rfl, ca, [cb], rfl, ha, cb, [], rfl, hb, rfl⟩
      split at h
      · rename_i t y
        simp only [R] at hx
        obtain ⟨cy, rfl, hy⟩ := hx
        split at h
        · rename_i hb
          obtain ⟨rfl, rfl⟩ := h
          have := Nat.eq_of_beq_eq_true hb
          subst this
          refine Gv.same (cv := .tuple #[cy, .bool true]) hok ?_ (tup2 _ _ _ _ hy (by simp only [R]))
          simp only [Instr.typeAssert, Sem.run_bind, run_underlying hd, Result.andThen_ok]
          cases d <;> first
            | (exact absurd rfl (hni _))
            | simp
        · rename_i hb
          obtain ⟨rfl, rfl⟩ := h
          have := Nat.eq_of_beq_eq_true hb
          subst this
          refine Gv.same (cv := cy) hok ?_ hy
          simp only [Instr.typeAssert, Sem.run_bind, run_underlying hd, Result.andThen_ok]
          cases d <;> first
            | (exact absurd rfl (hni _))
            | simp
        · rename_i hb
          split at h
          · rename_i z hz
            obtain ⟨rfl, rfl⟩ := h
            have hne : t ≠ T := by rintro rfl; simp at hb
            obtain ⟨zv, hzr, hzv⟩ := zeroA_run hT (s := s) hl hz
            refine Gv.same (cv := .tuple #[zv, .bool false]) hok ?_ (tup2 _ _ _ _ hzv (by simp only [R]))
            simp only [Instr.typeAssert, Sem.run_bind, run_underlying hd, Result.andThen_ok]
            cases d <;> first
              | (exact absurd rfl (hni _))
              | simp [hne, hzr]
          · exact h.elim
        · exact h.elim
      · simp only [R] at hx
        subst hx
        split at h
        · split at h
          · rename_i z hz
            obtain ⟨rfl, rfl⟩ := h
            obtain ⟨zv, hzr, hzv⟩ := zeroA_run hT (s := s) hl hz
            refine Gv.same (cv := .tuple #[zv, .bool false]) hok ?_ (tup2 _ _ _ _ hzv (by simp only [R]))
            simp only [Instr.typeAssert, Sem.run_bind, run_underlying hd, Result.andThen_ok]
            cases d <;> first
              | (exact absurd rfl (hni _))
              | simp [hzr]
          · exact h.elim
        · exact h.elim
      · exact h.elim
theorem minmax_Gv {s : St} (hok : Ok s) {nid : Nat} {mx : Bool} {xs : List AV} {cs : List Value} (hx : RL s xs cs) {A : Array TypeId} {ty : TypeId} {v : AV} {ob : Option AObj} (h : (pMinMax mx xs).Is v ob) :
    Gv P (if mx then Builtin.max_ A ty cs.toArray else Builtin.min_ A ty cs.toArray) s nid v ob := by
  unfold pMinMax at h
  split at h
  · rename_i k a k' b
    simp only [RL, R] at hx
    obtain ⟨_, _, rfl, rfl, _, _, rfl, rfl, rfl⟩ := hx
    split at h
    · obtain ⟨rfl, rfl⟩ := h
      refine Gv.same (cv := .int k (if a < b then b else a)) hok ?_ (by simp only [R])
      simp [Builtin.max_, Builtin.max2]
    · obtain ⟨rfl, rfl⟩ := h
      refine Gv.same (cv := .int k (if b < a then b else a)) hok ?_ (by simp only [R])
      simp [Builtin.min_, Builtin.min2]
  · rename_i a b
    simp only [RL, R] at hx
    obtain ⟨_, _, rfl, rfl, _, _, rfl, rfl, rfl⟩ := hx
    split at h
    · exact h.elim
    · obtain ⟨rfl, rfl⟩ := h
      refine Gv.same (cv := .string (if sLt b a then b else a)) hok ?_ (by simp only [R])
      have hgt : (Op.bytesLess a.toList b.toList || a.toList == b.toList) = !sLt b a := by
        rw [sLt, ← bytesLess_tri, ByteArray.toList_eq, ByteArray.toList_eq]
      simp only [Bool.false_eq_true, if_false, Builtin.min_, List.foldlM_cons, List.foldlM_nil, Builtin.min2, Op.stringOp, hgt, Sem.run_bind, Sem.run_pure, Result.andThen_ok, asBool]
      cases sLt b a <;> simp
  · exact h.elim
end
end Av
namespace Av
open Go
/-- Operands that may be left out. -/
def RO (s : St) : Option AV → Option Value → Prop
  | none, none => True
  | some a, some v => R s a v
  | _, _ => False
theorem RO_map {s : St} {ρ : Operand → AV} {ev : Operand → Value} (h : ∀ x, R s (ρ x) (ev x)) : ∀ (o : Option Operand), RO s (o.map ρ) (o.map ev)
  | none => trivial
  | some x => h x
section
variable {P : Program} {tb : Tb}
theorem optI_R {s : St} {d n : Int} {o : Option AV} {c : Option Value} (h : optI d o = some n) (hr : RO s o c) : (o = none ∧ c = none ∧ n = d) ∨ ∃ k, c = some (.int k n) := by
  cases o with
  | none =>
    cases c with
    | none => simp only [optI] at h; cases h; exact .inl ⟨rfl, rfl, rfl⟩
    | some _ => exact hr.elim
  | some a =>
    cases c with
    | none => exact hr.elim
    | some v =>
      cases a <;> simp only [optI] at h <;> first
        | (cases h; done)
        | skip
      cases h
      simp only [RO, R] at hr
      exact .inr ⟨_, by rw [hr]⟩
theorem bound_run {k : IntKind} {n : Int} {y : Nat} {code : BoundsCode} (h0 : 0 ≤ n) (h1 : n ≤ y) (w : World) : (Instr.sliceBound (.int k n) y code).run P w = .ok n.toNat w := by
  simp [Instr.sliceBound, asIntOf, h0, h1]
theorem bounds_run {isSl : Bool} {len cap : Nat} {lo hi : Option Value} {a b : Int} (hl : (lo = none ∧ a = 0) ∨ ∃ k, lo = some (.int k a)) (hh : (hi = none ∧ b = len) ∨ ∃ k, hi = some (.int k b)) (h0 : 0 ≤ a) (h1 : a ≤ b) (h2 : b ≤ cap) (w : World) :
    (Instr.sliceBounds isSl len cap lo hi none).run P w = .ok (a.toNat, b.toNat, cap) w := by
  unfold Instr.sliceBounds
  rcases hh with ⟨rfl, rfl⟩ | ⟨k, rfl⟩
  · rcases hl with ⟨rfl, rfl⟩ | ⟨k', rfl⟩
    · simp
    · have := bound_run (P := P) (k := k') (code := .sliceB) h0 (y := len) h1 w
      simp [this]
  · have hb := bound_run (P := P) (k := k) (code := if isSl then .sliceAcap else .sliceAlen) (show 0 ≤ b by omega) (y := cap) h2 w
    rcases hl with ⟨rfl, rfl⟩ | ⟨k', rfl⟩
    · simp [hb]
    · have := bound_run (P := P) (k := k') (code := .sliceB) h0 (y := b.toNat) (by omega) w
      simp [hb, this]
theorem sliceS_run (hT : TbOk P tb) {T e : TypeId} {ti te : TI} (hl : lk tb T = some ti) (hk : ti.kind = .sl e) (he : lk tb e = some te) {ad : Option Addr} {len cap : Nat} {lo hi : Option Value} {a b : Int}
    (h1 : (lo = none ∧ a = 0) ∨ ∃ k, lo = some (.int k a)) (h2 : (hi = none ∧ b = len) ∨ ∃ k, hi = some (.int k b)) (h3 : 0 ≤ a) (h4 : a ≤ b) (h5 : b ≤ cap) (w : World) :
    (Instr.sliceAt T (.slice ad len cap) lo hi none).run P w = .ok (.slice (if cap = a.toNat then ad else ad.map (·.add (a.toNat * te.size))) (b.toNat - a.toNat) (cap - a.toNat)) w := by
  have hu := slice_und hT hl hk
  have hb := bounds_run (P := P) (isSl := true) (len := len) (cap := cap) h1 h2 h3 h4 h5 w
  simp only [Instr.sliceAt, Sem.run_bind, run_underlying hu, Result.andThen_ok]
  simp only [Instr.slice, Sem.run_bind, run_underlying hu, Result.andThen_ok, hb, sizeOf_run hT he w, Sem.run_pure]
theorem lst_slice {s : St} {t : Ty} {l : List t.El} {ad : Option Addr} {cap n : Nat} (hx : RLst s t l (.slice ad l.length cap)) {a b : Int} (h0 : 0 ≤ a) (h1 : a ≤ b) (h2 : b ≤ l.length) (hsz : t.size = n) :
    R s (.lst t ((l.drop a.toNat).take (b.toNat - a.toNat))) (.slice (if cap = a.toNat then ad else ad.map (·.add (a.toNat * n))) (b.toNat - a.toNat) (cap - a.toNat)) := by
  obtain ⟨ad', cap', he, hc, hm⟩ := hx
  cases he
  subst hsz
  have hlen : ((l.drop a.toNat).take (b.toNat - a.toNat)).length = b.toNat - a.toNat := by
    rw [List.length_take, List.length_drop]; omega
  simp only [R]
  refine ⟨_, _, by rw [hlen], by rw [hlen]; omega, fun hne => ?_⟩
  have hpos : 0 < b.toNat - a.toNat := by
    rw [← hlen]
    exact List.length_pos_iff.2 hne
  have hlne : l ≠ [] := by rintro rfl; simp at h2; omega
  obtain ⟨bb, o, rfl, hlt, hown, hr⟩ := hm hlne
  rw [if_neg (by omega)]
  refine ⟨bb, o + a.toNat * t.size, by simp [Addr.add_mid], hlt, hown, fun i x hi => ?_⟩
  rw [List.getElem?_take] at hi
  split at hi
  · rw [List.getElem?_drop] at hi
    have := hr _ x hi
    rw [Nat.add_mul, ← Nat.add_assoc] at this
    exact this
  · cases hi
theorem slice_Gv (hT : TbOk P tb) {s : St} (hok : Ok s) {h0 : List AObj} (hs : SubH h0 s.h) {nid : Nat} {T : TypeId} {x : AV} {cx : Value} {lo hi mx : Option AV} {clo chi cmx : Option Value} (hx : R s x cx) (hlo : RO s lo clo) (hhi : RO s hi chi) (hmx : RO s mx cmx)
    {v : AV} {ob : Option AObj} (h : (pSlice tb h0 T x lo hi mx).Is v ob) : Gv P (Instr.sliceAt T cx clo chi cmx) s nid v ob := by
  unfold pSlice at h
  split at h
  · exact h.elim
  · cases cmx with
    | some _ => exact hmx.elim
    | none =>
      split at h
      · exact h.elim
      · rename_i ti hl
        have bnd : ∀ {d n : Int} {o : Option AV} {c : Option Value}, optI d o = some n → RO s o c → (c = none ∧ n = d) ∨ ∃ k, c = some (.int k n) := fun h hr => by
          rcases optI_R h hr with ⟨_, h1, h2⟩ | h1
          · exact .inl ⟨h1, h2⟩
          · exact .inr h1
        split at h
        · rename_i str hk
          split at h
          · rename_i a b ha hb
            obtain ⟨⟨h1, h2, h3⟩, rfl, rfl⟩ := h
            simp only [R] at hx
            subst hx
            have hu := str_und hT hl hk
            have hbr := bounds_run (P := P) (isSl := false) (len := str.size) (cap := str.size) (bnd ha hlo) (bnd hb hhi) h1 h2 h3 s.w
            refine Gv.same (cv := .string (str.extract a.toNat b.toNat)) hok ?_ (by simp only [R])
            simp only [Instr.sliceAt, Sem.run_bind, run_underlying hu, Result.andThen_ok]
            simp only [Instr.slice, Sem.run_bind, run_underlying hu, Result.andThen_ok, Option.isSome_none, Bool.false_eq_true, if_false, hbr, Sem.run_pure]
          · exact h.elim
        · rename_i e t l hk
          split at h
          · rename_i te he
            cases hb : Nat.beq t.size te.size with
            | false => rw [hb] at h; exact h.elim
            | true =>
              rw [hb] at h
              simp only [cond_true] at h
              split at h
              · rename_i a b ha hb'
                obtain ⟨⟨h1, h2, h3⟩, rfl, rfl⟩ := h
                simp only [R] at hx
                have hx' := hx
                obtain ⟨ad, cap, rfl, hc, _⟩ := hx
                exact Gv.same hok (sliceS_run hT hl hk he (bnd ha hlo) (bnd hb' hhi) h1 h2 (by omega) s.w) (lst_slice hx' h1 h2 h3 (Nat.eq_of_beq_eq_true hb))
              · exact h.elim
          · exact h.elim
        · rename_i e t l hk
          split at h
          · rename_i te he
            cases hb : Nat.beq t.size te.size with
            | false => rw [hb] at h; exact h.elim
            | true =>
              rw [hb] at h
              simp only [cond_true] at h
              split at h
              · rename_i a b ha hb'
                obtain ⟨⟨h1, h2, h3⟩, rfl, rfl⟩ := h
                simp only [R] at hx
                have hx' := hx.1
                obtain ⟨⟨ad, cap, rfl, hc, _⟩, _⟩ := hx
                exact Gv.same hok (sliceS_run hT hl hk he (bnd ha hlo) (bnd hb' hhi) h1 h2 (by omega) s.w) (lst_slice hx' h1 h2 h3 (Nat.eq_of_beq_eq_true hb))
              · exact h.elim
          · exact h.elim
        · rename_i e id g n hk
          split at h
          · rename_i te he
            split at h
            · rename_i E t l f g' hc
              cases hb : Nat.beq t.size te.size with
              | false => rw [hb] at h; exact h.elim
              | true =>
                rw [hb] at h
                simp only [cond_true] at h
                have hsz := Nat.eq_of_beq_eq_true hb
                have hc' := hs id _ hc rfl
                simp only [R] at hx
                obtain ⟨hkn, base, cap, rfl, hx⟩ := hx
                obtain ⟨_, hx2⟩ := hx E t l f g' hc'
                have capl : g' = g → l.length ≤ cap ∧ ∃ len, s.σ id = .slice base len cap := fun e => by
                  obtain ⟨_, len, hσ⟩ := hx2 e
                  obtain ⟨xs, hown, _⟩ := hok.obj id _ hc'
                  rw [hσ] at hown
                  refine ⟨?_, len, hσ⟩
                  rcases hown.2 with ⟨he', hz⟩ | ⟨b, cap', cur, he', _, _, h1, _⟩
                  · omega
                  · cases he'; exact h1
                split at h
                · rename_i b hb'
                  obtain ⟨⟨rfl, h1, h2, h3⟩, rfl, rfl⟩ := h
                  obtain ⟨hcap, len, hσ⟩ := capl rfl
                  have hlo' : clo = none := by cases clo with | none => rfl | some _ => exact hlo.elim
                  refine Gv.same hok (sliceS_run hT hl hk he (a := 0) (.inl ⟨hlo', rfl⟩) (bnd hb' hhi) (Int.le_refl _) h1 (by omega) s.w) ?_
                  simp only [R, Int.toNat_zero, Nat.zero_mul, Nat.sub_zero]
                  refine ⟨hkn, base, cap, ?_, fun T' t' l' f' g1 hc1 => ?_⟩
                  · have hadd : base.map (fun a => a.add 0) = base := by cases base <;> simp [Addr.add]
                    rw [hadd]
                    simp
                  · rw [hc'] at hc1
                    cases hc1
                    exact ⟨Nat.le_refl _, fun _ => ⟨by omega, len, hσ⟩⟩
                · rename_i k a b hb'
                  obtain ⟨⟨rfl, h1, h2, h3, h4⟩, rfl, rfl⟩ := h
                  obtain ⟨hcap, len, hσ⟩ := capl rfl
                  have hlo' : ∃ k, clo = some (.int k a) := by
                    cases clo with
                    | none => exact hlo.elim
                    | some c => simp only [RO, R] at hlo; exact ⟨k, by rw [hlo]⟩
                  refine Gv.same hok (sliceS_run hT hl hk he (.inr hlo') (bnd hb' hhi) h1 h2 (by omega) s.w) ?_
                  simp only [R]
                  refine ⟨hkn, _, _, rfl, by omega, fun T' t' l' f' g1 hc1 => ?_⟩
                  rw [hc'] at hc1
                  cases hc1
                  refine ⟨Nat.le_refl _, fun _ => ⟨by omega, base, len, cap, hσ, fun hpos => ?_⟩⟩
                  obtain ⟨xs, hown, _⟩ := hok.obj id _ hc'
                  rw [hσ] at hown
                  rcases hown.2 with ⟨he', hz⟩ | ⟨b', cap', cur, he', _, _, h5, _⟩
                  · omega
                  · cases he'
                    refine ⟨b', rfl, ?_⟩
                    rw [if_neg (by omega), hsz]
                    simp [Addr.add_mid]
                · exact h.elim
            · exact h.elim
          · exact h.elim
        · rename_i e id g l0 n hk
          split at h
          · rename_i te he
            split at h
            · rename_i E t l f g' hc
              cases hb : Nat.beq t.size te.size with
              | false => rw [hb] at h; exact h.elim
              | true =>
                rw [hb] at h
                simp only [cond_true] at h
                have hsz := Nat.eq_of_beq_eq_true hb
                have hc' := hs id _ hc rfl
                simp only [R] at hx
                obtain ⟨hkn, ad, cap', rfl, hn, hx⟩ := hx
                obtain ⟨_, hx2⟩ := hx E t l f g' hc'
                split at h
                · rename_i a b ha hb'
                  obtain ⟨⟨rfl, h1, h2, h3⟩, rfl, rfl⟩ := h
                  obtain ⟨h4, base, len, cap, hσ, hbase⟩ := hx2 rfl
                  refine Gv.same hok (sliceS_run hT hl hk he (bnd ha hlo) (bnd hb' hhi) h1 h2 (by omega) s.w) ?_
                  simp only [R]
                  refine ⟨hkn, _, _, rfl, by omega, fun T' t' l' f' g1 hc1 => ?_⟩
                  rw [hc'] at hc1
                  cases hc1
                  refine ⟨Nat.le_refl _, fun _ => ⟨by omega, base, len, cap, hσ, fun hpos => ?_⟩⟩
                  obtain ⟨b', rfl, rfl⟩ := hbase (by omega)
                  refine ⟨b', rfl, ?_⟩
                  rw [if_neg (by omega), hsz]
                  simp [Addr.add_mid, Nat.add_mul]
                · exact h.elim
            · exact h.elim
          · exact h.elim
        · exact h.elim
/-! ### Slices with a capacity of their own -/
theorem bounds3_run {len cap : Nat} {lo : Option Value} {k1 k2 : IntKind} {a b c : Int} (hl : (lo = none ∧ a = 0) ∨ ∃ k, lo = some (.int k a)) (h0 : 0 ≤ a) (h1 : a ≤ b) (h2 : b ≤ c) (h3 : c ≤ cap) (w : World) :
    (Instr.sliceBounds true len cap lo (some (.int k1 b)) (some (.int k2 c))).run P w = .ok (a.toNat, b.toNat, c.toNat) w := by
  unfold Instr.sliceBounds
  have hc := bound_run (P := P) (k := k2) (code := .slice3Acap) (show 0 ≤ c by omega) (y := cap) h3 w
  have hb := bound_run (P := P) (k := k1) (code := .slice3B) (show 0 ≤ b by omega) (y := c.toNat) (by omega) w
  rcases hl with ⟨rfl, rfl⟩ | ⟨k', rfl⟩
  · simp [hc, hb]
  · have := bound_run (P := P) (k := k') (code := .slice3C) h0 (y := b.toNat) (by omega) w
    simp [hc, hb, this]
theorem slice3_run (hT : TbOk P tb) {T e : TypeId} {ti te : TI} (hl : lk tb T = some ti) (hk : ti.kind = .sl e) (he : lk tb e = some te) {ad : Option Addr} {len cap : Nat} {lo : Option Value} {k1 k2 : IntKind} {a b c : Int}
    (h1 : (lo = none ∧ a = 0) ∨ ∃ k, lo = some (.int k a)) (h3 : 0 ≤ a) (h4 : a ≤ b) (h5 : b ≤ c) (h6 : c ≤ cap) (w : World) :
    (Instr.sliceAt T (.slice ad len cap) lo (some (.int k1 b)) (some (.int k2 c))).run P w = .ok (.slice (if c.toNat = a.toNat then ad else ad.map (·.add (a.toNat * te.size))) (b.toNat - a.toNat) (c.toNat - a.toNat)) w := by
  have hu := slice_und hT hl hk
  have hb := bounds3_run (P := P) (len := len) (cap := cap) (k1 := k1) (k2 := k2) h1 h3 h4 h5 h6 w
  simp only [Instr.sliceAt, Sem.run_bind, run_underlying hu, Result.andThen_ok]
  simp only [Instr.slice, Sem.run_bind, run_underlying hu, Result.andThen_ok, hb, sizeOf_run hT he w, Sem.run_pure]
theorem lst_slice3 {s : St} {t : Ty} {l : List t.El} {ad : Option Addr} {cap n : Nat} (hx : RLst s t l (.slice ad l.length cap)) {a b : Int} (h0 : 0 ≤ a) (h1 : a ≤ b) (h2 : b ≤ l.length) (hsz : t.size = n) :
    R s (.tlst t ((l.drop a.toNat).take (b.toNat - a.toNat))) (.slice (if b.toNat = a.toNat then ad else ad.map (·.add (a.toNat * n))) (b.toNat - a.toNat) (b.toNat - a.toNat)) := by
  obtain ⟨ad', cap', he, hc, hm⟩ := hx
  cases he
  subst hsz
  have hlen : ((l.drop a.toNat).take (b.toNat - a.toNat)).length = b.toNat - a.toNat := by
    rw [List.length_take, List.length_drop]; omega
  simp only [R]
  refine ⟨⟨_, _, by rw [hlen], by rw [hlen]; exact Nat.le_refl _, fun hne => ?_⟩, _, by rw [hlen]⟩
  have hpos : 0 < b.toNat - a.toNat := by
    rw [← hlen]
    exact List.length_pos_iff.2 hne
  have hlne : l ≠ [] := by rintro rfl; simp at h2; omega
  obtain ⟨bb, o, rfl, hlt, hown, hr⟩ := hm hlne
  rw [if_neg (by omega)]
  refine ⟨bb, o + a.toNat * t.size, by simp [Addr.add_mid], hlt, hown, fun i x hi => ?_⟩
  rw [List.getElem?_take] at hi
  split at hi
  · rw [List.getElem?_drop] at hi
    have := hr _ x hi
    rw [Nat.add_mul, ← Nat.add_assoc] at this
    exact this
  · cases hi
theorem RO_int {s : St} {k : IntKind} {n : Int} {c : Option Value} (h : RO s (some (.int k n)) c) : c = some (.int k n) := by
  cases c with
  | none => exact h.elim
  | some c => simp only [RO, R] at h; rw [h]
theorem slice3_Gv (hT : TbOk P tb) {s : St} (hok : Ok s) {h0 : List AObj} (hs : SubH h0 s.h) {nid : Nat} {T : TypeId} {x : AV} {cx : Value} {lo hi mx : Option AV} {clo chi cmx : Option Value} (hx : R s x cx) (hlo : RO s lo clo) (hhi : RO s hi chi) (hmx : RO s mx cmx)
    {v : AV} {ob : Option AObj} (h : (pSlice3 tb h0 T x lo hi mx).Is v ob) : Gv P (Instr.sliceAt T cx clo chi cmx) s nid v ob := by
  unfold pSlice3 at h
  split at h
  · rename_i kb b kc c
    have := RO_int hhi
    subst this
    have := RO_int hmx
    subst this
    have bnd : ∀ {d n : Int} {o : Option AV} {c : Option Value}, optI d o = some n → RO s o c → (c = none ∧ n = d) ∨ ∃ k, c = some (.int k n) := fun h hr => by
      rcases optI_R h hr with ⟨_, h1, h2⟩ | h1
      · exact .inl ⟨h1, h2⟩
      · exact .inr h1
    split at h
    · exact h.elim
    · rename_i ti hl
      split at h
      · rename_i e hk
        split at h
        · exact h.elim
        · rename_i te he
          split at h
          · rename_i t l
            cases hb : Nat.beq t.size te.size with
            | false => rw [hb] at h; exact h.elim
            | true =>
              rw [hb] at h
              simp only [cond_true] at h
              split at h
              · rename_i a ha
                obtain ⟨⟨h1, h2, rfl, h3⟩, rfl, rfl⟩ := h
                simp only [R] at hx
                have hx' := hx
                obtain ⟨ad, cap, rfl, hc, _⟩ := hx
                exact Gv.same hok (slice3_run hT hl hk he (bnd ha hlo) h1 h2 (Int.le_refl _) (by omega) s.w) (lst_slice3 hx' h1 h2 h3 (Nat.eq_of_beq_eq_true hb))
              · exact h.elim
          · rename_i t l
            cases hb : Nat.beq t.size te.size with
            | false => rw [hb] at h; exact h.elim
            | true =>
              rw [hb] at h
              simp only [cond_true] at h
              split at h
              · rename_i a ha
                obtain ⟨⟨h1, h2, rfl, h3⟩, rfl, rfl⟩ := h
                simp only [R] at hx
                have hx' := hx.1
                obtain ⟨⟨ad, cap, rfl, hc, _⟩, _⟩ := hx
                exact Gv.same hok (slice3_run hT hl hk he (bnd ha hlo) h1 h2 (Int.le_refl _) (by omega) s.w) (lst_slice3 hx' h1 h2 h3 (Nat.eq_of_beq_eq_true hb))
              · exact h.elim
          · rename_i id g n
            split at h
            · rename_i E t l f g' hc
              cases hb : Nat.beq t.size te.size with
              | false => rw [hb] at h; exact h.elim
              | true =>
                rw [hb] at h
                simp only [cond_true] at h
                have hsz := Nat.eq_of_beq_eq_true hb
                have hc' := hs id _ hc rfl
                simp only [R] at hx
                obtain ⟨hkn, base, cap, rfl, hx⟩ := hx
                obtain ⟨_, hx2⟩ := hx E t l f g' hc'
                have capl : g' = g → l.length ≤ cap ∧ (∃ len, s.σ id = .slice base len cap) ∧ (f = true → cap = l.length) := fun e => by
                  obtain ⟨_, len, hσ⟩ := hx2 e
                  obtain ⟨xs, hown, _, _, hfull⟩ := hok.obj id _ hc'
                  rw [hσ] at hown
                  refine ⟨?_, ⟨len, hσ⟩, fun hf => ?_⟩
                  · rcases hown.2 with ⟨he', hz⟩ | ⟨b, cap', cur, he', _, _, h1, _⟩
                    · omega
                    · cases he'; exact h1
                  · obtain ⟨base', hb'⟩ := hfull hf
                    rw [hσ] at hb'
                    cases hb'
                    rfl
                split at h
                · rename_i a ha
                  have tight : (Res.need (g' = g ∧ 0 ≤ a ∧ a ≤ b ∧ b = c ∧ b ≤ l.length ∧ n ≤ l.length) (.ok (.tosl id g a.toNat (b.toNat - a.toNat)) none)).Is v ob → Gv P (Instr.sliceAt T (.slice base n cap) clo (some (.int kb b)) (some (.int kc c))) s nid v ob := by
                    rintro ⟨⟨rfl, h1, h2, rfl, h3, h4⟩, rfl, rfl⟩
                    obtain ⟨hcap, ⟨len, hσ⟩, _⟩ := capl rfl
                    refine Gv.same hok (slice3_run hT hl hk he (bnd ha hlo) h1 h2 (Int.le_refl _) (by omega) s.w) ?_
                    simp only [R]
                    refine ⟨⟨hkn, _, _, rfl, Nat.le_refl _, fun T' t' l' f' g1 hc1 => ?_⟩, _, rfl⟩
                    rw [hc'] at hc1
                    cases hc1
                    refine ⟨Nat.le_refl _, fun _ => ⟨by omega, base, len, cap, hσ, fun hpos => ?_⟩⟩
                    obtain ⟨xs, hown, _⟩ := hok.obj id _ hc'
                    rw [hσ] at hown
                    rcases hown.2 with ⟨he', hz⟩ | ⟨b', cap', cur, he', _, _, h5, _⟩
                    · omega
                    · cases he'
                      refine ⟨b', rfl, ?_⟩
                      rw [if_neg (by omega), hsz]
                      simp [Addr.add_mid]
                  split at h
                  · rcases h with ⟨hdec, h⟩ | ⟨hdec, h⟩
                    · obtain ⟨rfl, rfl⟩ := of_decide_eq_true hdec
                      obtain ⟨⟨rfl, h1, h2⟩, rfl, rfl⟩ := h
                      obtain ⟨hcap, ⟨len, hσ⟩, hfc⟩ := capl rfl
                      have hfc := hfc rfl
                      refine Gv.same hok (slice3_run hT hl hk he (bnd ha hlo) (Int.le_refl _) h1 (by omega) (by omega) s.w) ?_
                      simp only [R, Int.toNat_zero, Nat.zero_mul, Nat.sub_zero]
                      refine ⟨hkn, base, cap, ?_, fun T' t' l' f' g1 hc1 => ?_⟩
                      · have hadd : base.map (fun a => a.add 0) = base := by cases base <;> simp [Addr.add]
                        rw [hadd, hfc]
                        simp
                      · rw [hc'] at hc1
                        cases hc1
                        exact ⟨Nat.le_refl _, fun _ => ⟨by omega, len, hσ⟩⟩
                    · exact tight h
                  · exact tight h
                · exact h.elim
            · exact h.elim
          · exact h.elim
      · exact h.elim
  · exact h.elim

/-! ### Capacity, conversions -/
theorem cap_Gv (hT : TbOk P tb) {s : St} (hok : Ok s) {h0 : List AObj} (hs : SubH h0 s.h) {nid : Nat} {T ty : TypeId} {x : AV} {cx : Value} (hx : R s x cx) {v : AV} {ob : Option AObj} (h : (pCap tb h0 T x).Is v ob) : Gv P (Builtin.cap_ #[T] ty #[cx]) s nid v ob := by
  unfold pCap at h
  split at h
  · rename_i e hk
    obtain ⟨ti, hl, hk⟩ := kind_get hk
    have hu := slice_und hT hl hk
    have run : ∀ a n c, (Builtin.cap_ #[T] ty #[.slice a n c]).run P s.w = .ok (.int .i64 c) s.w := fun a n c => by
      simp [Builtin.cap_, run_underlying hu, goInt]
    split at h
    · obtain ⟨rfl, rfl⟩ := h
      simp only [R] at hx
      subst hx
      exact Gv.same hok (run none 0 0) (by simp only [R]; rfl)
    · obtain ⟨rfl, rfl⟩ := h
      simp only [R] at hx
      subst hx
      exact Gv.same hok (run none 0 0) (by simp only [R]; rfl)
    · obtain ⟨rfl, rfl⟩ := h
      simp only [R] at hx
      obtain ⟨_, a, rfl⟩ := hx
      exact Gv.same hok (run _ _ _) (by simp only [R])
    · obtain ⟨rfl, rfl⟩ := h
      simp only [R] at hx
      obtain ⟨_, a, rfl⟩ := hx
      exact Gv.same hok (run _ _ _) (by simp only [R])
    · rename_i id g n
      split at h
      · rename_i E t l g' hc
        have hc' := hs id _ hc rfl
        obtain ⟨rfl, rfl, rfl⟩ := h
        simp only [R] at hx
        obtain ⟨_, base, cap, rfl, hx⟩ := hx
        obtain ⟨_, hx2⟩ := hx E t l true g' hc'
        obtain ⟨_, len, hσ⟩ := hx2 rfl
        obtain ⟨xs, hown, _, _, hfull⟩ := hok.obj id _ hc'
        obtain ⟨base', hb'⟩ := hfull rfl
        rw [hσ] at hb'
        cases hb'
        exact Gv.same hok (run _ _ _) (by simp only [R])
      · exact h.elim
    · exact h.elim
  · exact h.elim
theorem foldl_bytes : ∀ (l : List Int) (b : ByteArray), l.foldl (fun r n => r.push (UInt8.ofNat n.toNat)) b = ⟨b.data ++ (l.map fun n => UInt8.ofNat n.toNat).toArray⟩
  | [], b => by simp
  | n :: l, b => by
    rw [List.foldl_cons, foldl_bytes l]
    simp [ByteArray.push]
theorem bytes_cells {l : List Int} {xs : List Value} (hlen : xs.length = l.length) (h : ∀ (j : Nat) (x : Int), l[j]? = some x → xs[j]? = some (.int .u8 x)) : xs = l.map (Value.int .u8) := by
  apply List.ext_getElem?
  intro j
  by_cases hj : j < l.length
  · rw [h j l[j] (List.getElem?_eq_getElem hj)]
    simp [List.getElem?_eq_getElem hj]
  · rw [List.getElem?_eq_none (by omega), List.getElem?_eq_none (by simp; omega)]
theorem bytes_run {w : World} {S T e : TypeId} (hus : P.underlying S = some (.slice e)) (hue : P.underlying e = some (.int .u8)) (hut : P.underlying T = some .string) {l : List Int} {xs : List Value} (hxs : xs = l.map (Value.int .u8)) {b cap n : Nat}
    (hcells : ∀ (j : Nat) (v : Value), xs[j]? = some v → w.cell? ((⟨b, 0, none⟩ : Addr).add j) = some v) (hn : n ≤ l.length) : (Go.convert S T (.slice (some ⟨b, 0, none⟩) n cap)).run P w = .ok (.string (bytesOf (l.take n))) w := by
  rw [run_convert_bytes_string w S T e _ n cap hus hue hut]
  have hll := run_loadCells_list (P := P) (w := w) ⟨b, 0, none⟩ ((l.take n).map (Value.int .u8)) (fun j v hj => by
    refine hcells j v ?_
    rw [hxs]
    rw [List.map_take, List.getElem?_take] at hj
    split at hj
    · exact hj
    · cases hj)
  have hlen2 : ((l.take n).map (Value.int .u8)).length = n := by
    rw [List.length_map, List.length_take]; exact Nat.min_eq_left hn
  rw [hlen2] at hll
  rw [run_bytesToString w ⟨b, 0, none⟩ n cap (l.take n) hll, foldl_bytes]
  simp [bytesOf, ByteArray.empty, ByteArray.emptyWithCapacity]
  rfl
theorem conv_Gv (hT : TbOk P tb) {s : St} (hok : Ok s) {h0 : List AObj} (hs : SubH h0 s.h) {nid : Nat} {S T : TypeId} {x : AV} {cx : Value} (hx : R s x cx) {v : AV} {ob : Option AObj} (h : (pConv tb h0 S T x).Is v ob) : Gv P (Go.convert S T cx) s nid v ob := by
  unfold pConv at h
  split at h
  · rename_i si ti hl' hl
    obtain ⟨d, hd, _⟩ := (tb_und hT hl').und
    split at h
    · rename_i id g n hk
      split at h
      · rename_i e hke
        split at h
        · rename_i E t l f g' hu8 hc
          obtain ⟨te, hle, hkE⟩ := kind_get hu8
          have hc' := hs id _ hc rfl
          split at h
          · rename_i l2 hcast
            obtain ⟨he, hl2⟩ := castL_eq hcast
            subst he
            subst hl2
            obtain ⟨⟨rfl, hn⟩, rfl, rfl⟩ := h
            have hn : n ≤ l.length := hn
            simp only [R] at hx
            obtain ⟨_, base, cap, rfl, hx⟩ := hx
            obtain ⟨_, hx2⟩ := hx E (.int .u8) l f g' hc'
            obtain ⟨_, len, hσ⟩ := hx2 rfl
            obtain ⟨xs, hown, hone, hrow, _⟩ := hok.obj id _ hc'
            have hxs := bytes_cells (l := l) (xs := xs) (by rw [hown.1]; exact Nat.mul_one _) (fun j x hj => by
              have := hrow j x hj
              simp only [RT, Ty.size, Nat.mul_one, Nat.add_zero] at this
              exact this)
            have hus := slice_und hT hl' hke
            have hue := int_und hT hle hkE
            have hut := str_und hT hl hk
            rw [hσ] at hown
            refine Gv.same (cv := .string (bytesOf ((l : List Int).take n))) hok ?_ (by simp only [R])
            rcases hown.2 with ⟨he', hz⟩ | ⟨b, cap', cur, he', _, _, h5, _⟩
            · cases he'
              have hn0 : n = 0 := by omega
              subst hn0
              rw [run_convert_bytes_string s.w S T e none 0 0 hus hue hut]
              rfl
            · cases he'
              exact bytes_run hus hue hut hxs (hown.cells (g := b) rfl) hn
          · exact h.elim
        · exact h.elim
      · exact h.elim
    · rename_i k' k n hk
      simp only [R] at hx
      subst hx
      obtain ⟨hin, rfl, rfl⟩ := h
      have hu := int_und hT hl hk
      exact Gv.same (cv := .int k' n) hok (by simp only [Go.convert, Sem.run_bind, run_underlying hd, run_underlying hu, Result.andThen_ok, Conv.intToInt, wrap_in hin, Sem.run_pure]) (by simp only [R])
    · rename_i str hk
      simp only [R] at hx
      subst hx
      obtain ⟨rfl, rfl⟩ := h
      have hu := str_und hT hl hk
      exact Gv.same (cv := .string str) hok (by simp only [Go.convert, Sem.run_bind, run_underlying hd, run_underlying hu, Result.andThen_ok, Sem.run_pure]) (by simp only [R])
    · exact h.elim
  · exact h.elim
end
end Av
