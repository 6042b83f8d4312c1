/-
  An abstract reading of values and memory: fields, elements, numbers, strings.
-/
import Derived.Test.YtjlfkgffgnkflaaAv7
namespace Av
open Go
section
variable {P : Program} {tb : Tb}

/-! ### Fields -/
theorem pairs_get {fs : List (TypeId × Nat)} {gs : List Field} (h : fs = gs.map (fun f => (f.type, f.offset))) {i ft off : Nat} (hi : fs[i]? = some (ft, off)) : ∃ f, gs[i]? = some f ∧ f.type = ft ∧ f.offset = off := by
  subst h
  rw [List.getElem?_map] at hi
  obtain ⟨f, hf, he⟩ := Option.map_eq_some_iff.1 hi
  simp only [Prod.mk.injEq] at he
  exact ⟨f, hf, he.1, he.2⟩
theorem struct_und (hT : TbOk P tb) {T : TypeId} {ti : TI} (h : lk tb T = some ti) {fs : List (TypeId × Nat)} (hk : ti.kind = .st fs) : ∃ gs, P.underlying T = some (.struct gs) ∧ fs = gs.toList.map (fun f => (f.type, f.offset)) := by
  obtain ⟨d, hd, hf⟩ := (tb_und hT h).und
  rw [hk] at hf
  cases d <;> simp only [TK.fits] at hf <;> first
    | (cases hf; done)
    | exact ⟨_, hd, pairsEq_eq hf⟩
theorem slice_und (hT : TbOk P tb) {T : TypeId} {ti : TI} (h : lk tb T = some ti) {e : TypeId} (hk : ti.kind = .sl e) : P.underlying T = some (.slice e) := by
  obtain ⟨d, hd, hf⟩ := (tb_und hT h).und
  rw [hk] at hf
  cases d <;> simp only [TK.fits] at hf <;> first
    | (cases hf; done)
    | (rw [hd, Nat.eq_of_beq_eq_true hf])
theorem str_und (hT : TbOk P tb) {T : TypeId} {ti : TI} (h : lk tb T = some ti) (hk : ti.kind = .str) : P.underlying T = some .string := by
  obtain ⟨d, hd, hf⟩ := (tb_und hT h).und
  rw [hk] at hf
  cases d <;> simp only [TK.fits] at hf <;> first
    | (cases hf; done)
    | exact hd
theorem int_und (hT : TbOk P tb) {T : TypeId} {ti : TI} (h : lk tb T = some ti) {k : IntKind} (hk : ti.kind = .int k) : P.underlying T = some (.int k) := by
  obtain ⟨d, hd, hf⟩ := (tb_und hT h).und
  rw [hk] at hf
  cases d <;> simp only [TK.fits] at hf <;> first
    | (cases hf; done)
    | (rw [hd, of_decide_eq_true hf])
theorem place_run (hT : TbOk P tb) {ft : TypeId} {tf : TI} (h : lk tb ft = some tf) {f : Field} (hf : f.type = ft) (b o : Nat) (w : World) : (fieldPlace ⟨b, o, none⟩ f).run P w = .ok ⟨b, o + f.offset, none⟩ w := by
  have hp := (tb_und hT h).pos
  subst hf
  unfold fieldPlace
  rw [Sem.run_bind, sizeOf_run hT h w]
  simp only [Result.andThen_ok]
  rw [if_neg (by omega)]
  simp [Addr.add_mid]
theorem fieldAddr_Gv (hT : TbOk P tb) {s : St} (hok : Ok s) {nid : Nat} {T : TypeId} {x : AV} {cx : Value} (hx : R s x cx) {i : Nat} {v : AV} {ob : Option AObj} (h : (pFieldAddr tb T x i).Is v ob) : Gv P (Instr.fieldAt T cx i) s nid v ob := by
  unfold pFieldAddr at h
  split at h
  · exact h.elim
  · rename_i ti hl
    split at h
    · rename_i fs hk
      split at h
      · exact h.elim
      · rename_i ft off hi
        split at h
        · exact h.elim
        · rename_i tf hf
          obtain ⟨gs, hu, he⟩ := struct_und hT hl hk
          obtain ⟨f, hgf, hft, hfo⟩ := pairs_get he hi
          have hgf' : gs[i]? = some f := by simpa using hgf
          have run : ∀ b o, cx = .pointer (some ⟨b, o, none⟩) → (Instr.fieldAt T cx i).run P s.w = .ok (.pointer (some ⟨b, o + off, none⟩)) s.w := by
            intro b o hc
            subst hc
            simp [Instr.fieldAt, run_underlying hu, hgf', Instr.sureAddr, place_run hT hf hft b o s.w, hfo]
          split at h
          · rename_i id o
            obtain ⟨rfl, rfl⟩ := h
            simp only [R] at hx
            obtain ⟨hk, b, rfl, hx⟩ := hx
            refine Gv.same hok (run b o rfl) ?_
            simp only [R]
            exact ⟨hk, b, rfl, hx⟩
          · rename_i cs
            cases hb : Nat.ble off cs.length with
            | false => rw [hb] at h; exact h.elim
            | true =>
              rw [hb] at h
              obtain ⟨rfl, rfl⟩ := h
              simp only [R] at hx
              obtain ⟨b, o, rfl, hlt, hown, hrc⟩ := hx
              refine Gv.same hok (run b o rfl) ?_
              simp only [R]
              refine ⟨b, o + off, rfl, hlt, hown, ?_⟩
              have := RC_drop off hrc
              have e : (fun j => s.w.cell? ⟨b, o + (off + j), none⟩) = (fun j => s.w.cell? ⟨b, o + off + j, none⟩) := by
                funext j; rw [Nat.add_assoc]
              rw [e] at this
              exact this
          · rename_i id g t j o
            obtain ⟨rfl, rfl⟩ := h
            simp only [R] at hx
            obtain ⟨hk', b, rfl, hx⟩ := hx
            refine Gv.same hok (run b _ rfl) ?_
            simp only [R]
            exact ⟨hk', b, by rw [Nat.add_assoc], hx⟩
          · exact h.elim
    · exact h.elim
theorem part_run (hT : TbOk P tb) {s : St} {ft : TypeId} {tf : TI} (hf : lk tb ft = some tf) {cs : List AV} {vs : List Value} {v : AV} {off : Nat} (hl : RL s cs vs) (h1 : ∀ u ∈ vs, u.oneCell' = true) (h : ldA tf (cs.drop off) = some v) :
    ∃ cv, (part ft vs.toArray off).run P s.w = .ok cv s.w ∧ R s v cv := by
  have hlen := RL_vals hl
  unfold ldA at h
  unfold part
  rw [Sem.run_bind, isAgg_run hT hf s.w]
  simp only [Result.andThen_ok]
  split at h
  · rename_i hk
    cases hb : Nat.ble tf.size (cs.drop off).length with
    | false => rw [hb] at h; cases h
    | true =>
      rw [hb] at h
      cases h
      rw [hk]
      simp only [if_true, Sem.run_bind, sizeOf_run hT hf s.w, Result.andThen_ok, Sem.run_pure]
      refine ⟨_, rfl, ?_⟩
      simp only [R]
      refine ⟨(vs.drop off).take tf.size, ?_, RL_take _ (RL_drop _ hl), fun u hu => h1 u (List.mem_of_mem_drop (List.mem_of_mem_take hu))⟩
      congr 1
      simp [List.extract_toArray, Nat.add_sub_cancel_left]
  · rename_i hk
    rw [hk]
    simp only [Bool.false_eq_true, if_false]
    split at h
    · rename_i c cs' hd
      cases h
      have hc : cs[off]? = some v := by
        have := congrArg (fun l => l[0]?) hd
        simpa using this
      obtain ⟨u, hu, hr⟩ := RL_get hl off v hc
      refine ⟨u, ?_, hr⟩
      have : vs.toArray[off]? = some u := by simpa using hu
      rw [this]
      rfl
    · cases h
theorem field_Gv (hT : TbOk P tb) {s : St} (hok : Ok s) {nid : Nat} {T : TypeId} {x : AV} {cx : Value} (hx : R s x cx) {i : Nat} {v : AV} {ob : Option AObj} (h : (pField tb T x i).Is v ob) : Gv P (Instr.field T cx i) s nid v ob := by
  unfold pField at h
  split at h
  · exact h.elim
  · rename_i ti hl
    split at h
    · rename_i fs hk
      split at h
      · exact h.elim
      · rename_i ft off hi
        split at h
        · exact h.elim
        · rename_i tf hf
          split at h
          · rename_i cs
            obtain ⟨h1, rfl⟩ := okO_Is h
            obtain ⟨gs, hu, he⟩ := struct_und hT hl hk
            obtain ⟨f, hgf, hft, hfo⟩ := pairs_get he hi
            have hgf' : gs[i]? = some f := by simpa using hgf
            simp only [R] at hx
            obtain ⟨vs, rfl, h2, h3⟩ := hx
            obtain ⟨cv, hr, hv⟩ := part_run hT hf h2 h3 h1
            refine Gv.same hok ?_ hv
            simp [Instr.field, run_underlying hu, hgf', asAgg, hft, hfo, hr]
          · exact h.elim
    · exact h.elim

/-! ### Elements -/
theorem lst_elem {s : St} {t : Ty} {l : List t.El} {cx : Value} (hx : RLst s t l cx) {n : Int} {x : t.El} (h0 : 0 ≤ n) (hi : l[n.toNat]? = some x) :
    ∃ b o cap, cx = .slice (some ⟨b, o, none⟩) l.length cap ∧ n < l.length ∧ R s (.pv (flat t x)) (.pointer (some ⟨b, o + n.toNat * t.size, none⟩)) := by
  obtain ⟨a, cap, rfl, hc, hm⟩ := hx
  have hil : n.toNat < l.length := (List.getElem?_eq_some_iff.1 hi).1
  have hne : l ≠ [] := by rintro rfl; simp at hi
  obtain ⟨b, o, rfl, hlt, hown, hr⟩ := hm hne
  refine ⟨b, o, cap, rfl, by omega, ?_⟩
  simp only [R]
  exact ⟨b, _, rfl, hlt, hown, RT_RC t x _ (hr _ x hi)⟩
theorem index_run (hT : TbOk P tb) {T e : TypeId} {ti te : TI} (hl : lk tb T = some ti) (hk : ti.kind = .sl e) (he : lk tb e = some te) {b o len cap : Nat} {k : IntKind} {n : Int} (h0 : 0 ≤ n) (h1 : n < len) (w : World) :
    (Instr.indexAt T (.slice (some ⟨b, o, none⟩) len cap) (.int k n)).run P w = .ok (.pointer (some ⟨b, o + n.toNat * te.size, none⟩)) w := by
  have hu := slice_und hT hl hk
  simp [Instr.indexAt, run_underlying hu, asIntOf, h0, h1, sizeOf_run hT he w, Addr.add_mid]
theorem array_und (hT : TbOk P tb) {T : TypeId} {ti : TI} (h : lk tb T = some ti) {n : Nat} {e : TypeId} (hk : ti.kind = .ar n e) : P.underlying T = some (.array n e) := by
  obtain ⟨d, hd, hf⟩ := (tb_und hT h).und
  rw [hk] at hf
  cases d <;> simp only [TK.fits, Bool.and_eq_true] at hf <;> first
    | (cases hf; done)
    | (rw [hd, Nat.eq_of_beq_eq_true hf.1, Nat.eq_of_beq_eq_true hf.2])
theorem index_ar (hT : TbOk P tb) {T e : TypeId} {ti te : TI} {len : Nat} (hl : lk tb T = some ti) (hk : ti.kind = .ar len e) (he : lk tb e = some te) {b o : Nat} {k : IntKind} {n : Int} (h0 : 0 ≤ n) (h1 : n < len) (w : World) :
    (Instr.indexAt T (.pointer (some ⟨b, o, none⟩)) (.int k n)).run P w = .ok (.pointer (some ⟨b, o + n.toNat * te.size, none⟩)) w := by
  have hu := array_und hT hl hk
  simp [Instr.indexAt, Instr.sureAddr, run_underlying hu, asIntOf, h0, h1, sizeOf_run hT he w, Addr.add_mid]
theorem indexAddr_Gv (hT : TbOk P tb) {s : St} (hok : Ok s) {h0 : List AObj} (hs : SubH h0 s.h) {nid : Nat} {T : TypeId} {x i : AV} {cx ci : Value} (hx : R s x cx) (hi : R s i ci) {v : AV} {ob : Option AObj} (h : (pIndexAddr tb h0 T x i).Is v ob) :
    Gv P (Instr.indexAt T cx ci) s nid v ob := by
  unfold pIndexAddr at h
  split at h
  · exact h.elim
  · rename_i ti hl
    split at h
    · rename_i e hk
      split at h
      · exact h.elim
      · rename_i te he
        split at h
        · rename_i k n
          simp only [R] at hi
          subst hi
          split at h
          · rename_i t l
            cases hb : Nat.beq t.size te.size with
            | false => rw [hb] at h; exact h.elim
            | true =>
              rw [hb] at h
              obtain ⟨y, h0, hy, rfl, rfl⟩ := h
              simp only [R] at hx
              obtain ⟨b, o, cap, rfl, hlt, hr⟩ := lst_elem hx h0 hy
              rw [Nat.eq_of_beq_eq_true hb] at hr
              exact Gv.same hok (index_run hT hl hk he h0 hlt s.w) hr
          · rename_i t l
            cases hb : Nat.beq t.size te.size with
            | false => rw [hb] at h; exact h.elim
            | true =>
              rw [hb] at h
              obtain ⟨y, h0, hy, rfl, rfl⟩ := h
              simp only [R] at hx
              obtain ⟨b, o, cap, rfl, hlt, hr⟩ := lst_elem hx.1 h0 hy
              rw [Nat.eq_of_beq_eq_true hb] at hr
              exact Gv.same hok (index_run hT hl hk he h0 hlt s.w) hr
          · rename_i id g m
            split at h
            · rename_i E t l f g' hc
              cases hb : Nat.beq t.size te.size with
              | false => rw [hb] at h; exact h.elim
              | true =>
                rw [hb] at h
                obtain ⟨⟨rfl, h0, hlt⟩, rfl, rfl⟩ := h
                have hc' := hs id _ hc rfl
                simp only [R] at hx
                obtain ⟨hkn, base, cap, rfl, hx⟩ := hx
                obtain ⟨_, hx2⟩ := hx E t l f g' hc'
                obtain ⟨hml, len, hσ⟩ := hx2 rfl
                obtain ⟨xs, hown, _, _, _⟩ := hok.obj id _ hc'
                rw [hσ] at hown
                rcases hown.2 with ⟨he', hz⟩ | ⟨b, cap', cur, he', _, _, _⟩
                · exfalso; omega
                · cases he'
                  refine Gv.same hok (index_run hT hl hk he h0 hlt s.w) ?_
                  simp only [R]
                  refine ⟨hkn, b, by rw [Nat.eq_of_beq_eq_true hb, Nat.zero_add]; rfl, fun T' t' l' f' g1 hc1 => ?_⟩
                  rw [hc'] at hc1
                  cases hc1
                  exact ⟨Nat.le_refl _, fun _ => ⟨rfl, by omega, _, _, hσ⟩⟩
            · exact h.elim
          · rename_i id g lo m
            split at h
            · rename_i E t l f g' hc
              cases hb : Nat.beq t.size te.size with
              | false => rw [hb] at h; exact h.elim
              | true =>
                rw [hb] at h
                obtain ⟨⟨rfl, h0, hlt⟩, rfl, rfl⟩ := h
                have hc' := hs id _ hc rfl
                simp only [R] at hx
                obtain ⟨hkn, a, cap', rfl, hcap, hx⟩ := hx
                obtain ⟨_, hx2⟩ := hx E t l f g' hc'
                obtain ⟨hml, base, len, cap, hσ, hbase⟩ := hx2 rfl
                obtain ⟨b, rfl, rfl⟩ := hbase (by omega)
                refine Gv.same hok (index_run hT hl hk he h0 hlt s.w) ?_
                simp only [R]
                refine ⟨hkn, b, ?_, fun T' t' l' f' g1 hc1 => ?_⟩
                · rw [Nat.eq_of_beq_eq_true hb, Nat.add_mul]; rfl
                · rw [hc'] at hc1
                  cases hc1
                  exact ⟨Nat.le_refl _, fun _ => ⟨rfl, by omega, _, _, hσ⟩⟩
            · exact h.elim
          · exact h.elim
        · exact h.elim
    · rename_i len e hk
      split at h
      · exact h.elim
      · rename_i te he
        split at h
        · rename_i k n id o
          simp only [R] at hi
          subst hi
          obtain ⟨⟨h0, h1⟩, rfl, rfl⟩ := h
          simp only [R] at hx
          obtain ⟨hkn, b, rfl, hx⟩ := hx
          refine Gv.same hok (index_ar hT hl hk he h0 h1 s.w) ?_
          simp only [R]
          exact ⟨hkn, b, rfl, hx⟩
        · exact h.elim
    · exact h.elim
theorem index_Gv (hT : TbOk P tb) {s : St} (hok : Ok s) {nid : Nat} {T : TypeId} {x i : AV} {cx ci : Value} (hx : R s x cx) (hi : R s i ci) {v : AV} {ob : Option AObj} (h : (pIndex tb T x i).Is v ob) :
    Gv P (Instr.index T cx ci) s nid v ob := by
  unfold pIndex at h
  split at h
  · exact h.elim
  · rename_i ti hl
    split at h
    · rename_i str k n hk
      obtain ⟨b, h0, hb, rfl, rfl⟩ := h
      simp only [R] at hx hi
      subst hx hi
      have hu := str_und hT hl hk
      have hlt : n.toNat < str.size := by
        have := (List.getElem?_eq_some_iff.1 hb).1
        simpa using this
      have hg : str[n.toNat]? = some b := by
        rw [getElem?_pos str n.toNat hlt]
        have h2 : n.toNat < str.data.toList.length := by simpa using hlt
        rw [List.getElem?_eq_getElem h2] at hb
        have h3 := Option.some.inj hb
        rw [← h3]
        rfl
      exact Gv.same (cv := .int .u8 b.toNat) hok (by simp [Instr.index, run_underlying hu, asIntOf, h0, hg]) (by simp only [R])
    · exact h.elim
end
end Av
