/-
  An abstract reading of values and memory: slices; and all operations that only read or make memory.
  An abstract reading of values and memory: any operation that only reads or makes memory does what is reckoned.
-/
import Derived.Test.YtkjoofinfhdcaaaAvb
import Derived.Laws.BytesString
import Derived.Laws.Cells
namespace Av
open Go
def RO (s : St) : Option AV → Option Value → Prop
 | none, none => True
 | some a, some v => R s a v
 | _, _ => False
theorem RO_map {s : St} {ρ : Operand → AV} {ev : Operand → Value} (h : ∀ x, R s (ρ x) (ev x)) : ∀ (o : Option Operand), RO s (o.map ρ) (o.map ev)
 | none => trivial
 | some x => h x
section
variable {P : Program} {tb : Tb}
theorem optI_R {s : St} {d n : Int} {o : Option AV} {c : Option Value} (h : optI d o = some n) (hr : RO s o c) : (o = none ∧ c = none ∧ n = d) ∨ ∃ k, c = some (.int k n) := by
 cases o with
 | none =>
  cases c with
  | none => simp only [optI] at h; cases h; exact .inl ⟨rfl, rfl, rfl⟩
  | some _ => exact hr.elim
 | some a =>
  cases c with
  | none => exact hr.elim
  | some v =>
   cases a <;> simp only [optI] at h <;> first
    | (cases h; done)
    | skip
   cases h
   simp only [RO, R] at hr
   exact .inr ⟨_, by rw [hr]⟩
theorem bound_run {k : IntKind} {n : Int} {y : Nat} {code : BoundsCode} (h0 : 0 ≤ n) (h1 : n ≤ y) (w : World) : (Instr.sliceBound (.int k n) y code).run P w = .ok n.toNat w := by
 simp [Instr.sliceBound, asIntOf, h0, h1]
theorem bounds_run {isSl : Bool} {len cap : Nat} {lo hi : Option Value} {a b : Int} (hl : (lo = none ∧ a = 0) ∨ ∃ k, lo = some (.int k a)) (hh : (hi = none ∧ b = len) ∨ ∃ k, hi = some (.int k b)) (h0 : 0 ≤ a) (h1 : a ≤ b) (h2 : b ≤ cap) (w : World) :
  (Instr.sliceBounds isSl len cap lo hi none).run P w = .ok (a.toNat, b.toNat, cap) w := by
 unfold Instr.sliceBounds
 rcases hh with ⟨rfl, rfl⟩ | ⟨k, rfl⟩
 ·rcases hl with ⟨rfl, rfl⟩ | ⟨k', rfl⟩
  ·simp
  ·have := bound_run (P := P) (k := k') (code := .sliceB) h0 (y := len) h1 w
   simp [this]
 ·have hb := bound_run (P := P) (k := k) (code := if isSl then .sliceAcap else .sliceAlen) (show 0 ≤ b by omega) (y := cap) h2 w
  rcases hl with ⟨rfl, rfl⟩ | ⟨k', rfl⟩
  ·simp [hb]
  ·have := bound_run (P := P) (k := k') (code := .sliceB) h0 (y := b.toNat) (by omega) w
   simp [hb, this]
theorem sliceS_run (hT : TbOk P tb) {T e : TypeId} {ti te : TI} (hl : lk tb T = some ti) (hk : ti.kind = .sl e) (he : lk tb e = some te) {ad : Option Addr} {len cap : Nat} {lo hi : Option Value} {a b : Int}
  (h1 : (lo = none ∧ a = 0) ∨ ∃ k, lo = some (.int k a)) (h2 : (hi = none ∧ b = len) ∨ ∃ k, hi = some (.int k b)) (h3 : 0 ≤ a) (h4 : a ≤ b) (h5 : b ≤ cap) (w : World) :
  (Instr.sliceAt T (.slice ad len cap) lo hi none).run P w = .ok (.slice (if cap = a.toNat then ad else ad.map (·.add (a.toNat * te.size))) (b.toNat - a.toNat) (cap - a.toNat)) w := by
 have hu := slice_und hT hl hk
 have hb := bounds_run (P := P) (isSl := true) (len := len) (cap := cap) h1 h2 h3 h4 h5 w
 simp only [Instr.sliceAt, Sem.run_bind, run_underlying hu, Result.andThen_ok]
 simp only [Instr.slice, Sem.run_bind, run_underlying hu, Result.andThen_ok, hb, sizeOf_run hT he w, Sem.run_pure]
theorem lst_slice {s : St} {t : Ty} {l : List t.El} {ad : Option Addr} {cap n : Nat} (hx : RLst s t l (.slice ad l.length cap)) {a b : Int} (h0 : 0 ≤ a) (h1 : a ≤ b) (h2 : b ≤ l.length) (hsz : t.size = n) :
  R s (.lst t ((l.drop a.toNat).take (b.toNat - a.toNat))) (.slice (if cap = a.toNat then ad else ad.map (·.add (a.toNat * n))) (b.toNat - a.toNat) (cap - a.toNat)) := by
 obtain ⟨ad', cap', he, hc, hm⟩ := hx
 cases he
 subst hsz
 have hlen : ((l.drop a.toNat).take (b.toNat - a.toNat)).length = b.toNat - a.toNat := by
  rw [List.length_take, List.length_drop]; omega
 simp only [R]
 refine ⟨_, _, by rw [hlen], by rw [hlen]; omega, fun hne => ?_⟩
 have hpos : 0 < b.toNat - a.toNat := by
  rw [← hlen]
  exact List.length_pos_iff.2 hne
 have hlne : l ≠ [] := by rintro rfl; simp at h2; omega
 obtain ⟨bb, o, rfl, hlt, hown, hr⟩ := hm hlne
 rw [if_neg (by omega)]
 refine ⟨bb, o + a.toNat * t.size, by simp [Addr.add_mid], hlt, hown, fun i x hi => ?_⟩
 rw [List.getElem?_take] at hi
 split at hi
 ·rw [List.getElem?_drop] at hi
  have := hr _ x hi
  rw [Nat.add_mul, ← Nat.add_assoc] at this
  exact this
 ·cases hi
theorem slice_Gv (hT : TbOk P tb) {s : St} (hok : Ok s) {h0 : List AObj} (hs : SubH h0 s.h) {nid : Nat} {T : TypeId} {x : AV} {cx : Value} {lo hi mx : Option AV} {clo chi cmx : Option Value} (hx : R s x cx) (hlo : RO s lo clo) (hhi : RO s hi chi) (hmx : RO s mx cmx)
  {v : AV} {ob : Option AObj} (h : (pSlice tb h0 T x lo hi mx).Is v ob) : Gv P (Instr.sliceAt T cx clo chi cmx) s nid v ob := by
 unfold pSlice at h
 split at h
 ·exact h.elim
 ·cases cmx with
  | some _ => exact hmx.elim
  | none =>
   split at h
   ·exact h.elim
   ·rename_i ti hl
    have bnd : ∀ {d n : Int} {o : Option AV} {c : Option Value}, optI d o = some n → RO s o c → (c = none ∧ n = d) ∨ ∃ k, c = some (.int k n) := fun h hr => by
     rcases optI_R h hr with ⟨_, h1, h2⟩ | h1
     ·exact .inl ⟨h1, h2⟩
     ·exact .inr h1
    split at h
    ·rename_i str hk
     split at h
     ·rename_i a b ha hb
      obtain ⟨⟨h1, h2, h3⟩, rfl, rfl⟩ := h
      simp only [R] at hx
      subst hx
      have hu := str_und hT hl hk
      have hbr := bounds_run (P := P) (isSl := false) (len := str.size) (cap := str.size) (bnd ha hlo) (bnd hb hhi) h1 h2 h3 s.w
      refine Gv.same (cv := .string (str.extract a.toNat b.toNat)) hok ?_ (by simp only [R])
      simp only [Instr.sliceAt, Sem.run_bind, run_underlying hu, Result.andThen_ok]
      simp only [Instr.slice, Sem.run_bind, run_underlying hu, Result.andThen_ok, Option.isSome_none, Bool.false_eq_true, if_false, hbr, Sem.run_pure]
     ·exact h.elim
    ·rename_i e t l hk
     split at h
     ·rename_i te he
      cases hb : Nat.beq t.size te.size with
      | false => rw [hb] at h; exact h.elim
      | true =>
       rw [hb] at h
       simp only [cond_true] at h
       split at h
       ·rename_i a b ha hb'
        obtain ⟨⟨h1, h2, h3⟩, rfl, rfl⟩ := h
        simp only [R] at hx
        have hx' := hx
        obtain ⟨ad, cap, rfl, hc, _⟩ := hx
        exact Gv.same hok (sliceS_run hT hl hk he (bnd ha hlo) (bnd hb' hhi) h1 h2 (by omega) s.w) (lst_slice hx' h1 h2 h3 (Nat.eq_of_beq_eq_true hb))
       ·exact h.elim
     ·exact h.elim
    ·rename_i e t l hk
     split at h
     ·rename_i te he
      cases hb : Nat.beq t.size te.size with
      | false => rw [hb] at h; exact h.elim
      | true =>
       rw [hb] at h
       simp only [cond_true] at h
       split at h
       ·rename_i a b ha hb'
        obtain ⟨⟨h1, h2, h3⟩, rfl, rfl⟩ := h
        simp only [R] at hx
        have hx' := hx.1
        obtain ⟨⟨ad, cap, rfl, hc, _⟩, _⟩ := hx
        exact Gv.same hok (sliceS_run hT hl hk he (bnd ha hlo) (bnd hb' hhi) h1 h2 (by omega) s.w) (lst_slice hx' h1 h2 h3 (Nat.eq_of_beq_eq_true hb))
       ·exact h.elim
     ·exact h.elim
    ·rename_i e id g n hk
     split at h
     ·rename_i te he
      split at h
      ·rename_i E t l f g' hc
       cases hb : Nat.beq t.size te.size with
       | false => rw [hb] at h; exact h.elim
       | true =>
        rw [hb] at h
        simp only [cond_true] at h
        have hsz := Nat.eq_of_beq_eq_true hb
        have hc' := hs id _ hc rfl
        simp only [R] at hx
        obtain ⟨hkn, base, cap, rfl, hx⟩ := hx
        obtain ⟨_, hx2⟩ := hx E t l f g' hc'
        have capl : g' = g → l.length ≤ cap ∧ ∃ len, s.σ id = .slice base len cap := fun e => by
         obtain ⟨_, len, hσ⟩ := hx2 e
         obtain ⟨xs, hown, _⟩ := hok.obj id _ hc'
         rw [hσ] at hown
         refine ⟨?_, len, hσ⟩
         rcases hown.2 with ⟨he', hz⟩ | ⟨b, cap', cur, he', _, _, h1, _⟩
         ·omega
         ·cases he'; exact h1
        split at h
        ·rename_i b hb'
         obtain ⟨⟨rfl, h1, h2, h3⟩, rfl, rfl⟩ := h
         obtain ⟨hcap, len, hσ⟩ := capl rfl
         have hlo' : clo = none := by cases clo with | none => rfl | some _ => exact hlo.elim
         refine Gv.same hok (sliceS_run hT hl hk he (a := 0) (.inl ⟨hlo', rfl⟩) (bnd hb' hhi) (Int.le_refl _) h1 (by omega) s.w) ?_
         simp only [R, Int.toNat_zero, Nat.zero_mul, Nat.sub_zero]
         refine ⟨hkn, base, cap, ?_, fun T' t' l' f' g1 hc1 => ?_⟩
         ·have hadd : base.map (fun a => a.add 0) = base := by cases base <;> simp [Addr.add]
          rw [hadd]
          simp
         ·rw [hc'] at hc1
          cases hc1
          exact ⟨Nat.le_refl _, fun _ => ⟨by omega, len, hσ⟩⟩
        ·rename_i k a b hb'
         obtain ⟨⟨rfl, h1, h2, h3, h4⟩, rfl, rfl⟩ := h
         obtain ⟨hcap, len, hσ⟩ := capl rfl
         have hlo' : ∃ k, clo = some (.int k a) := by
          cases clo with
          | none => exact hlo.elim
          | some c => simp only [RO, R] at hlo; exact ⟨k, by rw [hlo]⟩
         refine Gv.same hok (sliceS_run hT hl hk he (.inr hlo') (bnd hb' hhi) h1 h2 (by omega) s.w) ?_
         simp only [R]
         refine ⟨hkn, _, _, rfl, by omega, fun T' t' l' f' g1 hc1 => ?_⟩
         rw [hc'] at hc1
         cases hc1
         refine ⟨Nat.le_refl _, fun _ => ⟨by omega, base, len, cap, hσ, fun hpos => ?_⟩⟩
         obtain ⟨xs, hown, _⟩ := hok.obj id _ hc'
         rw [hσ] at hown
         rcases hown.2 with ⟨he', hz⟩ | ⟨b', cap', cur, he', _, _, h5, _⟩
         ·omega
         ·cases he'
          refine ⟨b', rfl, ?_⟩
          rw [if_neg (by omega), hsz]
          simp [Addr.add_mid]
        ·exact h.elim
      ·exact h.elim
     ·exact h.elim
    ·rename_i e id g l0 n hk
     split at h
     ·rename_i te he
      split at h
      ·rename_i E t l f g' hc
       cases hb : Nat.beq t.size te.size with
       | false => rw [hb] at h; exact h.elim
       | true =>
        rw [hb] at h
        simp only [cond_true] at h
        have hsz := Nat.eq_of_beq_eq_true hb
        have hc' := hs id _ hc rfl
        simp only [R] at hx
        obtain ⟨hkn, ad, cap', rfl, hn, hx⟩ := hx
        obtain ⟨_, hx2⟩ := hx E t l f g' hc'
        split at h
        ·rename_i a b ha hb'
         obtain ⟨⟨rfl, h1, h2, h3⟩, rfl, rfl⟩ := h
         obtain ⟨h4, base, len, cap, hσ, hbase⟩ := hx2 rfl
         refine Gv.same hok (sliceS_run hT hl hk he (bnd ha hlo) (bnd hb' hhi) h1 h2 (by omega) s.w) ?_
         simp only [R]
         refine ⟨hkn, _, _, rfl, by omega, fun T' t' l' f' g1 hc1 => ?_⟩
         rw [hc'] at hc1
         cases hc1
         refine ⟨Nat.le_refl _, fun _ => ⟨by omega, base, len, cap, hσ, fun hpos => ?_⟩⟩
         obtain ⟨b', rfl, rfl⟩ := hbase (by omega)
         refine ⟨b', rfl, ?_⟩
         rw [if_neg (by omega), hsz]
         simp [Addr.add_mid, Nat.add_mul]
        ·exact h.elim
      ·exact h.elim
     ·exact h.elim
    ·exact h.elim
/-! ### Slices with a capacity of their own -/
theorem bounds3_run {len cap : Nat} {lo : Option Value} {k1 k2 : IntKind} {a b c : Int} (hl : (lo = none ∧ a = 0) ∨ ∃ k, lo = some (.int k a)) (h0 : 0 ≤ a) (h1 : a ≤ b) (h2 : b ≤ c) (h3 : c ≤ cap) (w : World) :
  (Instr.sliceBounds true len cap lo (some (.int k1 b)) (some (.int k2 c))).run P w = .ok (a.toNat, b.toNat, c.toNat) w := by
 unfold Instr.sliceBounds
 have hc := bound_run (P := P) (k := k2) (code := .slice3Acap) (show 0 ≤ c by omega) (y := cap) h3 w
 have hb := bound_run (P := P) (k := k1) (code := .slice3B) (show 0 ≤ b by omega) (y := c.toNat) (by omega) w
 rcases hl with ⟨rfl, rfl⟩ | ⟨k', rfl⟩
 ·simp [hc, hb]
 ·have := bound_run (P := P) (k := k') (code := .slice3C) h0 (y := b.toNat) (by omega) w
  simp [hc, hb, this]
theorem slice3_run (hT : TbOk P tb) {T e : TypeId} {ti te : TI} (hl : lk tb T = some ti) (hk : ti.kind = .sl e) (he : lk tb e = some te) {ad : Option Addr} {len cap : Nat} {lo : Option Value} {k1 k2 : IntKind} {a b c : Int}
  (h1 : (lo = none ∧ a = 0) ∨ ∃ k, lo = some (.int k a)) (h3 : 0 ≤ a) (h4 : a ≤ b) (h5 : b ≤ c) (h6 : c ≤ cap) (w : World) :
  (Instr.sliceAt T (.slice ad len cap) lo (some (.int k1 b)) (some (.int k2 c))).run P w = .ok (.slice (if c.toNat = a.toNat then ad else ad.map (·.add (a.toNat * te.size))) (b.toNat - a.toNat) (c.toNat - a.toNat)) w := by
 have hu := slice_und hT hl hk
 have hb := bounds3_run (P := P) (len := len) (cap := cap) (k1 := k1) (k2 := k2) h1 h3 h4 h5 h6 w
 simp only [Instr.sliceAt, Sem.run_bind, run_underlying hu, Result.andThen_ok]
 simp only [Instr.slice, Sem.run_bind, run_underlying hu, Result.andThen_ok, hb, sizeOf_run hT he w, Sem.run_pure]
theorem lst_slice3 {s : St} {t : Ty} {l : List t.El} {ad : Option Addr} {cap n : Nat} (hx : RLst s t l (.slice ad l.length cap)) {a b : Int} (h0 : 0 ≤ a) (h1 : a ≤ b) (h2 : b ≤ l.length) (hsz : t.size = n) :
  R s (.tlst t ((l.drop a.toNat).take (b.toNat - a.toNat))) (.slice (if b.toNat = a.toNat then ad else ad.map (·.add (a.toNat * n))) (b.toNat - a.toNat) (b.toNat - a.toNat)) := by
 obtain ⟨ad', cap', he, hc, hm⟩ := hx
 cases he
 subst hsz
 have hlen : ((l.drop a.toNat).take (b.toNat - a.toNat)).length = b.toNat - a.toNat := by
  rw [List.length_take, List.length_drop]; omega
 simp only [R]
 refine ⟨⟨_, _, by rw [hlen], by rw [hlen]; exact Nat.le_refl _, fun hne => ?_⟩, _, by rw [hlen]⟩
 have hpos : 0 < b.toNat - a.toNat := by
  rw [← hlen]
  exact List.length_pos_iff.2 hne
 have hlne : l ≠ [] := by rintro rfl; simp at h2; omega
 obtain ⟨bb, o, rfl, hlt, hown, hr⟩ := hm hlne
 rw [if_neg (by omega)]
 refine ⟨bb, o + a.toNat * t.size, by simp [Addr.add_mid], hlt, hown, fun i x hi => ?_⟩
 rw [List.getElem?_take] at hi
 split at hi
 ·rw [List.getElem?_drop] at hi
  have := hr _ x hi
  rw [Nat.add_mul, ← Nat.add_assoc] at this
  exact this
 ·cases hi
theorem RO_int {s : St} {k : IntKind} {n : Int} {c : Option Value} (h : RO s (some (.int k n)) c) : c = some (.int k n) := by
 cases c with
 | none => exact h.elim
 | some c => simp only [RO, R] at h; rw [h]
theorem slice3_Gv (hT : TbOk P tb) {s : St} (hok : Ok s) {h0 : List AObj} (hs : SubH h0 s.h) {nid : Nat} {T : TypeId} {x : AV} {cx : Value} {lo hi mx : Option AV} {clo chi cmx : Option Value} (hx : R s x cx) (hlo : RO s lo clo) (hhi : RO s hi chi) (hmx : RO s mx cmx)
  {v : AV} {ob : Option AObj} (h : (pSlice3 tb h0 T x lo hi mx).Is v ob) : Gv P (Instr.sliceAt T cx clo chi cmx) s nid v ob := by
 unfold pSlice3 at h
 split at h
 ·rename_i kb b kc c
  have := RO_int hhi
  subst this
  have := RO_int hmx
  subst this
  have bnd : ∀ {d n : Int} {o : Option AV} {c : Option Value}, optI d o = some n → RO s o c → (c = none ∧ n = d) ∨ ∃ k, c = some (.int k n) := fun h hr => by
   rcases optI_R h hr with ⟨_, h1, h2⟩ | h1
   ·exact .inl ⟨h1, h2⟩
   ·exact .inr h1
  split at h
  ·exact h.elim
  ·rename_i ti hl
   split at h
   ·rename_i e hk
    split at h
    ·exact h.elim
    ·rename_i te he
     split at h
     ·rename_i t l
      cases hb : Nat.beq t.size te.size with
      | false => rw [hb] at h; exact h.elim
      | true =>
       rw [hb] at h
       simp only [cond_true] at h
       split at h
       ·rename_i a ha
        obtain ⟨⟨h1, h2, rfl, h3⟩, rfl, rfl⟩ := h
        simp only [R] at hx
        have hx' := hx
        obtain ⟨ad, cap, rfl, hc, _⟩ := hx
        exact Gv.same hok (slice3_run hT hl hk he (bnd ha hlo) h1 h2 (Int.le_refl _) (by omega) s.w) (lst_slice3 hx' h1 h2 h3 (Nat.eq_of_beq_eq_true hb))
       ·exact h.elim
     ·rename_i t l
      cases hb : Nat.beq t.size te.size with
      | false => rw [hb] at h; exact h.elim
      | true =>
       rw [hb] at h
       simp only [cond_true] at h
       split at h
       ·rename_i a ha
        obtain ⟨⟨h1, h2, rfl, h3⟩, rfl, rfl⟩ := h
        simp only [R] at hx
        have hx' := hx.1
        obtain ⟨⟨ad, cap, rfl, hc, _⟩, _⟩ := hx
        exact Gv.same hok (slice3_run hT hl hk he (bnd ha hlo) h1 h2 (Int.le_refl _) (by omega) s.w) (lst_slice3 hx' h1 h2 h3 (Nat.eq_of_beq_eq_true hb))
       ·exact h.elim
     ·rename_i id g n
      split at h
      ·rename_i E t l f g' hc
       cases hb : Nat.beq t.size te.size with
       | false => rw [hb] at h; exact h.elim
       | true =>
        rw [hb] at h
        simp only [cond_true] at h
        have hsz := Nat.eq_of_beq_eq_true hb
        have hc' := hs id _ hc rfl
        simp only [R] at hx
        obtain ⟨hkn, base, cap, rfl, hx⟩ := hx
        obtain ⟨_, hx2⟩ := hx E t l f g' hc'
        have capl : g' = g → l.length ≤ cap ∧ (∃ len, s.σ id = .slice base len cap) ∧ (f = true → cap = l.length) := fun e => by
         obtain ⟨_, len, hσ⟩ := hx2 e
         obtain ⟨xs, hown, _, _, hfull⟩ := hok.obj id _ hc'
         rw [hσ] at hown
         refine ⟨?_, ⟨len, hσ⟩, fun hf => ?_⟩
         ·rcases hown.2 with ⟨he', hz⟩ | ⟨b, cap', cur, he', _, _, h1, _⟩
          ·omega
          ·cases he'; exact h1
         ·obtain ⟨base', hb'⟩ := hfull hf
          rw [hσ] at hb'
          cases hb'
          rfl
        split at h
        ·rename_i a ha
         have tight : (Res.need (g' = g ∧ 0 ≤ a ∧ a ≤ b ∧ b = c ∧ b ≤ l.length ∧ n ≤ l.length) (.ok (.tosl id g a.toNat (b.toNat - a.toNat)) none)).Is v ob → Gv P (Instr.sliceAt T (.slice base n cap) clo (some (.int kb b)) (some (.int kc c))) s nid v ob := by
          rintro ⟨⟨rfl, h1, h2, rfl, h3, h4⟩, rfl, rfl⟩
          obtain ⟨hcap, ⟨len, hσ⟩, _⟩ := capl rfl
          refine Gv.same hok (slice3_run hT hl hk he (bnd ha hlo) h1 h2 (Int.le_refl _) (by omega) s.w) ?_
          simp only [R]
          refine ⟨⟨hkn, _, _, rfl, Nat.le_refl _, fun T' t' l' f' g1 hc1 => ?_⟩, _, rfl⟩
          rw [hc'] at hc1
          cases hc1
          refine ⟨Nat.le_refl _, fun _ => ⟨by omega, base, len, cap, hσ, fun hpos => ?_⟩⟩
          obtain ⟨xs, hown, _⟩ := hok.obj id _ hc'
          rw [hσ] at hown
          rcases hown.2 with ⟨he', hz⟩ | ⟨b', cap', cur, he', _, _, h5, _⟩
          ·omega
          ·cases he'
           refine ⟨b', rfl, ?_⟩
           rw [if_neg (by omega), hsz]
           simp [Addr.add_mid]
         split at h
         ·rcases h with ⟨hdec, h⟩ | ⟨hdec, h⟩
          ·obtain ⟨rfl, rfl⟩ := of_decide_eq_true hdec
           obtain ⟨⟨rfl, h1, h2⟩, rfl, rfl⟩ := h
           obtain ⟨hcap, ⟨len, hσ⟩, hfc⟩ := capl rfl
           have hfc := hfc rfl
           refine Gv.same hok (slice3_run hT hl hk he (bnd ha hlo) (Int.le_refl _) h1 (by omega) (by omega) s.w) ?_
           simp only [R, Int.toNat_zero, Nat.zero_mul, Nat.sub_zero]
           refine ⟨hkn, base, cap, ?_, fun T' t' l' f' g1 hc1 => ?_⟩
           ·have hadd : base.map (fun a => a.add 0) = base := by cases base <;> simp [Addr.add]
            rw [hadd, hfc]
            simp
           ·rw [hc'] at hc1
            cases hc1
            exact ⟨Nat.le_refl _, fun _ => ⟨by omega, len, hσ⟩⟩
          ·exact tight h
         ·exact tight h
        ·exact h.elim
      ·exact h.elim
     ·exact h.elim
   ·exact h.elim
 ·exact h.elim

/-! ### Capacity, conversions -/
theorem cap_Gv (hT : TbOk P tb) {s : St} (hok : Ok s) {h0 : List AObj} (hs : SubH h0 s.h) {nid : Nat} {T ty : TypeId} {x : AV} {cx : Value} (hx : R s x cx) {v : AV} {ob : Option AObj} (h : (pCap tb h0 T x).Is v ob) : Gv P (Builtin.cap_ #[T] ty #[cx]) s nid v ob := by
 unfold pCap at h
 split at h
 ·rename_i e hk
  obtain ⟨ti, hl, hk⟩ := kind_get hk
  have hu := slice_und hT hl hk
  have run : ∀ a n c, (Builtin.cap_ #[T] ty #[.slice a n c]).run P s.w = .ok (.int .i64 c) s.w := fun a n c => by
   simp [Builtin.cap_, run_underlying hu, goInt]
  split at h
  ·obtain ⟨rfl, rfl⟩ := h
   simp only [R] at hx
   subst hx
   exact Gv.same hok (run none 0 0) (by simp only [R]; rfl)
  ·obtain ⟨rfl, rfl⟩ := h
   simp only [R] at hx
   subst hx
   exact Gv.same hok (run none 0 0) (by simp only [R]; rfl)
  ·obtain ⟨rfl, rfl⟩ := h
   simp only [R] at hx
   obtain ⟨_, a, rfl⟩ := hx
   exact Gv.same hok (run _ _ _) (by simp only [R])
  ·obtain ⟨rfl, rfl⟩ := h
   simp only [R] at hx
   obtain ⟨_, a, rfl⟩ := hx
   exact Gv.same hok (run _ _ _) (by simp only [R])
  ·rename_i id g n
   split at h
   ·rename_i E t l g' hc
    have hc' := hs id _ hc rfl
    obtain ⟨rfl, rfl, rfl⟩ := h
    simp only [R] at hx
    obtain ⟨_, base, cap, rfl, hx⟩ := hx
    obtain ⟨_, hx2⟩ := hx E t l true g' hc'
    obtain ⟨_, len, hσ⟩ := hx2 rfl
    obtain ⟨xs, hown, _, _, hfull⟩ := hok.obj id _ hc'
    obtain ⟨base', hb'⟩ := hfull rfl
    rw [hσ] at hb'
    cases hb'
    exact Gv.same hok (run _ _ _) (by simp only [R])
   ·exact h.elim
  ·exact h.elim
 ·exact h.elim
theorem foldl_bytes : ∀ (l : List Int) (b : ByteArray), l.foldl (fun r n => r.push (UInt8.ofNat n.toNat)) b = ⟨b.data ++ (l.map fun n => UInt8.ofNat n.toNat).toArray⟩
 | [], b => by simp
 | n :: l, b => by
  rw [List.foldl_cons, foldl_bytes l]
  simp [ByteArray.push]
theorem bytes_cells {l : List Int} {xs : List Value} (hlen : xs.length = l.length) (h : ∀ (j : Nat) (x : Int), l[j]? = some x → xs[j]? = some (.int .u8 x)) : xs = l.map (Value.int .u8) := by
 apply List.ext_getElem?
 intro j
 by_cases hj : j < l.length
 ·rw [h j l[j] (List.getElem?_eq_getElem hj)]
  simp [List.getElem?_eq_getElem hj]
 ·rw [List.getElem?_eq_none (by omega), List.getElem?_eq_none (by simp; omega)]
theorem bytes_run {w : World} {S T e : TypeId} (hus : P.underlying S = some (.slice e)) (hue : P.underlying e = some (.int .u8)) (hut : P.underlying T = some .string) {l : List Int} {xs : List Value} (hxs : xs = l.map (Value.int .u8)) {b cap n : Nat}
  (hcells : ∀ (j : Nat) (v : Value), xs[j]? = some v → w.cell? ((⟨b, 0, none⟩ : Addr).add j) = some v) (hn : n ≤ l.length) : (Go.convert S T (.slice (some ⟨b, 0, none⟩) n cap)).run P w = .ok (.string (bytesOf (l.take n))) w := by
 rw [run_convert_bytes_string w S T e _ n cap hus hue hut]
 have hll := run_loadCells_list (P := P) (w := w) ⟨b, 0, none⟩ ((l.take n).map (Value.int .u8)) (fun j v hj => by
  refine hcells j v ?_
  rw [hxs]
  rw [List.map_take, List.getElem?_take] at hj
  split at hj
  ·exact hj
  ·cases hj)
 have hlen2 : ((l.take n).map (Value.int .u8)).length = n := by
  rw [List.length_map, List.length_take]; exact Nat.min_eq_left hn
 rw [hlen2] at hll
 rw [run_bytesToString w ⟨b, 0, none⟩ n cap (l.take n) hll, foldl_bytes]
 simp [bytesOf, ByteArray.empty, ByteArray.emptyWithCapacity]
 rfl
theorem conv_Gv (hT : TbOk P tb) {s : St} (hok : Ok s) {h0 : List AObj} (hs : SubH h0 s.h) {nid : Nat} {S T : TypeId} {x : AV} {cx : Value} (hx : R s x cx) {v : AV} {ob : Option AObj} (h : (pConv tb h0 S T x).Is v ob) : Gv P (Go.convert S T cx) s nid v ob := by
 unfold pConv at h
 split at h
 ·rename_i si ti hl' hl
  obtain ⟨d, hd, _⟩ := (tb_und hT hl').und
  split at h
  ·rename_i id g n hk
   split at h
   ·rename_i e hke
    split at h
    ·rename_i E t l f g' hu8 hc
     obtain ⟨te, hle, hkE⟩ := kind_get hu8
     have hc' := hs id _ hc rfl
     split at h
     ·rename_i l2 hcast
      obtain ⟨he, hl2⟩ := castL_eq hcast
      subst he
      subst hl2
      obtain ⟨⟨rfl, hn⟩, rfl, rfl⟩ := h
      have hn : n ≤ l.length := hn
      simp only [R] at hx
      obtain ⟨_, base, cap, rfl, hx⟩ := hx
      obtain ⟨_, hx2⟩ := hx E (.int .u8) l f g' hc'
      obtain ⟨_, len, hσ⟩ := hx2 rfl
      obtain ⟨xs, hown, hone, hrow, _⟩ := hok.obj id _ hc'
      have hxs := bytes_cells (l := l) (xs := xs) (by rw [hown.1]; exact Nat.mul_one _) (fun j x hj => by
       have := hrow j x hj
       simp only [RT, Ty.size, Nat.mul_one, Nat.add_zero] at this
       exact this)
      have hus := slice_und hT hl' hke
      have hue := int_und hT hle hkE
      have hut := str_und hT hl hk
      rw [hσ] at hown
      refine Gv.same (cv := .string (bytesOf ((l : List Int).take n))) hok ?_ (by simp only [R])
      rcases hown.2 with ⟨he', hz⟩ | ⟨b, cap', cur, he', _, _, h5, _⟩
      ·cases he'
       have hn0 : n = 0 := by omega
       subst hn0
       rw [run_convert_bytes_string s.w S T e none 0 0 hus hue hut]
       rfl
      ·cases he'
       exact bytes_run hus hue hut hxs (hown.cells (g := b) rfl) hn
     ·exact h.elim
    ·exact h.elim
   ·exact h.elim
  ·rename_i k' k n hk
   simp only [R] at hx
   subst hx
   obtain ⟨hin, rfl, rfl⟩ := h
   have hu := int_und hT hl hk
   exact Gv.same (cv := .int k' n) hok (by simp only [Go.convert, Sem.run_bind, run_underlying hd, run_underlying hu, Result.andThen_ok, Conv.intToInt, wrap_in hin, Sem.run_pure]) (by simp only [R])
  ·rename_i str hk
   simp only [R] at hx
   subst hx
   obtain ⟨rfl, rfl⟩ := h
   have hu := str_und hT hl hk
   exact Gv.same (cv := .string str) hok (by simp only [Go.convert, Sem.run_bind, run_underlying hd, run_underlying hu, Result.andThen_ok, Sem.run_pure]) (by simp only [R])
  ·exact h.elim
 ·exact h.elim
end
end Av
namespace Av
open Go
section
variable {P : Program} {tb : Tb}
theorem Gives.of {o : Oper} {a : Act} {s : St} {nid : Nat} {v : AV} {ob : Option AObj} {e : Sem Value} (h : Gv P e s nid v ob) (he : execOp a.eval o = (do pure (.value (← e)))) : Gives P o a s nid v ob := by
 obtain ⟨cv, s', hr, h1, h2, h3, h4⟩ := h
 exact ⟨cv, s', by rw [he]; exact exec_value hr, h1, h2, h3, h4⟩
theorem Gives.of_run {o : Oper} {a : Act} {s : St} {nid : Nat} {v : AV} {ob : Option AObj} {e : Sem Value} (h : Gv P e s nid v ob) (he : (execOp a.eval o).run P s.w = ((do pure (.value (← e))) : Sem Next).run P s.w) : Gives P o a s nid v ob := by
 obtain ⟨cv, s', hr, h1, h2, h3, h4⟩ := h
 exact ⟨cv, s', by rw [he]; exact exec_value hr, h1, h2, h3, h4⟩
theorem pop_Gives (hT : TbOk P tb) {s : St} (hok : Ok s) {h0 : List AObj} (hs : SubH h0 s.h) {nid : Nat} (hf : Free s.h nid) {ρ : Operand → AV} {a : Act} (hρ : ∀ x, R s (ρ x) (a.eval x)) {o : Oper} {v : AV} {ob : Option AObj}
  (h : (pop tb h0 nid ρ o).Is v ob) : Gives P o a s nid v ob := by
 unfold pop at h
 split at h <;> rename_i ho
 ·exact Gives.of (move_Gv hok hf (hρ _) h) (by unfold execOp; simp only [ho]; rfl)
 ·exact Gives.of (move_Gv hok hf (hρ _) h) (by unfold execOp; simp only [ho]; rfl)
 ·rename_i c x y
  exact Gives.of (pick_Gv (P := P) hok (hρ c) (hρ x) (hρ y) h) (by unfold execOp; simp only [ho]; simp)
 ·exact Gives.of (alloc_Gv hT hok hf h (.tuple #[])) (by unfold execOp; simp only [ho])
 ·exact Gives.of (box_Gv hok hf (hρ _) h) (by unfold execOp; simp only [ho])
 ·rename_i t ps
  exact Gives.of (build_Gv hT hok (ws := ps.map fun p => (p.1, a.eval p.2)) (by simpa using RP_map hρ ps.toList) h) (by unfold execOp; simp only [ho])
 ·rename_i t n ps
  exact Gives.of (buildSlice_Gv hT hok hf (ws := ps.map fun p => (p.1, a.eval p.2)) (by simpa using RP_map hρ ps.toList) h) (by unfold execOp; simp only [ho])
 ·exact Gives.of (load_Gv hT hok hs (hρ _) h) (by unfold execOp; simp only [ho])
 ·exact Gives.of (fieldAddr_Gv hT hok (hρ _) h) (by unfold execOp; simp only [ho])
 ·exact Gives.of (field_Gv hT hok (hρ _) h) (by unfold execOp; simp only [ho])
 ·rename_i t x i
  exact Gives.of (indexAddr_Gv hT hok hs (R_detos (hρ x)) (hρ i) h) (by unfold execOp; simp only [ho])
 ·rename_i t x i
  exact Gives.of (index_Gv hT hok (hρ x) (hρ i) h) (by unfold execOp; simp only [ho])
 ·rename_i op t x y t'
  exact Gives.of (bin_Gv hT hok (ox := x) (oy := y) (R_detos (hρ x)) (hρ y) h) (by unfold execOp; simp only [ho])
 ·exact Gives.of (un_Gv hok (hρ _) h) (by unfold execOp; simp only [ho])
 ·exact Gives.of (conv_Gv hT hok hs (hρ _) h) (by unfold execOp; simp only [ho])
 ·exact Gives.of (iface_Gv hT hok (hρ _) h) (by unfold execOp; simp only [ho])
 ·rename_i x xT t ok
  exact Gives.of (assert_Gv hT hok (X := xT) (hρ x) h) (by unfold execOp; simp only [ho])
 ·exact Gives.of (extract_Gv hok (hρ _) h) (by unfold execOp; simp only [ho])
 ·rename_i t x lo hi mx
  split at h
  ·exact Gives.of (slice_Gv hT hok hs (R_detos (hρ x)) (RO_map hρ lo) (RO_map hρ hi) (mx := none) (cmx := none) trivial h) (by unfold execOp; simp only [ho]; rfl)
  ·rename_i m
   exact Gives.of (slice3_Gv hT hok hs (hρ x) (RO_map hρ lo) (RO_map hρ hi) (mx := some (ρ m)) (cmx := some (a.eval m)) (hρ m) h) (by unfold execOp; simp only [ho]; rfl)
 ·rename_i t n c
  exact Gives.of (make_Gv hT hok hf (hρ n) (hρ c) h) (by unfold execOp; simp only [ho])
 ·rename_i f first caps
  obtain ⟨rfl, rfl⟩ := h
  refine Gives.of (e := Instr.makeFunc f (first.map a.eval) (caps.map a.eval)) (Gv.same (cv := .func f (first.map a.eval) (caps.map a.eval)) hok rfl ?_) (by unfold execOp; simp only [ho])
  simp only [R]
  have e : ∀ xs : Array Operand, xs.map a.eval = (xs.toList.map a.eval).toArray := fun xs => by rw [← Array.toList_map]
  exact ⟨first.toList.map a.eval, caps.toList.map a.eval, by rw [e first, e caps], RL_map hρ _, RL_map hρ _⟩
 ·rename_i x
  obtain ⟨rfl, rfl, hv⟩ := nilCheck_ok (hρ x) h
  refine ⟨a.eval x, s, ?_, Step.refl s, hok, hρ x, rfl⟩
  unfold execOp
  simp only [ho]
  rcases hv with ⟨ad, e⟩ | ⟨f, b, c, e⟩ | ⟨t, y, e⟩ <;> rw [e] <;> rfl
 ·rename_i c
  split at h
  ·rename_i x t hc hargs htys
   have ha : c.args = #[x] := by have := congrArg List.toArray hargs; simpa using this
   have ht : c.argTypes = #[t] := by have := congrArg List.toArray htys; simpa using this
   refine Gives.of_run (len_Gv hT hok (ty := o.type) (R_detos (hρ x)) h) ?_
   unfold execOp
   simp only [ho, resolve, hc, ha, ht, Sem.run_bind, Sem.run_pure, Result.andThen_ok, invoke, builtin]
   simp
  ·rename_i x t hc hargs htys
   have ha : c.args = #[x] := by have := congrArg List.toArray hargs; simpa using this
   have ht : c.argTypes = #[t] := by have := congrArg List.toArray htys; simpa using this
   refine Gives.of_run (cap_Gv hT hok hs (ty := o.type) (hρ x) h) ?_
   unfold execOp
   simp only [ho, resolve, hc, ha, ht, Sem.run_bind, Sem.run_pure, Result.andThen_ok, invoke, builtin]
   simp
  ·have hc : c.callee = .builtin .min := by assumption
   refine Gives.of_run (minmax_Gv hok (cs := c.args.toList.map a.eval) (A := c.argTypes) (ty := o.type) (RL_map hρ c.args.toList) h) ?_
   unfold execOp
   have e : c.args.map a.eval = (c.args.toList.map a.eval).toArray := by rw [← Array.toList_map]
   simp only [ho, resolve, hc, Sem.run_bind, Sem.run_pure, Result.andThen_ok, invoke, builtin, e]
   simp
  ·have hc : c.callee = .builtin .max := by assumption
   refine Gives.of_run (minmax_Gv hok (cs := c.args.toList.map a.eval) (A := c.argTypes) (ty := o.type) (RL_map hρ c.args.toList) h) ?_
   unfold execOp
   have e : c.args.map a.eval = (c.args.toList.map a.eval).toArray := by rw [← Array.toList_map]
   simp only [ho, resolve, hc, Sem.run_bind, Sem.run_pure, Result.andThen_ok, invoke, builtin, e]
   simp
  ·exact h.elim
 ·exact h.elim
end
end Av
