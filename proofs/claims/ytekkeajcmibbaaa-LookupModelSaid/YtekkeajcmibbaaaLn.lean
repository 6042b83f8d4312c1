/-
  The pairs near a key: plain Lean.
  The pairs near a key, by the code.
-/
import Derived.Test.YtekkeajcmibbaaaLj
namespace Go.Proofs.Ytekkeajcmibbaaa
open Av Bk

def nP (q : pairT.El → Bool) : List pairT.El → Nat
  | [] => 0
  | p :: l => if q p = true then nP q l + 1 else 0
theorem nP_at {q : pairT.El → Bool} : ∀ {l : List pairT.El} {i : Nat}, (∀ p ∈ l.take i, q p = true) → i ≤ l.length → (i = l.length ∨ ∃ p, l[i]? = some p ∧ q p = false) → nP q l = i
  | [], i, _, h, _ => by simp at h; subst h; rfl
  | p :: l, 0, _, _, h => by
    rcases h with h | ⟨p', hp, hl⟩
    · simp at h
    · simp at hp; subst hp
      simp [nP, hl]
  | p :: l, i + 1, ht, hi, h => by
    have h0 := ht p (by simp)
    unfold nP
    rw [if_pos h0, nP_at (l := l) (i := i) (fun p hp => ht p (by simp [hp])) (by simpa using hi) (by simpa using h)]
def plcW (w : Bool) (k : ByteArray) (p : pairT.El) : Bool := match w with | true => !sLt k p.1 | false => sLt p.1 k
def nearO (w bh : Bool) (k : ByteArray) (m : List pairT.El) : Option pairT.El := match bh with
  | true => m[nP (plcW w k) m]?
  | false => if nP (plcW w k) m = 0 then none else m[nP (plcW w k) m - 1]?
def nearR (b : List entT.El) (rs : List runT.El) (k : ByteArray) (w bh : Bool) : pairT.El × Int :=
  if askE b rs k ≠ 0 then (mkP ⟨#[]⟩ ⟨#[]⟩, askE b rs k) else match nearO w bh k (mapL (allE b rs)) with
  | some p => (p, 0)
  | none => (mkP ⟨#[]⟩ ⟨#[]⟩, 4)
abbrev pairA (p : pairT.El) : AV := .agg [.str p.1, .str p.2.1]
theorem near_eq {p : pairT.El} {e : Int} {r : pairT.El × Int} (h : r = (p, e)) : AV.tup [pairA p, .int .i64 e] = AV.tup [pairA r.1, .int .i64 r.2] := by rw [h]
theorem near_ask {b : List entT.El} {rs : List runT.El} {k : ByteArray} {w bh : Bool} (h : askE b rs k ≠ 0) : nearR b rs k w bh = (mkP ⟨#[]⟩ ⟨#[]⟩, askE b rs k) := by unfold nearR; rw [if_pos h]
theorem near_go {b : List entT.El} {rs : List runT.El} {k : ByteArray} {w bh : Bool} (h : askE b rs k = 0) : nearR b rs k w bh = match nearO w bh k (mapL (allE b rs)) with | some p => (p, 0) | none => (mkP ⟨#[]⟩ ⟨#[]⟩, 4) := by unfold nearR; rw [if_neg (by simp [h])]
theorem plc_lt {w : Bool} {k : ByteArray} {p : pairT.El} (h : sLt p.1 k = true) : plcW w k p = true := by
  cases w with
  | false => exact h
  | true => show (!sLt k p.1) = true; rw [sLt_asym h]; rfl
theorem plc_eq {k : ByteArray} {p : pairT.El} (h : sEq p.1 k = true) : plcW true k p = true := by
  show (!sLt k p.1) = true
  rw [sEq_iff.1 h, sLt_irrefl]; rfl
theorem plc_no {w : Bool} {k : ByteArray} {p : pairT.El} (h : sLt p.1 k = false) (h2 : w = true → sEq p.1 k = false) : plcW w k p = false := by
  cases w with
  | false => exact h
  | true => show (!sLt k p.1) = false; rw [sLt_of h (sEq_no.1 (h2 rfl))]; rfl
theorem mapL_len (l : List entT.El) : (mapL l).length ≤ l.length := (mapF_len l).2
theorem near_some {o : Option pairT.El} {p : pairT.El} (h : o = some p) : AV.tup [pairA p, .int .i64 0] = AV.tup [pairA (match o with | some p => (p, (0 : Int)) | none => (mkP ⟨#[]⟩ ⟨#[]⟩, 4)).1, .int .i64 (match o with | some p => (p, (0 : Int)) | none => (mkP ⟨#[]⟩ ⟨#[]⟩, 4)).2] := by rw [h]
theorem near_none {o : Option pairT.El} (h : o = none) : AV.tup [pairA (mkP ⟨#[]⟩ ⟨#[]⟩), .int .i64 4] = AV.tup [pairA (match o with | some p => (p, (0 : Int)) | none => (mkP ⟨#[]⟩ ⟨#[]⟩, 4)).1, .int .i64 (match o with | some p => (p, (0 : Int)) | none => (mkP ⟨#[]⟩ ⟨#[]⟩, 4)).2] := by rw [h]
theorem near_b {w : Bool} {k : ByteArray} {m : List pairT.El} {i : Nat} (hn : nP (plcW w k) m = i) : nearO w true k m = m[i]? := by unfold nearO; rw [hn]
theorem near_f {w : Bool} {k : ByteArray} {m : List pairT.El} {i : Nat} (hn : nP (plcW w k) m = i) : nearO w false k m = if i = 0 then none else m[i - 1]? := by unfold nearO; rw [hn]
theorem near_ff {w : Bool} {k : ByteArray} {m : List pairT.El} {i : Nat} {x : pairT.El} (hn : nP (plcW w k) m = i) (h0 : 0 < i) (hx : m[((i : Int) - 1).toNat]? = some x) : nearO w false k m = some x := by
  rw [near_f hn, if_neg (by omega)]
  rw [show ((i : Int) - 1).toNat = i - 1 by omega] at hx
  exact hx
def spNear : DSpec
  | [.agg [.lst (.st [.str, .str, .bool, .int .i64]) b, .lst (.st [.int .i64, .sl (.st [.str, .str, .bool, .int .i64])]) rs], .str k, .bool w, .bool bh] => some (True, .tup [pairA (nearR b rs k w bh).1, .int .i64 (nearR b rs k w bh).2])
  | _ => none
def spNr (w bh : Bool) : DSpec
  | [.agg [.lst (.st [.str, .str, .bool, .int .i64]) b, .lst (.st [.int .i64, .sl (.st [.str, .str, .bool, .int .i64])]) rs], .str k] => some (True, .tup [pairA (nearR b rs k w bh).1, .int .i64 (nearR b rs k w bh).2])
  | _ => none
end Go.Proofs.Ytekkeajcmibbaaa
namespace Go.Proofs.Ytekkeajcmibbaaa
open Av Bk

set_option maxRecDepth 100000 in
theorem fnOk_lkNear : FnOk Try.prog 66 Try.f66 := ⟨by rfl, by kernel_rfl, by
  show okCode _ _ = true ∧ drawsOk _ = true
  exact ⟨by kernel_rfl, by kernel_rfl⟩⟩
set_option maxRecDepth 100000 in
theorem fnOk_lkNear1 : FnOk Try.prog 92 Try.f92 := ⟨by rfl, by kernel_rfl, by
  show okCode _ _ = true ∧ drawsOk _ = true
  exact ⟨by kernel_rfl, by kernel_rfl⟩⟩
set_option maxRecDepth 100000 in
theorem fnOk_idxPair : FnOk Try.prog 79 Try.f79 := ⟨by rfl, by kernel_rfl, by
  show okCode _ _ = true ∧ drawsOk _ = true
  exact ⟨by kernel_rfl, by kernel_rfl⟩⟩
set_option maxRecDepth 100000 in
theorem fnOk_lkFloor : FnOk Try.prog 34 Try.f34 := ⟨by rfl, by kernel_rfl, by
  show okCode _ _ = true ∧ drawsOk _ = true
  exact ⟨by kernel_rfl, by kernel_rfl⟩⟩
set_option maxRecDepth 100000 in
theorem fnOk_lkFloor1 : FnOk Try.prog 67 Try.f67 := ⟨by rfl, by kernel_rfl, by
  show okCode _ _ = true ∧ drawsOk _ = true
  exact ⟨by kernel_rfl, by kernel_rfl⟩⟩
noncomputable def cxnFloor : Cx := ⟨tb, [(66, Try.f66), (92, Try.f92), (79, Try.f79), (67, Try.f67)], [(43, spAsk), (50, spPairs)]⟩
theorem specsnFloor : SpecsOk Try.prog cxnFloor.specs := .cons lkCheck_ok (.consF lkPairs_ok .nil)
theorem fnsnFloor : FnsOk Try.prog cxnFloor.fns := .cons fnOk_lkNear (.cons fnOk_lkNear1 (.cons fnOk_idxPair (.cons fnOk_lkFloor1 .nil)))
set_option maxRecDepth 100000 in
set_option maxHeartbeats 4000000 in
theorem lkFloor_ok : SpecOk Try.prog 34 (spNr true false) := by
  refine spec_body (C := cxnFloor) mixed tbOk specsnFloor (callN_ok (C := cxnFloor) mixed tbOk specsnFloor fnsnFloor 6) fnOk_lkFloor ?_
  intro ys p r h hp
  unfold spNr at h
  split at h
  · rename_i b rs k
    cases h
    by_cases ha : askE b rs k = 0
    · obtain ⟨hg, _⟩ := askE_zero ha
      have hal := (all_len hg).2
      have hml := mapL_len (allE b rs)
      have hgo := near_go (w := true) (bh := false) ha
      rw [hgo]
      conv => whnf
      repeat' first
        | ((first | refine idx_kn (by assumption) ?_ | refine idx_ki (by assumption) (by omega) ?_ | refine br_true (by first | with_reducible exact rfl | assumption | decide) ?_ | refine br_false (by first | with_reducible exact rfl | assumption | decide) ?_ | with_reducible first | refine br_kt (by assumption) ?_ | refine br_kf (by assumption) ?_ | refine br_nt (by assumption) ?_ | refine br_nf (by assumption) ?_ | refine br_et (by assumption) ?_ | refine br_ef (by assumption) ?_); conv => whnf)
        | ((with_reducible first | refine br_dec (fun h => ?_) (fun h => ?_) | refine br_ndec (fun h => ?_) (fun h => ?_) | refine br_ne (fun h => ?_) (fun h => ?_) | refine br_eq (fun h => ?_) (fun h => ?_)) <;> first | (exfalso; omega) | conv => whnf)
        | (refine br_intro (fun h => ?_) (fun h => ?_) <;> conv => whnf)
        | ((first | refine need_in (by first | exact trivial | assumption | exact ⟨rfl, Nat.le_refl _⟩ | exact ⟨rfl, rfl⟩ | (simp only [inR]; omega) | omega | (simp only [roomP, true_and, and_true, List.length_take, List.length_drop, List.length_append, List.length_cons, List.length_nil, List.length_set, List.length_replicate]; omega) | (refine ⟨by first | exact trivial | rfl, by first | exact Nat.le_refl _ | omega | (simp; omega), ?_⟩; change roomP _ _ 1; simp only [roomP]; omega) | (change roomP _ _ 1; simp only [roomP]; omega) | (simp; omega) | (simp [inR]; omega) | (simp [inR]; done) | decide | (simp; done)) ?_ | refine idx_nat (by omega) (fun x hx => ?_) | refine frz_auto ?_ | refine draw_plain ?_ | refine idx_intro (by first | omega | (simp; omega) | (simp; done)) (by first | omega | (simp; omega) | (simp; done)) (fun x hx => ?_)); conv => whnf)
      generalize mapL (allE b rs) = m at hml ⊢
      have hlm : (FRes.l ⟨73, pairT, m⟩).length = m.length := rfl
      refine loop_inv [] [8] (fun vs h => ∃ i : Nat, vs = [.int .i64 (i : Int)] ∧ h = [.cells 25 [.lst entT b, .lst runT rs], .cells 9 [.str k], .cells 73 [.str ⟨#[]⟩, .str ⟨#[]⟩], .cells 25 [.lst entT b, .lst runT rs], .cells 108 [.fn (.func 67) [] [.ptr 1 0]], .cells 73 [.str ⟨#[]⟩, .str ⟨#[]⟩], .arr 73 pairT m false 0] ∧ i ≤ m.length ∧ ∀ p ∈ m.take i, plcW true k p = true) (fun vs _ => match vs with | [.int _ k] => m.length - k.toNat | _ => 0) ?_
      conv => whnf
      refine ⟨⟨0, rfl, rfl, by omega, by simp⟩, ?_⟩
      rintro vs h' - ⟨i, rfl, rfl, hi, hall⟩
      have hfin := nP_at (q := plcW true k) hall hi
      by_cases hil : i < m.length
      · obtain ⟨x, hx⟩ : ∃ x, m[i]? = some x := ⟨_, List.getElem?_eq_getElem hil⟩
        have hst : plcW true k x = false → nP (plcW true k) m = i := fun h => hfin (.inr ⟨x, hx, h⟩)
        have hbk : plcW true k x = true → ∀ p ∈ m.take (i + 1), plcW true k p = true := fun h => take_succ_all hall hx h
        conv => whnf
        repeat' first
          | ((first | refine idx_kn (by assumption) ?_ | refine idx_ki (by assumption) (by omega) ?_ | refine br_true (by first | with_reducible exact rfl | assumption | decide) ?_ | refine br_false (by first | with_reducible exact rfl | assumption | decide) ?_ | with_reducible first | refine br_kt (by assumption) ?_ | refine br_kf (by assumption) ?_ | refine br_nt (by assumption) ?_ | refine br_nf (by assumption) ?_ | refine br_et (by assumption) ?_ | refine br_ef (by assumption) ?_); conv => whnf)
          | ((with_reducible first | refine br_dec (fun h => ?_) (fun h => ?_) | refine br_ndec (fun h => ?_) (fun h => ?_) | refine br_ne (fun h => ?_) (fun h => ?_) | refine br_eq (fun h => ?_) (fun h => ?_)) <;> first | (exfalso; omega) | conv => whnf)
          | (refine br_intro (fun h => ?_) (fun h => ?_) <;> conv => whnf)
          | ((first | refine need_in (by first | exact trivial | assumption | exact ⟨rfl, Nat.le_refl _⟩ | exact ⟨rfl, rfl⟩ | (simp only [inR]; omega) | omega | (simp only [roomP, true_and, and_true, List.length_take, List.length_drop, List.length_append, List.length_cons, List.length_nil, List.length_set, List.length_replicate]; omega) | (refine ⟨by first | exact trivial | rfl, by first | exact Nat.le_refl _ | omega | (simp; omega), ?_⟩; change roomP _ _ 1; simp only [roomP]; omega) | (change roomP _ _ 1; simp only [roomP]; omega) | (simp; omega) | (simp [inR]; omega) | (simp [inR]; done) | decide | (simp; done)) ?_ | refine idx_nat (by omega) (fun x hx => ?_) | refine frz_auto ?_ | refine draw_plain ?_ | refine idx_intro (by first | omega | (simp; omega) | (simp; done)) (by first | omega | (simp; omega) | (simp; done)) (fun x hx => ?_)); conv => whnf)
        all_goals first
          | (refine back_intro (by conv => whnf) rfl ⟨i + 1, rfl, rfl, by omega, hbk (by simp_all [plcW])⟩ ?_
             show m.length - ((i : Int) + 1).toNat < m.length - (i : Int).toNat
             omega)
          | exact near_none ((near_f (hst (by simp_all [plcW]))).trans (if_pos (by omega)))
          | exact near_some (near_ff (hst (by simp_all [plcW])) (by omega) hx)
          | exact near_some ((near_b (hst (by simp_all [plcW]))).trans hx)
      · have hn := hfin (.inl (by omega))
        conv => whnf
        repeat' first
          | ((first | refine idx_kn (by assumption) ?_ | refine idx_ki (by assumption) (by omega) ?_ | refine br_true (by first | with_reducible exact rfl | assumption | decide) ?_ | refine br_false (by first | with_reducible exact rfl | assumption | decide) ?_ | with_reducible first | refine br_kt (by assumption) ?_ | refine br_kf (by assumption) ?_ | refine br_nt (by assumption) ?_ | refine br_nf (by assumption) ?_ | refine br_et (by assumption) ?_ | refine br_ef (by assumption) ?_); conv => whnf)
          | ((with_reducible first | refine br_dec (fun h => ?_) (fun h => ?_) | refine br_ndec (fun h => ?_) (fun h => ?_) | refine br_ne (fun h => ?_) (fun h => ?_) | refine br_eq (fun h => ?_) (fun h => ?_)) <;> first | (exfalso; omega) | conv => whnf)
          | (refine br_intro (fun h => ?_) (fun h => ?_) <;> conv => whnf)
          | ((first | refine need_in (by first | exact trivial | assumption | exact ⟨rfl, Nat.le_refl _⟩ | exact ⟨rfl, rfl⟩ | (simp only [inR]; omega) | omega | (simp only [roomP, true_and, and_true, List.length_take, List.length_drop, List.length_append, List.length_cons, List.length_nil, List.length_set, List.length_replicate]; omega) | (refine ⟨by first | exact trivial | rfl, by first | exact Nat.le_refl _ | omega | (simp; omega), ?_⟩; change roomP _ _ 1; simp only [roomP]; omega) | (change roomP _ _ 1; simp only [roomP]; omega) | (simp; omega) | (simp [inR]; omega) | (simp [inR]; done) | decide | (simp; done)) ?_ | refine idx_nat (by omega) (fun x hx => ?_) | refine frz_auto ?_ | refine draw_plain ?_ | refine idx_intro (by first | omega | (simp; omega) | (simp; done)) (by first | omega | (simp; omega) | (simp; done)) (fun x hx => ?_)); conv => whnf)
        all_goals first
          | exact near_none ((near_f hn).trans (if_pos (by omega)))
          | exact near_some (near_ff hn (by omega) (by rw [show i = m.length by omega]; exact hx))
          | exact near_none ((near_b hn).trans (List.getElem?_eq_none (by omega)))
    · conv => whnf
      repeat' first
        | ((first | refine idx_kn (by assumption) ?_ | refine idx_ki (by assumption) (by omega) ?_ | refine br_true (by first | with_reducible exact rfl | assumption | decide) ?_ | refine br_false (by first | with_reducible exact rfl | assumption | decide) ?_ | with_reducible first | refine br_kt (by assumption) ?_ | refine br_kf (by assumption) ?_ | refine br_nt (by assumption) ?_ | refine br_nf (by assumption) ?_ | refine br_et (by assumption) ?_ | refine br_ef (by assumption) ?_); conv => whnf)
        | ((with_reducible first | refine br_dec (fun h => ?_) (fun h => ?_) | refine br_ndec (fun h => ?_) (fun h => ?_) | refine br_ne (fun h => ?_) (fun h => ?_) | refine br_eq (fun h => ?_) (fun h => ?_)) <;> first | (exfalso; omega) | conv => whnf)
        | (refine br_intro (fun h => ?_) (fun h => ?_) <;> conv => whnf)
        | ((first | refine need_in (by first | exact trivial | assumption | exact ⟨rfl, Nat.le_refl _⟩ | exact ⟨rfl, rfl⟩ | (simp only [inR]; omega) | omega | (simp only [roomP, true_and, and_true, List.length_take, List.length_drop, List.length_append, List.length_cons, List.length_nil, List.length_set, List.length_replicate]; omega) | (refine ⟨by first | exact trivial | rfl, by first | exact Nat.le_refl _ | omega | (simp; omega), ?_⟩; change roomP _ _ 1; simp only [roomP]; omega) | (change roomP _ _ 1; simp only [roomP]; omega) | (simp; omega) | (simp [inR]; omega) | (simp [inR]; done) | decide | (simp; done)) ?_ | refine idx_nat (by omega) (fun x hx => ?_) | refine frz_auto ?_ | refine draw_plain ?_ | refine idx_intro (by first | omega | (simp; omega) | (simp; done)) (by first | omega | (simp; omega) | (simp; done)) (fun x hx => ?_)); conv => whnf)
      rw [near_ask ha]
  · cases h
set_option maxRecDepth 100000 in
theorem fnOk_lkCeiling : FnOk Try.prog 36 Try.f36 := ⟨by rfl, by kernel_rfl, by
  show okCode _ _ = true ∧ drawsOk _ = true
  exact ⟨by kernel_rfl, by kernel_rfl⟩⟩
set_option maxRecDepth 100000 in
theorem fnOk_lkCeiling1 : FnOk Try.prog 69 Try.f69 := ⟨by rfl, by kernel_rfl, by
  show okCode _ _ = true ∧ drawsOk _ = true
  exact ⟨by kernel_rfl, by kernel_rfl⟩⟩
noncomputable def cxnCeiling : Cx := ⟨tb, [(66, Try.f66), (92, Try.f92), (79, Try.f79), (69, Try.f69)], [(43, spAsk), (50, spPairs)]⟩
theorem specsnCeiling : SpecsOk Try.prog cxnCeiling.specs := .cons lkCheck_ok (.consF lkPairs_ok .nil)
theorem fnsnCeiling : FnsOk Try.prog cxnCeiling.fns := .cons fnOk_lkNear (.cons fnOk_lkNear1 (.cons fnOk_idxPair (.cons fnOk_lkCeiling1 .nil)))
set_option maxRecDepth 100000 in
set_option maxHeartbeats 4000000 in
theorem lkCeiling_ok : SpecOk Try.prog 36 (spNr false true) := by
  refine spec_body (C := cxnCeiling) mixed tbOk specsnCeiling (callN_ok (C := cxnCeiling) mixed tbOk specsnCeiling fnsnCeiling 6) fnOk_lkCeiling ?_
  intro ys p r h hp
  unfold spNr at h
  split at h
  · rename_i b rs k
    cases h
    by_cases ha : askE b rs k = 0
    · obtain ⟨hg, _⟩ := askE_zero ha
      have hal := (all_len hg).2
      have hml := mapL_len (allE b rs)
      have hgo := near_go (w := false) (bh := true) ha
      rw [hgo]
      conv => whnf
      repeat' first
        | ((first | refine idx_kn (by assumption) ?_ | refine idx_ki (by assumption) (by omega) ?_ | refine br_true (by first | with_reducible exact rfl | assumption | decide) ?_ | refine br_false (by first | with_reducible exact rfl | assumption | decide) ?_ | with_reducible first | refine br_kt (by assumption) ?_ | refine br_kf (by assumption) ?_ | refine br_nt (by assumption) ?_ | refine br_nf (by assumption) ?_ | refine br_et (by assumption) ?_ | refine br_ef (by assumption) ?_); conv => whnf)
        | ((with_reducible first | refine br_dec (fun h => ?_) (fun h => ?_) | refine br_ndec (fun h => ?_) (fun h => ?_) | refine br_ne (fun h => ?_) (fun h => ?_) | refine br_eq (fun h => ?_) (fun h => ?_)) <;> first | (exfalso; omega) | conv => whnf)
        | (refine br_intro (fun h => ?_) (fun h => ?_) <;> conv => whnf)
        | ((first | refine need_in (by first | exact trivial | assumption | exact ⟨rfl, Nat.le_refl _⟩ | exact ⟨rfl, rfl⟩ | (simp only [inR]; omega) | omega | (simp only [roomP, true_and, and_true, List.length_take, List.length_drop, List.length_append, List.length_cons, List.length_nil, List.length_set, List.length_replicate]; omega) | (refine ⟨by first | exact trivial | rfl, by first | exact Nat.le_refl _ | omega | (simp; omega), ?_⟩; change roomP _ _ 1; simp only [roomP]; omega) | (change roomP _ _ 1; simp only [roomP]; omega) | (simp; omega) | (simp [inR]; omega) | (simp [inR]; done) | decide | (simp; done)) ?_ | refine idx_nat (by omega) (fun x hx => ?_) | refine frz_auto ?_ | refine draw_plain ?_ | refine idx_intro (by first | omega | (simp; omega) | (simp; done)) (by first | omega | (simp; omega) | (simp; done)) (fun x hx => ?_)); conv => whnf)
      generalize mapL (allE b rs) = m at hml ⊢
      have hlm : (FRes.l ⟨73, pairT, m⟩).length = m.length := rfl
      refine loop_inv [] [8] (fun vs h => ∃ i : Nat, vs = [.int .i64 (i : Int)] ∧ h = [.cells 25 [.lst entT b, .lst runT rs], .cells 9 [.str k], .cells 73 [.str ⟨#[]⟩, .str ⟨#[]⟩], .cells 25 [.lst entT b, .lst runT rs], .cells 108 [.fn (.func 69) [] [.ptr 1 0]], .cells 73 [.str ⟨#[]⟩, .str ⟨#[]⟩], .arr 73 pairT m false 0] ∧ i ≤ m.length ∧ ∀ p ∈ m.take i, plcW false k p = true) (fun vs _ => match vs with | [.int _ k] => m.length - k.toNat | _ => 0) ?_
      conv => whnf
      refine ⟨⟨0, rfl, rfl, by omega, by simp⟩, ?_⟩
      rintro vs h' - ⟨i, rfl, rfl, hi, hall⟩
      have hfin := nP_at (q := plcW false k) hall hi
      by_cases hil : i < m.length
      · obtain ⟨x, hx⟩ : ∃ x, m[i]? = some x := ⟨_, List.getElem?_eq_getElem hil⟩
        have hst : plcW false k x = false → nP (plcW false k) m = i := fun h => hfin (.inr ⟨x, hx, h⟩)
        have hbk : plcW false k x = true → ∀ p ∈ m.take (i + 1), plcW false k p = true := fun h => take_succ_all hall hx h
        conv => whnf
        repeat' first
          | ((first | refine idx_kn (by assumption) ?_ | refine idx_ki (by assumption) (by omega) ?_ | refine br_true (by first | with_reducible exact rfl | assumption | decide) ?_ | refine br_false (by first | with_reducible exact rfl | assumption | decide) ?_ | with_reducible first | refine br_kt (by assumption) ?_ | refine br_kf (by assumption) ?_ | refine br_nt (by assumption) ?_ | refine br_nf (by assumption) ?_ | refine br_et (by assumption) ?_ | refine br_ef (by assumption) ?_); conv => whnf)
          | ((with_reducible first | refine br_dec (fun h => ?_) (fun h => ?_) | refine br_ndec (fun h => ?_) (fun h => ?_) | refine br_ne (fun h => ?_) (fun h => ?_) | refine br_eq (fun h => ?_) (fun h => ?_)) <;> first | (exfalso; omega) | conv => whnf)
          | (refine br_intro (fun h => ?_) (fun h => ?_) <;> conv => whnf)
          | ((first | refine need_in (by first | exact trivial | assumption | exact ⟨rfl, Nat.le_refl _⟩ | exact ⟨rfl, rfl⟩ | (simp only [inR]; omega) | omega | (simp only [roomP, true_and, and_true, List.length_take, List.length_drop, List.length_append, List.length_cons, List.length_nil, List.length_set, List.length_replicate]; omega) | (refine ⟨by first | exact trivial | rfl, by first | exact Nat.le_refl _ | omega | (simp; omega), ?_⟩; change roomP _ _ 1; simp only [roomP]; omega) | (change roomP _ _ 1; simp only [roomP]; omega) | (simp; omega) | (simp [inR]; omega) | (simp [inR]; done) | decide | (simp; done)) ?_ | refine idx_nat (by omega) (fun x hx => ?_) | refine frz_auto ?_ | refine draw_plain ?_ | refine idx_intro (by first | omega | (simp; omega) | (simp; done)) (by first | omega | (simp; omega) | (simp; done)) (fun x hx => ?_)); conv => whnf)
        all_goals first
          | (refine back_intro (by conv => whnf) rfl ⟨i + 1, rfl, rfl, by omega, hbk (by simp_all [plcW])⟩ ?_
             show m.length - ((i : Int) + 1).toNat < m.length - (i : Int).toNat
             omega)
          | exact near_none ((near_f (hst (by simp_all [plcW]))).trans (if_pos (by omega)))
          | exact near_some (near_ff (hst (by simp_all [plcW])) (by omega) hx)
          | exact near_some ((near_b (hst (by simp_all [plcW]))).trans hx)
      · have hn := hfin (.inl (by omega))
        conv => whnf
        repeat' first
          | ((first | refine idx_kn (by assumption) ?_ | refine idx_ki (by assumption) (by omega) ?_ | refine br_true (by first | with_reducible exact rfl | assumption | decide) ?_ | refine br_false (by first | with_reducible exact rfl | assumption | decide) ?_ | with_reducible first | refine br_kt (by assumption) ?_ | refine br_kf (by assumption) ?_ | refine br_nt (by assumption) ?_ | refine br_nf (by assumption) ?_ | refine br_et (by assumption) ?_ | refine br_ef (by assumption) ?_); conv => whnf)
          | ((with_reducible first | refine br_dec (fun h => ?_) (fun h => ?_) | refine br_ndec (fun h => ?_) (fun h => ?_) | refine br_ne (fun h => ?_) (fun h => ?_) | refine br_eq (fun h => ?_) (fun h => ?_)) <;> first | (exfalso; omega) | conv => whnf)
          | (refine br_intro (fun h => ?_) (fun h => ?_) <;> conv => whnf)
          | ((first | refine need_in (by first | exact trivial | assumption | exact ⟨rfl, Nat.le_refl _⟩ | exact ⟨rfl, rfl⟩ | (simp only [inR]; omega) | omega | (simp only [roomP, true_and, and_true, List.length_take, List.length_drop, List.length_append, List.length_cons, List.length_nil, List.length_set, List.length_replicate]; omega) | (refine ⟨by first | exact trivial | rfl, by first | exact Nat.le_refl _ | omega | (simp; omega), ?_⟩; change roomP _ _ 1; simp only [roomP]; omega) | (change roomP _ _ 1; simp only [roomP]; omega) | (simp; omega) | (simp [inR]; omega) | (simp [inR]; done) | decide | (simp; done)) ?_ | refine idx_nat (by omega) (fun x hx => ?_) | refine frz_auto ?_ | refine draw_plain ?_ | refine idx_intro (by first | omega | (simp; omega) | (simp; done)) (by first | omega | (simp; omega) | (simp; done)) (fun x hx => ?_)); conv => whnf)
        all_goals first
          | exact near_none ((near_f hn).trans (if_pos (by omega)))
          | exact near_some (near_ff hn (by omega) (by rw [show i = m.length by omega]; exact hx))
          | exact near_none ((near_b hn).trans (List.getElem?_eq_none (by omega)))
    · conv => whnf
      repeat' first
        | ((first | refine idx_kn (by assumption) ?_ | refine idx_ki (by assumption) (by omega) ?_ | refine br_true (by first | with_reducible exact rfl | assumption | decide) ?_ | refine br_false (by first | with_reducible exact rfl | assumption | decide) ?_ | with_reducible first | refine br_kt (by assumption) ?_ | refine br_kf (by assumption) ?_ | refine br_nt (by assumption) ?_ | refine br_nf (by assumption) ?_ | refine br_et (by assumption) ?_ | refine br_ef (by assumption) ?_); conv => whnf)
        | ((with_reducible first | refine br_dec (fun h => ?_) (fun h => ?_) | refine br_ndec (fun h => ?_) (fun h => ?_) | refine br_ne (fun h => ?_) (fun h => ?_) | refine br_eq (fun h => ?_) (fun h => ?_)) <;> first | (exfalso; omega) | conv => whnf)
        | (refine br_intro (fun h => ?_) (fun h => ?_) <;> conv => whnf)
        | ((first | refine need_in (by first | exact trivial | assumption | exact ⟨rfl, Nat.le_refl _⟩ | exact ⟨rfl, rfl⟩ | (simp only [inR]; omega) | omega | (simp only [roomP, true_and, and_true, List.length_take, List.length_drop, List.length_append, List.length_cons, List.length_nil, List.length_set, List.length_replicate]; omega) | (refine ⟨by first | exact trivial | rfl, by first | exact Nat.le_refl _ | omega | (simp; omega), ?_⟩; change roomP _ _ 1; simp only [roomP]; omega) | (change roomP _ _ 1; simp only [roomP]; omega) | (simp; omega) | (simp [inR]; omega) | (simp [inR]; done) | decide | (simp; done)) ?_ | refine idx_nat (by omega) (fun x hx => ?_) | refine frz_auto ?_ | refine draw_plain ?_ | refine idx_intro (by first | omega | (simp; omega) | (simp; done)) (by first | omega | (simp; omega) | (simp; done)) (fun x hx => ?_)); conv => whnf)
      rw [near_ask ha]
  · cases h
set_option maxRecDepth 100000 in
theorem fnOk_lkBefore : FnOk Try.prog 38 Try.f38 := ⟨by rfl, by kernel_rfl, by
  show okCode _ _ = true ∧ drawsOk _ = true
  exact ⟨by kernel_rfl, by kernel_rfl⟩⟩
set_option maxRecDepth 100000 in
theorem fnOk_lkBefore1 : FnOk Try.prog 70 Try.f70 := ⟨by rfl, by kernel_rfl, by
  show okCode _ _ = true ∧ drawsOk _ = true
  exact ⟨by kernel_rfl, by kernel_rfl⟩⟩
noncomputable def cxnBefore : Cx := ⟨tb, [(66, Try.f66), (92, Try.f92), (79, Try.f79), (70, Try.f70)], [(43, spAsk), (50, spPairs)]⟩
theorem specsnBefore : SpecsOk Try.prog cxnBefore.specs := .cons lkCheck_ok (.consF lkPairs_ok .nil)
theorem fnsnBefore : FnsOk Try.prog cxnBefore.fns := .cons fnOk_lkNear (.cons fnOk_lkNear1 (.cons fnOk_idxPair (.cons fnOk_lkBefore1 .nil)))
set_option maxRecDepth 100000 in
set_option maxHeartbeats 4000000 in
theorem lkBefore_ok : SpecOk Try.prog 38 (spNr false false) := by
  refine spec_body (C := cxnBefore) mixed tbOk specsnBefore (callN_ok (C := cxnBefore) mixed tbOk specsnBefore fnsnBefore 6) fnOk_lkBefore ?_
  intro ys p r h hp
  unfold spNr at h
  split at h
  · rename_i b rs k
    cases h
    by_cases ha : askE b rs k = 0
    · obtain ⟨hg, _⟩ := askE_zero ha
      have hal := (all_len hg).2
      have hml := mapL_len (allE b rs)
      have hgo := near_go (w := false) (bh := false) ha
      rw [hgo]
      conv => whnf
      repeat' first
        | ((first | refine idx_kn (by assumption) ?_ | refine idx_ki (by assumption) (by omega) ?_ | refine br_true (by first | with_reducible exact rfl | assumption | decide) ?_ | refine br_false (by first | with_reducible exact rfl | assumption | decide) ?_ | with_reducible first | refine br_kt (by assumption) ?_ | refine br_kf (by assumption) ?_ | refine br_nt (by assumption) ?_ | refine br_nf (by assumption) ?_ | refine br_et (by assumption) ?_ | refine br_ef (by assumption) ?_); conv => whnf)
        | ((with_reducible first | refine br_dec (fun h => ?_) (fun h => ?_) | refine br_ndec (fun h => ?_) (fun h => ?_) | refine br_ne (fun h => ?_) (fun h => ?_) | refine br_eq (fun h => ?_) (fun h => ?_)) <;> first | (exfalso; omega) | conv => whnf)
        | (refine br_intro (fun h => ?_) (fun h => ?_) <;> conv => whnf)
        | ((first | refine need_in (by first | exact trivial | assumption | exact ⟨rfl, Nat.le_refl _⟩ | exact ⟨rfl, rfl⟩ | (simp only [inR]; omega) | omega | (simp only [roomP, true_and, and_true, List.length_take, List.length_drop, List.length_append, List.length_cons, List.length_nil, List.length_set, List.length_replicate]; omega) | (refine ⟨by first | exact trivial | rfl, by first | exact Nat.le_refl _ | omega | (simp; omega), ?_⟩; change roomP _ _ 1; simp only [roomP]; omega) | (change roomP _ _ 1; simp only [roomP]; omega) | (simp; omega) | (simp [inR]; omega) | (simp [inR]; done) | decide | (simp; done)) ?_ | refine idx_nat (by omega) (fun x hx => ?_) | refine frz_auto ?_ | refine draw_plain ?_ | refine idx_intro (by first | omega | (simp; omega) | (simp; done)) (by first | omega | (simp; omega) | (simp; done)) (fun x hx => ?_)); conv => whnf)
      generalize mapL (allE b rs) = m at hml ⊢
      have hlm : (FRes.l ⟨73, pairT, m⟩).length = m.length := rfl
      refine loop_inv [] [8] (fun vs h => ∃ i : Nat, vs = [.int .i64 (i : Int)] ∧ h = [.cells 25 [.lst entT b, .lst runT rs], .cells 9 [.str k], .cells 73 [.str ⟨#[]⟩, .str ⟨#[]⟩], .cells 25 [.lst entT b, .lst runT rs], .cells 108 [.fn (.func 70) [] [.ptr 1 0]], .cells 73 [.str ⟨#[]⟩, .str ⟨#[]⟩], .arr 73 pairT m false 0] ∧ i ≤ m.length ∧ ∀ p ∈ m.take i, plcW false k p = true) (fun vs _ => match vs with | [.int _ k] => m.length - k.toNat | _ => 0) ?_
      conv => whnf
      refine ⟨⟨0, rfl, rfl, by omega, by simp⟩, ?_⟩
      rintro vs h' - ⟨i, rfl, rfl, hi, hall⟩
      have hfin := nP_at (q := plcW false k) hall hi
      by_cases hil : i < m.length
      · obtain ⟨x, hx⟩ : ∃ x, m[i]? = some x := ⟨_, List.getElem?_eq_getElem hil⟩
        have hst : plcW false k x = false → nP (plcW false k) m = i := fun h => hfin (.inr ⟨x, hx, h⟩)
        have hbk : plcW false k x = true → ∀ p ∈ m.take (i + 1), plcW false k p = true := fun h => take_succ_all hall hx h
        conv => whnf
        repeat' first
          | ((first | refine idx_kn (by assumption) ?_ | refine idx_ki (by assumption) (by omega) ?_ | refine br_true (by first | with_reducible exact rfl | assumption | decide) ?_ | refine br_false (by first | with_reducible exact rfl | assumption | decide) ?_ | with_reducible first | refine br_kt (by assumption) ?_ | refine br_kf (by assumption) ?_ | refine br_nt (by assumption) ?_ | refine br_nf (by assumption) ?_ | refine br_et (by assumption) ?_ | refine br_ef (by assumption) ?_); conv => whnf)
          | ((with_reducible first | refine br_dec (fun h => ?_) (fun h => ?_) | refine br_ndec (fun h => ?_) (fun h => ?_) | refine br_ne (fun h => ?_) (fun h => ?_) | refine br_eq (fun h => ?_) (fun h => ?_)) <;> first | (exfalso; omega) | conv => whnf)
          | (refine br_intro (fun h => ?_) (fun h => ?_) <;> conv => whnf)
          | ((first | refine need_in (by first | exact trivial | assumption | exact ⟨rfl, Nat.le_refl _⟩ | exact ⟨rfl, rfl⟩ | (simp only [inR]; omega) | omega | (simp only [roomP, true_and, and_true, List.length_take, List.length_drop, List.length_append, List.length_cons, List.length_nil, List.length_set, List.length_replicate]; omega) | (refine ⟨by first | exact trivial | rfl, by first | exact Nat.le_refl _ | omega | (simp; omega), ?_⟩; change roomP _ _ 1; simp only [roomP]; omega) | (change roomP _ _ 1; simp only [roomP]; omega) | (simp; omega) | (simp [inR]; omega) | (simp [inR]; done) | decide | (simp; done)) ?_ | refine idx_nat (by omega) (fun x hx => ?_) | refine frz_auto ?_ | refine draw_plain ?_ | refine idx_intro (by first | omega | (simp; omega) | (simp; done)) (by first | omega | (simp; omega) | (simp; done)) (fun x hx => ?_)); conv => whnf)
        all_goals first
          | (refine back_intro (by conv => whnf) rfl ⟨i + 1, rfl, rfl, by omega, hbk (by simp_all [plcW])⟩ ?_
             show m.length - ((i : Int) + 1).toNat < m.length - (i : Int).toNat
             omega)
          | exact near_none ((near_f (hst (by simp_all [plcW]))).trans (if_pos (by omega)))
          | exact near_some (near_ff (hst (by simp_all [plcW])) (by omega) hx)
          | exact near_some ((near_b (hst (by simp_all [plcW]))).trans hx)
      · have hn := hfin (.inl (by omega))
        conv => whnf
        repeat' first
          | ((first | refine idx_kn (by assumption) ?_ | refine idx_ki (by assumption) (by omega) ?_ | refine br_true (by first | with_reducible exact rfl | assumption | decide) ?_ | refine br_false (by first | with_reducible exact rfl | assumption | decide) ?_ | with_reducible first | refine br_kt (by assumption) ?_ | refine br_kf (by assumption) ?_ | refine br_nt (by assumption) ?_ | refine br_nf (by assumption) ?_ | refine br_et (by assumption) ?_ | refine br_ef (by assumption) ?_); conv => whnf)
          | ((with_reducible first | refine br_dec (fun h => ?_) (fun h => ?_) | refine br_ndec (fun h => ?_) (fun h => ?_) | refine br_ne (fun h => ?_) (fun h => ?_) | refine br_eq (fun h => ?_) (fun h => ?_)) <;> first | (exfalso; omega) | conv => whnf)
          | (refine br_intro (fun h => ?_) (fun h => ?_) <;> conv => whnf)
          | ((first | refine need_in (by first | exact trivial | assumption | exact ⟨rfl, Nat.le_refl _⟩ | exact ⟨rfl, rfl⟩ | (simp only [inR]; omega) | omega | (simp only [roomP, true_and, and_true, List.length_take, List.length_drop, List.length_append, List.length_cons, List.length_nil, List.length_set, List.length_replicate]; omega) | (refine ⟨by first | exact trivial | rfl, by first | exact Nat.le_refl _ | omega | (simp; omega), ?_⟩; change roomP _ _ 1; simp only [roomP]; omega) | (change roomP _ _ 1; simp only [roomP]; omega) | (simp; omega) | (simp [inR]; omega) | (simp [inR]; done) | decide | (simp; done)) ?_ | refine idx_nat (by omega) (fun x hx => ?_) | refine frz_auto ?_ | refine draw_plain ?_ | refine idx_intro (by first | omega | (simp; omega) | (simp; done)) (by first | omega | (simp; omega) | (simp; done)) (fun x hx => ?_)); conv => whnf)
        all_goals first
          | exact near_none ((near_f hn).trans (if_pos (by omega)))
          | exact near_some (near_ff hn (by omega) (by rw [show i = m.length by omega]; exact hx))
          | exact near_none ((near_b hn).trans (List.getElem?_eq_none (by omega)))
    · conv => whnf
      repeat' first
        | ((first | refine idx_kn (by assumption) ?_ | refine idx_ki (by assumption) (by omega) ?_ | refine br_true (by first | with_reducible exact rfl | assumption | decide) ?_ | refine br_false (by first | with_reducible exact rfl | assumption | decide) ?_ | with_reducible first | refine br_kt (by assumption) ?_ | refine br_kf (by assumption) ?_ | refine br_nt (by assumption) ?_ | refine br_nf (by assumption) ?_ | refine br_et (by assumption) ?_ | refine br_ef (by assumption) ?_); conv => whnf)
        | ((with_reducible first | refine br_dec (fun h => ?_) (fun h => ?_) | refine br_ndec (fun h => ?_) (fun h => ?_) | refine br_ne (fun h => ?_) (fun h => ?_) | refine br_eq (fun h => ?_) (fun h => ?_)) <;> first | (exfalso; omega) | conv => whnf)
        | (refine br_intro (fun h => ?_) (fun h => ?_) <;> conv => whnf)
        | ((first | refine need_in (by first | exact trivial | assumption | exact ⟨rfl, Nat.le_refl _⟩ | exact ⟨rfl, rfl⟩ | (simp only [inR]; omega) | omega | (simp only [roomP, true_and, and_true, List.length_take, List.length_drop, List.length_append, List.length_cons, List.length_nil, List.length_set, List.length_replicate]; omega) | (refine ⟨by first | exact trivial | rfl, by first | exact Nat.le_refl _ | omega | (simp; omega), ?_⟩; change roomP _ _ 1; simp only [roomP]; omega) | (change roomP _ _ 1; simp only [roomP]; omega) | (simp; omega) | (simp [inR]; omega) | (simp [inR]; done) | decide | (simp; done)) ?_ | refine idx_nat (by omega) (fun x hx => ?_) | refine frz_auto ?_ | refine draw_plain ?_ | refine idx_intro (by first | omega | (simp; omega) | (simp; done)) (by first | omega | (simp; omega) | (simp; done)) (fun x hx => ?_)); conv => whnf)
      rw [near_ask ha]
  · cases h
set_option maxRecDepth 100000 in
theorem fnOk_lkAfter : FnOk Try.prog 40 Try.f40 := ⟨by rfl, by kernel_rfl, by
  show okCode _ _ = true ∧ drawsOk _ = true
  exact ⟨by kernel_rfl, by kernel_rfl⟩⟩
set_option maxRecDepth 100000 in
theorem fnOk_lkAfter1 : FnOk Try.prog 71 Try.f71 := ⟨by rfl, by kernel_rfl, by
  show okCode _ _ = true ∧ drawsOk _ = true
  exact ⟨by kernel_rfl, by kernel_rfl⟩⟩
noncomputable def cxnAfter : Cx := ⟨tb, [(66, Try.f66), (92, Try.f92), (79, Try.f79), (71, Try.f71)], [(43, spAsk), (50, spPairs)]⟩
theorem specsnAfter : SpecsOk Try.prog cxnAfter.specs := .cons lkCheck_ok (.consF lkPairs_ok .nil)
theorem fnsnAfter : FnsOk Try.prog cxnAfter.fns := .cons fnOk_lkNear (.cons fnOk_lkNear1 (.cons fnOk_idxPair (.cons fnOk_lkAfter1 .nil)))
set_option maxRecDepth 100000 in
set_option maxHeartbeats 4000000 in
theorem lkAfter_ok : SpecOk Try.prog 40 (spNr true true) := by
  refine spec_body (C := cxnAfter) mixed tbOk specsnAfter (callN_ok (C := cxnAfter) mixed tbOk specsnAfter fnsnAfter 6) fnOk_lkAfter ?_
  intro ys p r h hp
  unfold spNr at h
  split at h
  · rename_i b rs k
    cases h
    by_cases ha : askE b rs k = 0
    · obtain ⟨hg, _⟩ := askE_zero ha
      have hal := (all_len hg).2
      have hml := mapL_len (allE b rs)
      have hgo := near_go (w := true) (bh := true) ha
      rw [hgo]
      conv => whnf
      repeat' first
        | ((first | refine idx_kn (by assumption) ?_ | refine idx_ki (by assumption) (by omega) ?_ | refine br_true (by first | with_reducible exact rfl | assumption | decide) ?_ | refine br_false (by first | with_reducible exact rfl | assumption | decide) ?_ | with_reducible first | refine br_kt (by assumption) ?_ | refine br_kf (by assumption) ?_ | refine br_nt (by assumption) ?_ | refine br_nf (by assumption) ?_ | refine br_et (by assumption) ?_ | refine br_ef (by assumption) ?_); conv => whnf)
        | ((with_reducible first | refine br_dec (fun h => ?_) (fun h => ?_) | refine br_ndec (fun h => ?_) (fun h => ?_) | refine br_ne (fun h => ?_) (fun h => ?_) | refine br_eq (fun h => ?_) (fun h => ?_)) <;> first | (exfalso; omega) | conv => whnf)
        | (refine br_intro (fun h => ?_) (fun h => ?_) <;> conv => whnf)
        | ((first | refine need_in (by first | exact trivial | assumption | exact ⟨rfl, Nat.le_refl _⟩ | exact ⟨rfl, rfl⟩ | (simp only [inR]; omega) | omega | (simp only [roomP, true_and, and_true, List.length_take, List.length_drop, List.length_append, List.length_cons, List.length_nil, List.length_set, List.length_replicate]; omega) | (refine ⟨by first | exact trivial | rfl, by first | exact Nat.le_refl _ | omega | (simp; omega), ?_⟩; change roomP _ _ 1; simp only [roomP]; omega) | (change roomP _ _ 1; simp only [roomP]; omega) | (simp; omega) | (simp [inR]; omega) | (simp [inR]; done) | decide | (simp; done)) ?_ | refine idx_nat (by omega) (fun x hx => ?_) | refine frz_auto ?_ | refine draw_plain ?_ | refine idx_intro (by first | omega | (simp; omega) | (simp; done)) (by first | omega | (simp; omega) | (simp; done)) (fun x hx => ?_)); conv => whnf)
      generalize mapL (allE b rs) = m at hml ⊢
      have hlm : (FRes.l ⟨73, pairT, m⟩).length = m.length := rfl
      refine loop_inv [] [8] (fun vs h => ∃ i : Nat, vs = [.int .i64 (i : Int)] ∧ h = [.cells 25 [.lst entT b, .lst runT rs], .cells 9 [.str k], .cells 73 [.str ⟨#[]⟩, .str ⟨#[]⟩], .cells 25 [.lst entT b, .lst runT rs], .cells 108 [.fn (.func 71) [] [.ptr 1 0]], .cells 73 [.str ⟨#[]⟩, .str ⟨#[]⟩], .arr 73 pairT m false 0] ∧ i ≤ m.length ∧ ∀ p ∈ m.take i, plcW true k p = true) (fun vs _ => match vs with | [.int _ k] => m.length - k.toNat | _ => 0) ?_
      conv => whnf
      refine ⟨⟨0, rfl, rfl, by omega, by simp⟩, ?_⟩
      rintro vs h' - ⟨i, rfl, rfl, hi, hall⟩
      have hfin := nP_at (q := plcW true k) hall hi
      by_cases hil : i < m.length
      · obtain ⟨x, hx⟩ : ∃ x, m[i]? = some x := ⟨_, List.getElem?_eq_getElem hil⟩
        have hst : plcW true k x = false → nP (plcW true k) m = i := fun h => hfin (.inr ⟨x, hx, h⟩)
        have hbk : plcW true k x = true → ∀ p ∈ m.take (i + 1), plcW true k p = true := fun h => take_succ_all hall hx h
        conv => whnf
        repeat' first
          | ((first | refine idx_kn (by assumption) ?_ | refine idx_ki (by assumption) (by omega) ?_ | refine br_true (by first | with_reducible exact rfl | assumption | decide) ?_ | refine br_false (by first | with_reducible exact rfl | assumption | decide) ?_ | with_reducible first | refine br_kt (by assumption) ?_ | refine br_kf (by assumption) ?_ | refine br_nt (by assumption) ?_ | refine br_nf (by assumption) ?_ | refine br_et (by assumption) ?_ | refine br_ef (by assumption) ?_); conv => whnf)
          | ((with_reducible first | refine br_dec (fun h => ?_) (fun h => ?_) | refine br_ndec (fun h => ?_) (fun h => ?_) | refine br_ne (fun h => ?_) (fun h => ?_) | refine br_eq (fun h => ?_) (fun h => ?_)) <;> first | (exfalso; omega) | conv => whnf)
          | (refine br_intro (fun h => ?_) (fun h => ?_) <;> conv => whnf)
          | ((first | refine need_in (by first | exact trivial | assumption | exact ⟨rfl, Nat.le_refl _⟩ | exact ⟨rfl, rfl⟩ | (simp only [inR]; omega) | omega | (simp only [roomP, true_and, and_true, List.length_take, List.length_drop, List.length_append, List.length_cons, List.length_nil, List.length_set, List.length_replicate]; omega) | (refine ⟨by first | exact trivial | rfl, by first | exact Nat.le_refl _ | omega | (simp; omega), ?_⟩; change roomP _ _ 1; simp only [roomP]; omega) | (change roomP _ _ 1; simp only [roomP]; omega) | (simp; omega) | (simp [inR]; omega) | (simp [inR]; done) | decide | (simp; done)) ?_ | refine idx_nat (by omega) (fun x hx => ?_) | refine frz_auto ?_ | refine draw_plain ?_ | refine idx_intro (by first | omega | (simp; omega) | (simp; done)) (by first | omega | (simp; omega) | (simp; done)) (fun x hx => ?_)); conv => whnf)
        all_goals first
          | (refine back_intro (by conv => whnf) rfl ⟨i + 1, rfl, rfl, by omega, hbk (by simp_all [plcW])⟩ ?_
             show m.length - ((i : Int) + 1).toNat < m.length - (i : Int).toNat
             omega)
          | exact near_none ((near_f (hst (by simp_all [plcW]))).trans (if_pos (by omega)))
          | exact near_some (near_ff (hst (by simp_all [plcW])) (by omega) hx)
          | exact near_some ((near_b (hst (by simp_all [plcW]))).trans hx)
      · have hn := hfin (.inl (by omega))
        conv => whnf
        repeat' first
          | ((first | refine idx_kn (by assumption) ?_ | refine idx_ki (by assumption) (by omega) ?_ | refine br_true (by first | with_reducible exact rfl | assumption | decide) ?_ | refine br_false (by first | with_reducible exact rfl | assumption | decide) ?_ | with_reducible first | refine br_kt (by assumption) ?_ | refine br_kf (by assumption) ?_ | refine br_nt (by assumption) ?_ | refine br_nf (by assumption) ?_ | refine br_et (by assumption) ?_ | refine br_ef (by assumption) ?_); conv => whnf)
          | ((with_reducible first | refine br_dec (fun h => ?_) (fun h => ?_) | refine br_ndec (fun h => ?_) (fun h => ?_) | refine br_ne (fun h => ?_) (fun h => ?_) | refine br_eq (fun h => ?_) (fun h => ?_)) <;> first | (exfalso; omega) | conv => whnf)
          | (refine br_intro (fun h => ?_) (fun h => ?_) <;> conv => whnf)
          | ((first | refine need_in (by first | exact trivial | assumption | exact ⟨rfl, Nat.le_refl _⟩ | exact ⟨rfl, rfl⟩ | (simp only [inR]; omega) | omega | (simp only [roomP, true_and, and_true, List.length_take, List.length_drop, List.length_append, List.length_cons, List.length_nil, List.length_set, List.length_replicate]; omega) | (refine ⟨by first | exact trivial | rfl, by first | exact Nat.le_refl _ | omega | (simp; omega), ?_⟩; change roomP _ _ 1; simp only [roomP]; omega) | (change roomP _ _ 1; simp only [roomP]; omega) | (simp; omega) | (simp [inR]; omega) | (simp [inR]; done) | decide | (simp; done)) ?_ | refine idx_nat (by omega) (fun x hx => ?_) | refine frz_auto ?_ | refine draw_plain ?_ | refine idx_intro (by first | omega | (simp; omega) | (simp; done)) (by first | omega | (simp; omega) | (simp; done)) (fun x hx => ?_)); conv => whnf)
        all_goals first
          | exact near_none ((near_f hn).trans (if_pos (by omega)))
          | exact near_some (near_ff hn (by omega) (by rw [show i = m.length by omega]; exact hx))
          | exact near_none ((near_b hn).trans (List.getElem?_eq_none (by omega)))
    · conv => whnf
      repeat' first
        | ((first | refine idx_kn (by assumption) ?_ | refine idx_ki (by assumption) (by omega) ?_ | refine br_true (by first | with_reducible exact rfl | assumption | decide) ?_ | refine br_false (by first | with_reducible exact rfl | assumption | decide) ?_ | with_reducible first | refine br_kt (by assumption) ?_ | refine br_kf (by assumption) ?_ | refine br_nt (by assumption) ?_ | refine br_nf (by assumption) ?_ | refine br_et (by assumption) ?_ | refine br_ef (by assumption) ?_); conv => whnf)
        | ((with_reducible first | refine br_dec (fun h => ?_) (fun h => ?_) | refine br_ndec (fun h => ?_) (fun h => ?_) | refine br_ne (fun h => ?_) (fun h => ?_) | refine br_eq (fun h => ?_) (fun h => ?_)) <;> first | (exfalso; omega) | conv => whnf)
        | (refine br_intro (fun h => ?_) (fun h => ?_) <;> conv => whnf)
        | ((first | refine need_in (by first | exact trivial | assumption | exact ⟨rfl, Nat.le_refl _⟩ | exact ⟨rfl, rfl⟩ | (simp only [inR]; omega) | omega | (simp only [roomP, true_and, and_true, List.length_take, List.length_drop, List.length_append, List.length_cons, List.length_nil, List.length_set, List.length_replicate]; omega) | (refine ⟨by first | exact trivial | rfl, by first | exact Nat.le_refl _ | omega | (simp; omega), ?_⟩; change roomP _ _ 1; simp only [roomP]; omega) | (change roomP _ _ 1; simp only [roomP]; omega) | (simp; omega) | (simp [inR]; omega) | (simp [inR]; done) | decide | (simp; done)) ?_ | refine idx_nat (by omega) (fun x hx => ?_) | refine frz_auto ?_ | refine draw_plain ?_ | refine idx_intro (by first | omega | (simp; omega) | (simp; done)) (by first | omega | (simp; omega) | (simp; done)) (fun x hx => ?_)); conv => whnf)
      rw [near_ask ha]
  · cases h
end Go.Proofs.Ytekkeajcmibbaaa
