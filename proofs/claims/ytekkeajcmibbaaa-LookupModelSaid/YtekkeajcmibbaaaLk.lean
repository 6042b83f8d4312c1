/-
  The newest entry of a key, and its value, by both.
-/
import Derived.Test.YtekkeajcmibbaaaLg
import Derived.Test.YtekkeajcmibbaaaLka
import Derived.Test.YtekkeajcmibbaaaLda
namespace Go.Proofs.Ytekkeajcmibbaaa
open Av Bk

/-- The first part that has a key: its entry, and the part's number. -/
def nwG : List (List entT.El) → Int → ByteArray → Option (entT.El × Int)
  | [], _, _ => none
  | l :: L, i, k => match firstK l k with
    | some x => some (x, i)
    | none => nwG L (i + 1) k
def nwR (b : List entT.El) (rs : List runT.El) (k : ByteArray) : entT.El × Int × Int :=
  if askE b rs k ≠ 0 then (mkE ⟨#[]⟩ ⟨#[]⟩ false 0, 0, askE b rs k) else match nwG (partsB b rs) (-1) k with
  | some (x, i) => (x, i, 0)
  | none => (mkE ⟨#[]⟩ ⟨#[]⟩ false 0, 0, 4)
def spNw : DSpec
  | [.agg [.lst (.st [.str, .str, .bool, .int .i64]) b, .lst (.st [.int .i64, .sl (.st [.str, .str, .bool, .int .i64])]) rs], .str k] => some (True, .tup [entA (nwR b rs k).1, .int .i64 (nwR b rs k).2.1, .int .i64 (nwR b rs k).2.2])
  | _ => none
theorem nw_eq {x : entT.El} {i e : Int} {r : entT.El × Int × Int} (h : r = (x, i, e)) : AV.tup [entA x, .int .i64 i, .int .i64 e] = AV.tup [entA r.1, .int .i64 r.2.1, .int .i64 r.2.2] := by rw [h]
theorem nwR_ask {b : List entT.El} {rs : List runT.El} {k : ByteArray} (h : askE b rs k ≠ 0) : nwR b rs k = (mkE ⟨#[]⟩ ⟨#[]⟩ false 0, 0, askE b rs k) := by unfold nwR; rw [if_pos h]
theorem nwG_step {L : List (List entT.El)} {i : Nat} {l : List entT.El} {k : ByteArray} (h : L[i]? = some l) : nwG (L.drop i) ((i : Int) - 1) k = match firstK l k with | some x => some (x, (i : Int) - 1) | none => nwG (L.drop (i + 1)) (((i + 1 : Nat) : Int) - 1) k := by
  have hi := (List.getElem?_eq_some_iff.1 h).1
  have he := (List.getElem?_eq_some_iff.1 h).2
  rw [List.drop_eq_getElem_cons hi, he, nwG]
  rw [show ((i + 1 : Nat) : Int) - 1 = (i : Int) - 1 + 1 by omega]
theorem nwR_go {b : List entT.El} {rs : List runT.El} {k : ByteArray} {i : Nat} (h : askE b rs k = 0) (hc : nwG (partsB b rs) (-1) k = nwG ((partsB b rs).drop i) ((i : Int) - 1) k) : nwR b rs k = match nwG ((partsB b rs).drop i) ((i : Int) - 1) k with
  | some (x, i) => (x, i, 0)
  | none => (mkE ⟨#[]⟩ ⟨#[]⟩ false 0, 0, 4) := by
  unfold nwR
  rw [if_neg (by simp [h]), hc]
set_option maxRecDepth 100000 in
theorem fnOk_lFindR : FnOk Try.prog 139 Try.f139 := ⟨by rfl, by kernel_rfl, by
  show okCode _ _ = true ∧ drawsOk _ = true
  exact ⟨by kernel_rfl, by kernel_rfl⟩⟩
set_option maxRecDepth 100000 in
theorem fnOk_lkNewest : FnOk Try.prog 13 Try.f13 := ⟨by rfl, by kernel_rfl, by
  show okCode _ _ = true ∧ drawsOk _ = true
  exact ⟨by kernel_rfl, by kernel_rfl⟩⟩
set_option maxRecDepth 100000 in
theorem fnOk_rfNewest : FnOk Try.prog 14 Try.f14 := ⟨by rfl, by kernel_rfl, by
  show okCode _ _ = true ∧ drawsOk _ = true
  exact ⟨by kernel_rfl, by kernel_rfl⟩⟩
noncomputable def cxk1 : Cx := ⟨tb, [(139, Try.f139)], [(135, spLF), (43, spAsk), (44, spPA)]⟩
theorem specsk1 : SpecsOk Try.prog cxk1.specs := .cons lFind_ok (.cons lkCheck_ok (.cons lkParts_ok .nil))
theorem fnsk1 : FnsOk Try.prog cxk1.fns := .cons fnOk_lFindR .nil
set_option maxRecDepth 100000 in
set_option maxHeartbeats 2000000 in
theorem lkNewest_ok : SpecOk Try.prog 13 spNw := by
  refine spec_body (C := cxk1) mixed tbOk specsk1 (callN_ok (C := cxk1) mixed tbOk specsk1 fnsk1 3) fnOk_lkNewest ?_
  intro ys p r h hp
  unfold spNw at h
  split at h
  · rename_i b rs key
    cases h
    by_cases ha : askE b rs key = 0
    · obtain ⟨hg, _⟩ := askE_zero ha
      have hlr := hg.lr
      have hpl : (partsA b rs).length = rs.length + 1 := by simp [partsA]
      have hpl2 : (partsB b rs).length = rs.length + 1 := by simp [partsB]
      conv => whnf
      repeat' first
        | ((first | refine idx_kn (by assumption) ?_ | refine idx_ki (by assumption) (by omega) ?_ | refine br_true (by first | with_reducible exact rfl | assumption | decide) ?_ | refine br_false (by first | with_reducible exact rfl | assumption | decide) ?_ | with_reducible first | refine br_kt (by assumption) ?_ | refine br_kf (by assumption) ?_ | refine br_nt (by assumption) ?_ | refine br_nf (by assumption) ?_ | refine br_et (by assumption) ?_ | refine br_ef (by assumption) ?_); conv => whnf)
        | ((with_reducible first | refine br_dec (fun h => ?_) (fun h => ?_) | refine br_ndec (fun h => ?_) (fun h => ?_) | refine br_ne (fun h => ?_) (fun h => ?_) | refine br_eq (fun h => ?_) (fun h => ?_)) <;> first | (exfalso; omega) | conv => whnf)
        | (refine br_intro (fun h => ?_) (fun h => ?_) <;> conv => whnf)
        | ((first | refine need_in (by first | exact trivial | assumption | exact ⟨rfl, Nat.le_refl _⟩ | exact ⟨rfl, rfl⟩ | (simp only [inR]; omega) | omega | (simp only [roomP, true_and, and_true, List.length_take, List.length_drop, List.length_append, List.length_cons, List.length_nil, List.length_set, List.length_replicate]; omega) | (refine ⟨by first | exact trivial | rfl, by first | exact Nat.le_refl _ | omega | (simp; omega), ?_⟩; change roomP _ _ 1; simp only [roomP]; omega) | (change roomP _ _ 1; simp only [roomP]; omega) | (simp; omega) | (simp [inR]; omega) | (simp [inR]; done) | decide | (simp; done)) ?_ | refine idx_nat (by omega) (fun x hx => ?_) | refine frz_auto ?_ | refine draw_plain ?_ | refine idx_intro (by first | omega | (simp; omega) | (simp; done)) (by first | omega | (simp; omega) | (simp; done)) (fun x hx => ?_)); conv => whnf)
      refine loop_inv [] [22] (fun vs h => ∃ i : Nat, vs = [.int .i64 (i : Int)] ∧ h = [.cells 25 [.lst entT b, .lst runT rs], .cells 29 [.str ⟨#[]⟩, .str ⟨#[]⟩, .bool false, .int .i64 0]] ∧ i ≤ (partsB b rs).length ∧ nwG (partsB b rs) (-1) key = nwG ((partsB b rs).drop i) ((i : Int) - 1) key) (fun vs _ => match vs with | [.int _ k] => (partsB b rs).length - k.toNat | _ => 0) ?_
      conv => whnf
      refine ⟨⟨0, rfl, rfl, by omega, rfl⟩, ?_⟩
      rintro vs h' - ⟨i, rfl, rfl, hi, hc⟩
      have hR := nwR_go ha hc
      by_cases hil : i < (partsA b rs).length
      · obtain ⟨l, hlB, hlA⟩ := parts_at hil
        have hgl := goodL_of (parts_good hg (List.mem_of_getElem? hlB))
        have hst := nwG_step (k := key) hlB
        rcases hlA with hlA | ⟨id, hlA⟩
        all_goals
          conv => whnf
          repeat' first
            | ((first | refine idx_kn (by assumption) ?_ | refine idx_ki (by assumption) (by omega) ?_ | refine br_true (by first | with_reducible exact rfl | assumption | decide) ?_ | refine br_false (by first | with_reducible exact rfl | assumption | decide) ?_ | with_reducible first | refine br_kt (by assumption) ?_ | refine br_kf (by assumption) ?_ | refine br_nt (by assumption) ?_ | refine br_nf (by assumption) ?_ | refine br_et (by assumption) ?_ | refine br_ef (by assumption) ?_); conv => whnf)
            | ((with_reducible first | refine br_dec (fun h => ?_) (fun h => ?_) | refine br_ndec (fun h => ?_) (fun h => ?_) | refine br_ne (fun h => ?_) (fun h => ?_) | refine br_eq (fun h => ?_) (fun h => ?_)) <;> first | (exfalso; omega) | conv => whnf)
            | (refine br_intro (fun h => ?_) (fun h => ?_) <;> conv => whnf)
            | ((first | refine need_in (by first | exact trivial | assumption | exact ⟨rfl, Nat.le_refl _⟩ | exact ⟨rfl, rfl⟩ | (simp only [inR]; omega) | omega | (simp only [roomP, true_and, and_true, List.length_take, List.length_drop, List.length_append, List.length_cons, List.length_nil, List.length_set, List.length_replicate]; omega) | (refine ⟨by first | exact trivial | rfl, by first | exact Nat.le_refl _ | omega | (simp; omega), ?_⟩; change roomP _ _ 1; simp only [roomP]; omega) | (change roomP _ _ 1; simp only [roomP]; omega) | (simp; omega) | (simp [inR]; omega) | (simp [inR]; done) | decide | (simp; done)) ?_ | refine idx_nat (by omega) (fun x hx => ?_) | refine frz_auto ?_ | refine draw_plain ?_ | refine idx_intro (by first | omega | (simp; omega) | (simp; done)) (by first | omega | (simp; omega) | (simp; done)) (fun x hx => ?_)); conv => whnf)
        · refine nw_eq ?_
          have h : (firstK l key).isSome = true := h
          obtain ⟨x, hx⟩ := Option.isSome_iff_exists.1 h
          rw [hR, hst, hx]
          rfl
        · have h : (firstK l key).isSome = false := h
          have hn : firstK l key = none := by simpa using h
          rw [hn] at hst
          refine back_intro (by conv => whnf) rfl ⟨i + 1, rfl, rfl, by omega, hc.trans hst⟩ ?_
          show (partsB b rs).length - ((i : Int) + 1).toNat < (partsB b rs).length - (i : Int).toNat
          omega
        · refine nw_eq ?_
          have h : (firstK l key).isSome = true := h
          obtain ⟨x, hx⟩ := Option.isSome_iff_exists.1 h
          rw [hR, hst, hx]
          rfl
        · have h : (firstK l key).isSome = false := h
          have hn : firstK l key = none := by simpa using h
          rw [hn] at hst
          refine back_intro (by conv => whnf) rfl ⟨i + 1, rfl, rfl, by omega, hc.trans hst⟩ ?_
          show (partsB b rs).length - ((i : Int) + 1).toNat < (partsB b rs).length - (i : Int).toNat
          omega
      · conv => whnf
        repeat' first
          | ((first | refine idx_kn (by assumption) ?_ | refine idx_ki (by assumption) (by omega) ?_ | refine br_true (by first | with_reducible exact rfl | assumption | decide) ?_ | refine br_false (by first | with_reducible exact rfl | assumption | decide) ?_ | with_reducible first | refine br_kt (by assumption) ?_ | refine br_kf (by assumption) ?_ | refine br_nt (by assumption) ?_ | refine br_nf (by assumption) ?_ | refine br_et (by assumption) ?_ | refine br_ef (by assumption) ?_); conv => whnf)
          | ((with_reducible first | refine br_dec (fun h => ?_) (fun h => ?_) | refine br_ndec (fun h => ?_) (fun h => ?_) | refine br_ne (fun h => ?_) (fun h => ?_) | refine br_eq (fun h => ?_) (fun h => ?_)) <;> first | (exfalso; omega) | conv => whnf)
          | (refine br_intro (fun h => ?_) (fun h => ?_) <;> conv => whnf)
          | ((first | refine need_in (by first | exact trivial | assumption | exact ⟨rfl, Nat.le_refl _⟩ | exact ⟨rfl, rfl⟩ | (simp only [inR]; omega) | omega | (simp only [roomP, true_and, and_true, List.length_take, List.length_drop, List.length_append, List.length_cons, List.length_nil, List.length_set, List.length_replicate]; omega) | (refine ⟨by first | exact trivial | rfl, by first | exact Nat.le_refl _ | omega | (simp; omega), ?_⟩; change roomP _ _ 1; simp only [roomP]; omega) | (change roomP _ _ 1; simp only [roomP]; omega) | (simp; omega) | (simp [inR]; omega) | (simp [inR]; done) | decide | (simp; done)) ?_ | refine idx_nat (by omega) (fun x hx => ?_) | refine frz_auto ?_ | refine draw_plain ?_ | refine idx_intro (by first | omega | (simp; omega) | (simp; done)) (by first | omega | (simp; omega) | (simp; done)) (fun x hx => ?_)); conv => whnf)
        rw [hR, List.drop_eq_nil_of_le (by omega)]
        rfl
    · conv => whnf
      repeat' first
        | ((first | refine idx_kn (by assumption) ?_ | refine idx_ki (by assumption) (by omega) ?_ | refine br_true (by first | with_reducible exact rfl | assumption | decide) ?_ | refine br_false (by first | with_reducible exact rfl | assumption | decide) ?_ | with_reducible first | refine br_kt (by assumption) ?_ | refine br_kf (by assumption) ?_ | refine br_nt (by assumption) ?_ | refine br_nf (by assumption) ?_ | refine br_et (by assumption) ?_ | refine br_ef (by assumption) ?_); conv => whnf)
        | ((with_reducible first | refine br_dec (fun h => ?_) (fun h => ?_) | refine br_ndec (fun h => ?_) (fun h => ?_) | refine br_ne (fun h => ?_) (fun h => ?_) | refine br_eq (fun h => ?_) (fun h => ?_)) <;> first | (exfalso; omega) | conv => whnf)
        | (refine br_intro (fun h => ?_) (fun h => ?_) <;> conv => whnf)
        | ((first | refine need_in (by first | exact trivial | assumption | exact ⟨rfl, Nat.le_refl _⟩ | exact ⟨rfl, rfl⟩ | (simp only [inR]; omega) | omega | (simp only [roomP, true_and, and_true, List.length_take, List.length_drop, List.length_append, List.length_cons, List.length_nil, List.length_set, List.length_replicate]; omega) | (refine ⟨by first | exact trivial | rfl, by first | exact Nat.le_refl _ | omega | (simp; omega), ?_⟩; change roomP _ _ 1; simp only [roomP]; omega) | (change roomP _ _ 1; simp only [roomP]; omega) | (simp; omega) | (simp [inR]; omega) | (simp [inR]; done) | decide | (simp; done)) ?_ | refine idx_nat (by omega) (fun x hx => ?_) | refine frz_auto ?_ | refine draw_plain ?_ | refine idx_intro (by first | omega | (simp; omega) | (simp; done)) (by first | omega | (simp; omega) | (simp; done)) (fun x hx => ?_)); conv => whnf)
      rw [nwR_ask ha]
  · cases h
noncomputable def cxk2 : Cx := ⟨tb, [], [(45, spAsk), (46, spPB)]⟩
theorem specsk2 : SpecsOk Try.prog cxk2.specs := .cons ref26Asked_ok (.cons rfParts_ok .nil)
set_option maxRecDepth 100000 in
set_option maxHeartbeats 2000000 in
theorem rfNewest_ok : SpecOk Try.prog 14 spNw := by
  refine spec_body (C := cxk2) mixed tbOk specsk2 (callN_ok (C := cxk2) mixed tbOk specsk2 FnsOk.nil 3) fnOk_rfNewest ?_
  intro ys p r h hp
  unfold spNw at h
  split at h
  · rename_i b rs key
    cases h
    by_cases ha : askE b rs key = 0
    · obtain ⟨hg, _⟩ := askE_zero ha
      have hlr := hg.lr
      have hpl2 : (partsB b rs).length = rs.length + 1 := by simp [partsB]
      conv => whnf
      repeat' first
        | ((first | refine idx_kn (by assumption) ?_ | refine idx_ki (by assumption) (by omega) ?_ | refine br_true (by first | with_reducible exact rfl | assumption | decide) ?_ | refine br_false (by first | with_reducible exact rfl | assumption | decide) ?_ | with_reducible first | refine br_kt (by assumption) ?_ | refine br_kf (by assumption) ?_ | refine br_nt (by assumption) ?_ | refine br_nf (by assumption) ?_ | refine br_et (by assumption) ?_ | refine br_ef (by assumption) ?_); conv => whnf)
        | ((with_reducible first | refine br_dec (fun h => ?_) (fun h => ?_) | refine br_ndec (fun h => ?_) (fun h => ?_) | refine br_ne (fun h => ?_) (fun h => ?_) | refine br_eq (fun h => ?_) (fun h => ?_)) <;> first | (exfalso; omega) | conv => whnf)
        | (refine br_intro (fun h => ?_) (fun h => ?_) <;> conv => whnf)
        | ((first | refine need_in (by first | exact trivial | assumption | exact ⟨rfl, Nat.le_refl _⟩ | exact ⟨rfl, rfl⟩ | (simp only [inR]; omega) | omega | (simp only [roomP, true_and, and_true, List.length_take, List.length_drop, List.length_append, List.length_cons, List.length_nil, List.length_set, List.length_replicate]; omega) | (refine ⟨by first | exact trivial | rfl, by first | exact Nat.le_refl _ | omega | (simp; omega), ?_⟩; change roomP _ _ 1; simp only [roomP]; omega) | (change roomP _ _ 1; simp only [roomP]; omega) | (simp; omega) | (simp [inR]; omega) | (simp [inR]; done) | decide | (simp; done)) ?_ | refine idx_nat (by omega) (fun x hx => ?_) | refine frz_auto ?_ | refine draw_plain ?_ | refine idx_intro (by first | omega | (simp; omega) | (simp; done)) (by first | omega | (simp; omega) | (simp; done)) (fun x hx => ?_)); conv => whnf)
      refine loop_inv [] [9] (fun vs h => ∃ i : Nat, vs = [.int .i64 (i : Int)] ∧ h = [.cells 25 [.lst entT b, .lst runT rs], .cells 29 [.str ⟨#[]⟩, .str ⟨#[]⟩, .bool false, .int .i64 0]] ∧ i ≤ (partsB b rs).length ∧ nwG (partsB b rs) (-1) key = nwG ((partsB b rs).drop i) ((i : Int) - 1) key) (fun vs _ => match vs with | [.int _ k] => (partsB b rs).length - k.toNat | _ => 0) ?_
      conv => whnf
      refine ⟨⟨0, rfl, rfl, by omega, rfl⟩, ?_⟩
      rintro vs h' - ⟨i, rfl, rfl, hi, hc⟩
      have hR := nwR_go ha hc
      by_cases hil : i < (partsB b rs).length
      · obtain ⟨l, hlB⟩ : ∃ l, (partsB b rs)[i]? = some l := ⟨_, List.getElem?_eq_getElem hil⟩
        have hgl := goodL_of (parts_good hg (List.mem_of_getElem? hlB))
        have hll := hgl.2
        have hst := nwG_step (k := key) hlB
        conv => whnf
        repeat' first
          | ((first | refine idx_kn (by assumption) ?_ | refine idx_ki (by assumption) (by omega) ?_ | refine br_true (by first | with_reducible exact rfl | assumption | decide) ?_ | refine br_false (by first | with_reducible exact rfl | assumption | decide) ?_ | with_reducible first | refine br_kt (by assumption) ?_ | refine br_kf (by assumption) ?_ | refine br_nt (by assumption) ?_ | refine br_nf (by assumption) ?_ | refine br_et (by assumption) ?_ | refine br_ef (by assumption) ?_); conv => whnf)
          | ((with_reducible first | refine br_dec (fun h => ?_) (fun h => ?_) | refine br_ndec (fun h => ?_) (fun h => ?_) | refine br_ne (fun h => ?_) (fun h => ?_) | refine br_eq (fun h => ?_) (fun h => ?_)) <;> first | (exfalso; omega) | conv => whnf)
          | (refine br_intro (fun h => ?_) (fun h => ?_) <;> conv => whnf)
          | ((first | refine need_in (by first | exact trivial | assumption | exact ⟨rfl, Nat.le_refl _⟩ | exact ⟨rfl, rfl⟩ | (simp only [inR]; omega) | omega | (simp only [roomP, true_and, and_true, List.length_take, List.length_drop, List.length_append, List.length_cons, List.length_nil, List.length_set, List.length_replicate]; omega) | (refine ⟨by first | exact trivial | rfl, by first | exact Nat.le_refl _ | omega | (simp; omega), ?_⟩; change roomP _ _ 1; simp only [roomP]; omega) | (change roomP _ _ 1; simp only [roomP]; omega) | (simp; omega) | (simp [inR]; omega) | (simp [inR]; done) | decide | (simp; done)) ?_ | refine idx_nat (by omega) (fun x hx => ?_) | refine frz_auto ?_ | refine draw_plain ?_ | refine idx_intro (by first | omega | (simp; omega) | (simp; done)) (by first | omega | (simp; omega) | (simp; done)) (fun x hx => ?_)); conv => whnf)
        refine loop_inv [] [10] (fun vs h => ∃ j : Nat, vs = [.int .i64 (j : Int)] ∧ h = [.cells 25 [.lst entT b, .lst runT rs], .cells 29 [.str ⟨#[]⟩, .str ⟨#[]⟩, .bool false, .int .i64 0]] ∧ j ≤ l.length ∧ ∀ x ∈ l.take j, x.1 ≠ key) (fun vs _ => match vs with | [.int _ k] => l.length - k.toNat | _ => 0) ?_
        conv => whnf
        refine ⟨⟨0, rfl, rfl, by omega, by simp⟩, ?_⟩
        rintro vs h' - ⟨j, rfl, rfl, hj, hall⟩
        conv => whnf
        repeat' first
          | ((first | refine idx_kn (by assumption) ?_ | refine idx_ki (by assumption) (by omega) ?_ | refine br_true (by first | with_reducible exact rfl | assumption | decide) ?_ | refine br_false (by first | with_reducible exact rfl | assumption | decide) ?_ | with_reducible first | refine br_kt (by assumption) ?_ | refine br_kf (by assumption) ?_ | refine br_nt (by assumption) ?_ | refine br_nf (by assumption) ?_ | refine br_et (by assumption) ?_ | refine br_ef (by assumption) ?_); conv => whnf)
          | ((with_reducible first | refine br_dec (fun h => ?_) (fun h => ?_) | refine br_ndec (fun h => ?_) (fun h => ?_) | refine br_ne (fun h => ?_) (fun h => ?_) | refine br_eq (fun h => ?_) (fun h => ?_)) <;> first | (exfalso; omega) | conv => whnf)
          | (refine br_intro (fun h => ?_) (fun h => ?_) <;> conv => whnf)
          | ((first | refine need_in (by first | exact trivial | assumption | exact ⟨rfl, Nat.le_refl _⟩ | exact ⟨rfl, rfl⟩ | (simp only [inR]; omega) | omega | (simp only [roomP, true_and, and_true, List.length_take, List.length_drop, List.length_append, List.length_cons, List.length_nil, List.length_set, List.length_replicate]; omega) | (refine ⟨by first | exact trivial | rfl, by first | exact Nat.le_refl _ | omega | (simp; omega), ?_⟩; change roomP _ _ 1; simp only [roomP]; omega) | (change roomP _ _ 1; simp only [roomP]; omega) | (simp; omega) | (simp [inR]; omega) | (simp [inR]; done) | decide | (simp; done)) ?_ | refine idx_nat (by omega) (fun x hx => ?_) | refine frz_auto ?_ | refine draw_plain ?_ | refine idx_intro (by first | omega | (simp; omega) | (simp; done)) (by first | omega | (simp; omega) | (simp; done)) (fun x hx => ?_)); conv => whnf)
        · refine nw_eq ?_
          rw [hR, hst, first_at hall hx (sEq_iff.1 h)]
        · refine back_intro (by conv => whnf) rfl ⟨j + 1, rfl, rfl, by omega, take_succ_all hall hx (sEq_no.1 h)⟩ ?_
          show l.length - ((j : Int) + 1).toNat < l.length - (j : Int).toNat
          omega
        · have hn : firstK l key = none := firstK_none.2 (by rw [List.take_of_length_le (by omega)] at hall; exact hall)
          rw [hn] at hst
          refine back_intro (by conv => whnf) rfl ⟨i + 1, rfl, rfl, by omega, hc.trans hst⟩ ?_
          show (partsB b rs).length - ((i : Int) + 1).toNat < (partsB b rs).length - (i : Int).toNat
          omega
      · conv => whnf
        repeat' first
          | ((first | refine idx_kn (by assumption) ?_ | refine idx_ki (by assumption) (by omega) ?_ | refine br_true (by first | with_reducible exact rfl | assumption | decide) ?_ | refine br_false (by first | with_reducible exact rfl | assumption | decide) ?_ | with_reducible first | refine br_kt (by assumption) ?_ | refine br_kf (by assumption) ?_ | refine br_nt (by assumption) ?_ | refine br_nf (by assumption) ?_ | refine br_et (by assumption) ?_ | refine br_ef (by assumption) ?_); conv => whnf)
          | ((with_reducible first | refine br_dec (fun h => ?_) (fun h => ?_) | refine br_ndec (fun h => ?_) (fun h => ?_) | refine br_ne (fun h => ?_) (fun h => ?_) | refine br_eq (fun h => ?_) (fun h => ?_)) <;> first | (exfalso; omega) | conv => whnf)
          | (refine br_intro (fun h => ?_) (fun h => ?_) <;> conv => whnf)
          | ((first | refine need_in (by first | exact trivial | assumption | exact ⟨rfl, Nat.le_refl _⟩ | exact ⟨rfl, rfl⟩ | (simp only [inR]; omega) | omega | (simp only [roomP, true_and, and_true, List.length_take, List.length_drop, List.length_append, List.length_cons, List.length_nil, List.length_set, List.length_replicate]; omega) | (refine ⟨by first | exact trivial | rfl, by first | exact Nat.le_refl _ | omega | (simp; omega), ?_⟩; change roomP _ _ 1; simp only [roomP]; omega) | (change roomP _ _ 1; simp only [roomP]; omega) | (simp; omega) | (simp [inR]; omega) | (simp [inR]; done) | decide | (simp; done)) ?_ | refine idx_nat (by omega) (fun x hx => ?_) | refine frz_auto ?_ | refine draw_plain ?_ | refine idx_intro (by first | omega | (simp; omega) | (simp; done)) (by first | omega | (simp; omega) | (simp; done)) (fun x hx => ?_)); conv => whnf)
        rw [hR, List.drop_eq_nil_of_le (by omega)]
        rfl
    · conv => whnf
      repeat' first
        | ((first | refine idx_kn (by assumption) ?_ | refine idx_ki (by assumption) (by omega) ?_ | refine br_true (by first | with_reducible exact rfl | assumption | decide) ?_ | refine br_false (by first | with_reducible exact rfl | assumption | decide) ?_ | with_reducible first | refine br_kt (by assumption) ?_ | refine br_kf (by assumption) ?_ | refine br_nt (by assumption) ?_ | refine br_nf (by assumption) ?_ | refine br_et (by assumption) ?_ | refine br_ef (by assumption) ?_); conv => whnf)
        | ((with_reducible first | refine br_dec (fun h => ?_) (fun h => ?_) | refine br_ndec (fun h => ?_) (fun h => ?_) | refine br_ne (fun h => ?_) (fun h => ?_) | refine br_eq (fun h => ?_) (fun h => ?_)) <;> first | (exfalso; omega) | conv => whnf)
        | (refine br_intro (fun h => ?_) (fun h => ?_) <;> conv => whnf)
        | ((first | refine need_in (by first | exact trivial | assumption | exact ⟨rfl, Nat.le_refl _⟩ | exact ⟨rfl, rfl⟩ | (simp only [inR]; omega) | omega | (simp only [roomP, true_and, and_true, List.length_take, List.length_drop, List.length_append, List.length_cons, List.length_nil, List.length_set, List.length_replicate]; omega) | (refine ⟨by first | exact trivial | rfl, by first | exact Nat.le_refl _ | omega | (simp; omega), ?_⟩; change roomP _ _ 1; simp only [roomP]; omega) | (change roomP _ _ 1; simp only [roomP]; omega) | (simp; omega) | (simp [inR]; omega) | (simp [inR]; done) | decide | (simp; done)) ?_ | refine idx_nat (by omega) (fun x hx => ?_) | refine frz_auto ?_ | refine draw_plain ?_ | refine idx_intro (by first | omega | (simp; omega) | (simp; done)) (by first | omega | (simp; omega) | (simp; done)) (fun x hx => ?_)); conv => whnf)
      rw [nwR_ask ha]
  · cases h
def getR (b : List entT.El) (rs : List runT.El) (k : ByteArray) : ByteArray × Int :=
  if (nwR b rs k).2.2 ≠ 0 then (⟨#[]⟩, (nwR b rs k).2.2) else if (nwR b rs k).1.2.2.1 = true then (⟨#[]⟩, 4) else ((nwR b rs k).1.2.1, 0)
def spGet : DSpec
  | [.agg [.lst (.st [.str, .str, .bool, .int .i64]) b, .lst (.st [.int .i64, .sl (.st [.str, .str, .bool, .int .i64])]) rs], .str k] => some (True, .tup [.str (getR b rs k).1, .int .i64 (getR b rs k).2])
  | _ => none
theorem get_eq {x : ByteArray} {e : Int} {r : ByteArray × Int} (h : r = (x, e)) : AV.tup [.str x, .int .i64 e] = AV.tup [.str r.1, .int .i64 r.2] := by rw [h]
set_option maxRecDepth 100000 in
theorem fnOk_lkGet : FnOk Try.prog 15 Try.f15 := ⟨by rfl, by kernel_rfl, by
  show okCode _ _ = true ∧ drawsOk _ = true
  exact ⟨by kernel_rfl, by kernel_rfl⟩⟩
set_option maxRecDepth 100000 in
theorem fnOk_rfGet : FnOk Try.prog 16 Try.f16 := ⟨by rfl, by kernel_rfl, by
  show okCode _ _ = true ∧ drawsOk _ = true
  exact ⟨by kernel_rfl, by kernel_rfl⟩⟩
noncomputable def cxk3 : Cx := ⟨tb, [], [(13, spNw)]⟩
theorem specsk3 : SpecsOk Try.prog cxk3.specs := .cons lkNewest_ok .nil
noncomputable def cxk4 : Cx := ⟨tb, [], [(14, spNw)]⟩
theorem specsk4 : SpecsOk Try.prog cxk4.specs := .cons rfNewest_ok .nil
set_option maxRecDepth 100000 in
theorem lkGet_ok : SpecOk Try.prog 15 spGet := by
  refine spec_body (C := cxk3) mixed tbOk specsk3 (callN_ok (C := cxk3) mixed tbOk specsk3 FnsOk.nil 3) fnOk_lkGet ?_
  intro ys p r h hp
  unfold spGet at h
  split at h
  · rename_i b rs key
    cases h
    conv => whnf
    repeat' first
      | ((first | refine br_true (by first | with_reducible exact rfl | assumption | decide) ?_ | refine br_false (by first | with_reducible exact rfl | assumption | decide) ?_ | with_reducible first | refine br_kt (by assumption) ?_ | refine br_kf (by assumption) ?_ | refine br_nt (by assumption) ?_ | refine br_nf (by assumption) ?_ | refine br_et (by assumption) ?_ | refine br_ef (by assumption) ?_); conv => whnf)
      | ((with_reducible first | refine br_dec (fun h => ?_) (fun h => ?_) | refine br_ndec (fun h => ?_) (fun h => ?_) | refine br_ne (fun h => ?_) (fun h => ?_) | refine br_eq (fun h => ?_) (fun h => ?_)) <;> first | (exfalso; omega) | conv => whnf)
      | (refine br_intro (fun h => ?_) (fun h => ?_) <;> conv => whnf)
      | ((first | refine need_in (by first | exact trivial | assumption | exact ⟨rfl, Nat.le_refl _⟩ | exact ⟨rfl, rfl⟩ | (simp only [inR]; omega) | omega | (simp only [roomP, true_and, and_true, List.length_take, List.length_drop, List.length_append, List.length_cons, List.length_nil, List.length_set, List.length_replicate]; omega) | (refine ⟨by first | exact trivial | rfl, by first | exact Nat.le_refl _ | omega | (simp; omega), ?_⟩; change roomP _ _ 1; simp only [roomP]; omega) | (change roomP _ _ 1; simp only [roomP]; omega) | (simp; omega) | (simp [inR]; omega) | (simp [inR]; done) | decide | (simp; done)) ?_ | refine idx_nat (by omega) (fun x hx => ?_) | refine frz_auto ?_ | refine draw_plain ?_ | refine idx_intro (by first | omega | (simp; omega) | (simp; done)) (by first | omega | (simp; omega) | (simp; done)) (fun x hx => ?_)); conv => whnf)
    all_goals (refine get_eq ?_; simp [getR, *])
  · cases h
set_option maxRecDepth 100000 in
theorem rfGet_ok : SpecOk Try.prog 16 spGet := by
  refine spec_body (C := cxk4) mixed tbOk specsk4 (callN_ok (C := cxk4) mixed tbOk specsk4 FnsOk.nil 3) fnOk_rfGet ?_
  intro ys p r h hp
  unfold spGet at h
  split at h
  · rename_i b rs key
    cases h
    conv => whnf
    repeat' first
      | ((first | refine br_true (by first | with_reducible exact rfl | assumption | decide) ?_ | refine br_false (by first | with_reducible exact rfl | assumption | decide) ?_ | with_reducible first | refine br_kt (by assumption) ?_ | refine br_kf (by assumption) ?_ | refine br_nt (by assumption) ?_ | refine br_nf (by assumption) ?_ | refine br_et (by assumption) ?_ | refine br_ef (by assumption) ?_); conv => whnf)
      | ((with_reducible first | refine br_dec (fun h => ?_) (fun h => ?_) | refine br_ndec (fun h => ?_) (fun h => ?_) | refine br_ne (fun h => ?_) (fun h => ?_) | refine br_eq (fun h => ?_) (fun h => ?_)) <;> first | (exfalso; omega) | conv => whnf)
      | (refine br_intro (fun h => ?_) (fun h => ?_) <;> conv => whnf)
      | ((first | refine need_in (by first | exact trivial | assumption | exact ⟨rfl, Nat.le_refl _⟩ | exact ⟨rfl, rfl⟩ | (simp only [inR]; omega) | omega | (simp only [roomP, true_and, and_true, List.length_take, List.length_drop, List.length_append, List.length_cons, List.length_nil, List.length_set, List.length_replicate]; omega) | (refine ⟨by first | exact trivial | rfl, by first | exact Nat.le_refl _ | omega | (simp; omega), ?_⟩; change roomP _ _ 1; simp only [roomP]; omega) | (change roomP _ _ 1; simp only [roomP]; omega) | (simp; omega) | (simp [inR]; omega) | (simp [inR]; done) | decide | (simp; done)) ?_ | refine idx_nat (by omega) (fun x hx => ?_) | refine frz_auto ?_ | refine draw_plain ?_ | refine idx_intro (by first | omega | (simp; omega) | (simp; done)) (by first | omega | (simp; omega) | (simp; done)) (fun x hx => ?_)); conv => whnf)
    all_goals (refine get_eq ?_; simp [getR, *])
  · cases h
end Go.Proofs.Ytekkeajcmibbaaa
