/-
  Of, by the code. (Printed by mk24.py of src24/XRe.src.)
-/
import Derived.Test.YtadckioheabliaaRd
import Derived.Test.YtadckioheabliaaR3
import Derived.Test.YtadckioheabliaaSo7
namespace Go.Proofs.Ytadckioheabliaa
open Av

theorem ddN_spec {L : List Int} (hs : L.Pairwise (fun x y => x ≤ y)) : ∀ n, n ≤ L.length → (∀ x, x ∈ ddN L n ↔ x ∈ L.take n) ∧ (ddN L n).Pairwise (fun x y => x < y)
  | 0, _ => ⟨fun x => by simp [ddN], List.Pairwise.nil⟩
  | n + 1, hn => by
    obtain ⟨h1, h2⟩ := ddN_spec hs n (by omega)
    rw [ddN_succ]
    obtain ⟨x, hx⟩ : ∃ x, L[n]? = some x := ⟨_, List.getElem?_eq_getElem (by omega)⟩
    have hup : ∀ y ∈ L.take n, y ≤ x := by
      intro y hy
      obtain ⟨i, hi⟩ := List.mem_iff_getElem?.1 hy
      rw [List.getElem?_take] at hi
      split at hi
      · have h3 := List.pairwise_iff_getElem.1 hs i n (by omega) (by omega) (by assumption)
        rw [(List.getElem?_eq_some_iff.1 hi).2, (List.getElem?_eq_some_iff.1 hx).2] at h3
        exact h3
      · cases hi
    by_cases h : n = 0 ∨ L[n]? ≠ L[n - 1]?
    · rw [if_pos h, hx]
      refine ⟨fun z => ?_, ?_⟩
      · rw [List.mem_append, h1, List.take_add_one, hx, List.mem_append]
      · rw [List.pairwise_append]
        refine ⟨h2, List.pairwise_singleton _ _, fun a ha b hb => ?_⟩
        have hb : b = x := by simpa using hb
        subst hb
        have ha' := (h1 a).1 ha
        rcases h with rfl | h
        · simp at ha'
        · have hn0 : n ≠ 0 := by rintro rfl; simp at ha'
          obtain ⟨y, hy⟩ : ∃ y, L[n - 1]? = some y := ⟨_, List.getElem?_eq_getElem (by omega)⟩
          have hyx : y ≠ b := fun e => h (by rw [hx, hy, e])
          have h4 := hup y (List.mem_iff_getElem?.2 ⟨n - 1, by rw [List.getElem?_take, if_pos (by omega)]; exact hy⟩)
          obtain ⟨i, hi⟩ := List.mem_iff_getElem?.1 ha'
          rw [List.getElem?_take] at hi
          split at hi
          · rcases Nat.lt_or_ge i (n - 1) with hin | hin
            · have h3 := List.pairwise_iff_getElem.1 hs i (n - 1) (by omega) (by omega) hin
              rw [(List.getElem?_eq_some_iff.1 hi).2, (List.getElem?_eq_some_iff.1 hy).2] at h3
              omega
            · have : i = n - 1 := by omega
              subst this
              rw [hi] at hy
              cases hy
              omega
          · cases hi
    · rw [if_neg h, List.append_nil]
      refine ⟨fun z => ?_, h2⟩
      rw [h1, List.take_add_one, hx, List.mem_append]
      constructor
      · exact .inl
      · rintro (hz | hz)
        · exact hz
        · have hz : z = x := by simpa using hz
          subst hz
          have hn0 : n ≠ 0 := fun e => h (.inl e)
          have heq : L[n]? = L[n - 1]? := Classical.byContradiction (fun e => h (.inr e))
          refine List.mem_iff_getElem?.2 ⟨n - 1, ?_⟩
          rw [List.getElem?_take, if_pos (by omega), ← heq]
          exact hx
abbrev dst (ids : List Int) : List Int := ddN (sortedI ids) ids.length
theorem dst_mem (ids : List Int) (x : Int) : x ∈ dst ids ↔ x ∈ ids := by
  have h := (ddN_spec (sortedI_up ids) ids.length (by rw [sortedI_len]; exact Nat.le_refl _)).1 x
  rw [List.take_of_length_le (by rw [sortedI_len]; exact Nat.le_refl _), sortedI_mem] at h
  exact h
theorem dst_up (ids : List Int) : (dst ids).Pairwise (fun x y => x < y) := (ddN_spec (sortedI_up ids) ids.length (by rw [sortedI_len]; exact Nat.le_refl _)).2
theorem dst_len (ids : List Int) : (dst ids).length ≤ ids.length := ddN_len _ _
theorem dstL_err (ids : List Int) : (dstL ids).2 = lsE ids := by
  unfold dstL lsE
  by_cases h : 500 < ids.length
  · rw [if_pos h, if_pos h]
  · rw [if_neg h, if_neg h]
    by_cases h2 : ids.all knownI = false
    · rw [if_pos h2, if_pos h2]
    · rw [if_neg h2, if_neg h2]
theorem dstL_ok {ids : List Int} (h : lsE ids = 0) : dstL ids = (dst ids, 0) := by
  obtain ⟨h1, h2⟩ := lsE_zero h
  unfold dstL
  rw [if_neg (by omega), if_neg]
  rw [List.all_eq_true.2 h2]; decide
theorem dL_one {ids : List Int} (h : lsE ids = 0) : (dstL ids).1 = dst ids := by rw [dstL_ok h]
theorem dL_up {ids : List Int} (h : lsE ids = 0) : ((dstL ids).1).Pairwise (fun x y => x < y) := by rw [dL_one h]; exact dst_up ids
theorem dL_len {ids : List Int} (h : lsE ids = 0) : (dstL ids).1.length ≤ ids.length := by rw [dL_one h]; exact dst_len ids
theorem dL_mem {ids : List Int} (h : lsE ids = 0) (x : Int) : x ∈ (dstL ids).1 ↔ x ∈ ids := by rw [dL_one h]; exact dst_mem ids x
theorem up_notin {l : List Int} (h : l.Pairwise (fun x y => x < y)) {k : Nat} {x : Int} (hx : l[k]? = some x) : inI (l.take k) x = false := by
  cases hc : inI (l.take k) x with
  | false => rfl
  | true =>
    obtain ⟨i, hi⟩ := List.mem_iff_getElem?.1 (inI_iff.1 hc)
    rw [List.getElem?_take] at hi
    split at hi
    · have hk := (List.getElem?_eq_some_iff.1 hx).1
      have h3 := List.pairwise_iff_getElem.1 h i k (by omega) hk (by assumption)
      rw [(List.getElem?_eq_some_iff.1 hi).2, (List.getElem?_eq_some_iff.1 hx).2] at h3
      omega
    · cases hi
theorem bmp_up {δ : Int} {l : List Int} {t : List rcT.El} (h : l.Pairwise (fun x y => x < y)) {k : Nat} {x : Int} (hx : l[k]? = some x) : bmp δ l t (k + 1) = withC (bmp δ l t k) x (countC (bmp δ l t k) x + δ) := by
  rw [bmp_step hx, if_neg (by rw [up_notin h hx]; decide)]
theorem bmp_dst {δ : Int} {ids : List Int} {t : List rcT.El} (ha : ascC t ∧ posC t) (hd : ∀ n ∈ ids, 0 ≤ countC t n + δ) : bmp δ (dst ids) t (dst ids).length = bmp δ ids t ids.length := by
  have h1 := bmp_asc (δ := δ) (ids := dst ids) ha.1 ha.2 (dst ids).length
  have h2 := bmp_asc (δ := δ) (ids := ids) ha.1 ha.2 ids.length
  refine tab_ext h1.1 h2.1 h1.2 h2.2 (fun n => ?_)
  rw [bmp_cnt ha.1 ha.2 hd, bmp_cnt ha.1 ha.2 (fun n hn => hd n ((dst_mem _ _).1 hn)), List.take_length, List.take_length]
  by_cases h : n ∈ ids
  · rw [if_pos h, if_pos ((dst_mem _ _).2 h)]
  · rw [if_neg h, if_neg (fun e => h ((dst_mem _ _).1 e))]
theorem dL_bmp {δ : Int} {ids : List Int} {t : List rcT.El} (h : lsE ids = 0) (ha : ascC t ∧ posC t) (hd : ∀ n ∈ ids, 0 ≤ countC t n + δ) : bmp δ (dstL ids).1 t (dstL ids).1.length = bmp δ ids t ids.length := by rw [dL_one h]; exact bmp_dst ha hd
theorem heap_tab6 {a b c d k : AObj} {T : TypeId} {t : Ty} {g : Nat} {l m : List t.El} (hl : l = m) : [a, b, c, k, .arr T t l false g, d] = [a, b, c, k, AObj.arr T t m false g, d] := by rw [hl]
theorem heap_tab5 {a b c d : AObj} {T : TypeId} {t : Ty} {g : Nat} {l m : List t.El} (hl : l = m) : [a, b, c, .arr T t l false g, d] = [a, b, c, AObj.arr T t m false g, d] := by rw [hl]
theorem mostB_cnt {t : List rcT.El} (ha : ascC t) (h : ∀ n, countC t n ≤ 1000000) : mostB t = true := mostB_iff.2 (fun x hx => by rw [← cnt_mem ha hx]; exact h _)
theorem ofT_len : ∀ (l : List (List Int)) (t : List rcT.El), (∀ ids ∈ l, lsE ids = 0) → (ofT t l).length ≤ t.length + l.length * 500
  | [], t, _ => by simp [ofT]
  | ids :: l, t, h => by
    have h1 := ofT_len l (bmp 1 ids t ids.length) (fun m hm => h m (by simp [hm]))
    have h2 := bmp_len (δ := 1) (ids := ids) (t := t) ids.length
    have h3 := (lsE_zero (h ids (by simp))).1
    show (ofT (bmp 1 ids t ids.length) l).length ≤ _
    rw [List.length_cons]
    omega
set_option maxRecDepth 100000 in
theorem fnOk_rfOf : FnOk Try.prog 28 Try.f28 := ⟨by rfl, by kernel_rfl, by
  show okCode _ _ = true ∧ drawsOk _ = true
  exact ⟨by kernel_rfl, by kernel_rfl⟩⟩
set_option maxRecDepth 100000 in
theorem fnOk_rfTab : FnOk Try.prog 42 Try.f42 := ⟨by rfl, by kernel_rfl, by
  show okCode _ _ = true ∧ drawsOk _ = true
  exact ⟨by kernel_rfl, by kernel_rfl⟩⟩
set_option maxRecDepth 100000 in
theorem fnOk_rfTab1 : FnOk Try.prog 62 Try.f62 := ⟨by rfl, by kernel_rfl, by
  show okCode _ _ = true ∧ drawsOk _ = true
  exact ⟨by kernel_rfl, by kernel_rfl⟩⟩
set_option maxRecDepth 100000 in
theorem fnOk_rfCts : FnOk Try.prog 41 Try.f41 := ⟨by rfl, by kernel_rfl, by
  show okCode _ _ = true ∧ drawsOk _ = true
  exact ⟨by kernel_rfl, by kernel_rfl⟩⟩
theorem sortC_ok : SortOk Try.prog 61 rcT := SortOk.str sortP rfl (by decide) Try.isAgg52 Try.sizeOf52
def zC : List (FuncId × Ty) := [(61, rcT)]
theorem sortsC : SortsOk Try.prog zC := .cons sortC_ok .nil
noncomputable def cr13 : Cx := ⟨tb, [(42, Try.f42), (62, Try.f62), (41, Try.f41)], [(38, spCmpI), (40, spDst), (12, spCk)]⟩
theorem spr13 : SpecsOk Try.prog cr13.specs := .cons cmpI_ok (.cons rfDst_ok (.cons rfCk_ok .nil))
theorem fnr13 : FnsOk Try.prog cr13.fns := .cons fnOk_rfTab (.cons fnOk_rfTab1 (.cons fnOk_rfCts .nil))
set_option maxRecDepth 100000 in
set_option maxHeartbeats 4000000 in
theorem rfOf_ok : SpecOk Try.prog 28 spOf := by
  refine spec_body (C := cr13) mixed tbOk spr13 (callZ_ok (C := cr13) mixed tbOk spr13 fnr13 sortsC 4) fnOk_rfOf ?_
  intro ys p r h hp
  unfold spOf at h
  split at h
  · rename_i l
    cases h
    by_cases hl : 1000 < (l.length : Int)
    · have hc : ofL l = ([], 3) := by unfold ofL; rw [if_pos (by omega)]
      conv => whnf
      repeat' first
        | ((first | refine idx_kn (by assumption) ?_ | refine idx_ki (by assumption) (by omega) ?_ | refine br_true (by first | with_reducible exact rfl | assumption | decide) ?_ | refine br_false (by first | with_reducible exact rfl | assumption | decide) ?_ | with_reducible first | refine br_kt (by assumption) ?_ | refine br_kf (by assumption) ?_ | refine br_nt (by assumption) ?_ | refine br_nf (by assumption) ?_ | refine br_et (by assumption) ?_ | refine br_ef (by assumption) ?_); conv => whnf)
        | ((with_reducible first | refine br_dec (fun h => ?_) (fun h => ?_) | refine br_ndec (fun h => ?_) (fun h => ?_) | refine br_ne (fun h => ?_) (fun h => ?_) | refine br_eq (fun h => ?_) (fun h => ?_)) <;> first | (exfalso; omega) | conv => whnf)
        | (refine br_intro (fun h => ?_) (fun h => ?_) <;> conv => whnf)
        | ((first | refine need_in (by first | exact trivial | assumption | exact ⟨rfl, Nat.le_refl _⟩ | exact ⟨rfl, rfl⟩ | (simp only [inR]; omega) | omega | (simp only [roomP, true_and, and_true, List.length_take, List.length_drop, List.length_append, List.length_cons, List.length_nil, List.length_set, List.length_replicate]; omega) | (refine ⟨by first | exact trivial | rfl, by first | exact Nat.le_refl _ | omega | (simp; omega), ?_⟩; change roomP _ _ 1; simp only [roomP]; omega) | (change roomP _ _ 1; simp only [roomP]; omega) | (simp; omega) | (simp [inR]; omega) | (simp [inR]; done) | decide | (simp; done)) ?_ | refine idx_nat (by omega) (fun x hx => ?_) | refine frz_auto ?_ | refine draw_plain ?_ | refine idx_intro (by first | omega | (simp; omega) | (simp; done)) (by first | omega | (simp; omega) | (simp; done)) (fun x hx => ?_)); conv => whnf)
      rw [hc]; rfl
    · have hc0 : ofL l = if ofErr l ≠ 0 then ([], ofErr l) else if 500 < (ofT [] l).length then ([], 3) else (ofT [] l, 0) := by unfold ofL; rw [if_neg (by omega)]
      conv => whnf
      repeat' first
        | ((first | refine idx_kn (by assumption) ?_ | refine idx_ki (by assumption) (by omega) ?_ | refine br_true (by first | with_reducible exact rfl | assumption | decide) ?_ | refine br_false (by first | with_reducible exact rfl | assumption | decide) ?_ | with_reducible first | refine br_kt (by assumption) ?_ | refine br_kf (by assumption) ?_ | refine br_nt (by assumption) ?_ | refine br_nf (by assumption) ?_ | refine br_et (by assumption) ?_ | refine br_ef (by assumption) ?_); conv => whnf)
        | ((with_reducible first | refine br_dec (fun h => ?_) (fun h => ?_) | refine br_ndec (fun h => ?_) (fun h => ?_) | refine br_ne (fun h => ?_) (fun h => ?_) | refine br_eq (fun h => ?_) (fun h => ?_)) <;> first | (exfalso; omega) | conv => whnf)
        | (refine br_intro (fun h => ?_) (fun h => ?_) <;> conv => whnf)
        | ((first | refine need_in (by first | exact trivial | assumption | exact ⟨rfl, Nat.le_refl _⟩ | exact ⟨rfl, rfl⟩ | (simp only [inR]; omega) | omega | (simp only [roomP, true_and, and_true, List.length_take, List.length_drop, List.length_append, List.length_cons, List.length_nil, List.length_set, List.length_replicate]; omega) | (refine ⟨by first | exact trivial | rfl, by first | exact Nat.le_refl _ | omega | (simp; omega), ?_⟩; change roomP _ _ 1; simp only [roomP]; omega) | (change roomP _ _ 1; simp only [roomP]; omega) | (simp; omega) | (simp [inR]; omega) | (simp [inR]; done) | decide | (simp; done)) ?_ | refine idx_nat (by omega) (fun x hx => ?_) | refine frz_auto ?_ | refine draw_plain ?_ | refine idx_intro (by first | omega | (simp; omega) | (simp; done)) (by first | omega | (simp; omega) | (simp; done)) (fun x hx => ?_)); conv => whnf)
      refine .mk (fun bm => ?_)
      conv => whnf
      repeat' first
        | ((first | refine idx_kn (by assumption) ?_ | refine idx_ki (by assumption) (by omega) ?_ | refine br_true (by first | with_reducible exact rfl | assumption | decide) ?_ | refine br_false (by first | with_reducible exact rfl | assumption | decide) ?_ | with_reducible first | refine br_kt (by assumption) ?_ | refine br_kf (by assumption) ?_ | refine br_nt (by assumption) ?_ | refine br_nf (by assumption) ?_ | refine br_et (by assumption) ?_ | refine br_ef (by assumption) ?_); conv => whnf)
        | ((with_reducible first | refine br_dec (fun h => ?_) (fun h => ?_) | refine br_ndec (fun h => ?_) (fun h => ?_) | refine br_ne (fun h => ?_) (fun h => ?_) | refine br_eq (fun h => ?_) (fun h => ?_)) <;> first | (exfalso; omega) | conv => whnf)
        | (refine br_intro (fun h => ?_) (fun h => ?_) <;> conv => whnf)
        | ((first | refine need_in (by first | exact trivial | assumption | exact ⟨rfl, Nat.le_refl _⟩ | exact ⟨rfl, rfl⟩ | (simp only [inR]; omega) | omega | (simp only [roomP, true_and, and_true, List.length_take, List.length_drop, List.length_append, List.length_cons, List.length_nil, List.length_set, List.length_replicate]; omega) | (refine ⟨by first | exact trivial | rfl, by first | exact Nat.le_refl _ | omega | (simp; omega), ?_⟩; change roomP _ _ 1; simp only [roomP]; omega) | (change roomP _ _ 1; simp only [roomP]; omega) | (simp; omega) | (simp [inR]; omega) | (simp [inR]; done) | decide | (simp; done)) ?_ | refine idx_nat (by omega) (fun x hx => ?_) | refine frz_auto ?_ | refine draw_plain ?_ | refine idx_intro (by first | omega | (simp; omega) | (simp; done)) (by first | omega | (simp; omega) | (simp; done)) (fun x hx => ?_)); conv => whnf)
      refine loop_inv [] [17] (fun vs h => ∃ (i : Nat) (m : List mI), vs = [.int .i64 (i : Int)] ∧ h = [.arr 52 rcT [] false 0, .oth (.map bm (.int .i64) (.int .i64) m)] ∧ i ≤ l.length ∧ MapC m (ofN l i) ∧ (∀ ids ∈ (l : List (List Int)).take i, lsE ids = 0)) (fun vs _ => match vs with | [.int _ k] => l.length - k.toNat | _ => 0) ?_
      conv => whnf
      refine ⟨⟨0, [], rfl, rfl, Nat.zero_le _, mapC_nil, by simp⟩, ?_⟩
      rintro vs h' - ⟨i, m, rfl, rfl, hi, hm, hs⟩
      by_cases hil : i < l.length
      · obtain ⟨ids, hx⟩ : ∃ x : List Int, (l : List (List Int))[i]? = some x := ⟨_, List.getElem?_eq_getElem hil⟩
        have hde := dstL_err ids
        by_cases he : lsE ids = 0
        · have hdo := dstL_ok he
          have hon := ofN_succ hx
          have hoa := ofN_asc l i
          have hcl := fun n => ofN_le (l := l) (k := i) hi n
          have hbd := dL_bmp (δ := 1) he hoa (fun n _ => by have := (hcl n).1; omega)
          have hup := dL_up he
          have hidl := (lsE_zero he).1
          have hdl := dL_len he
          have he' : (!(dstL ids).2 == 0) = false := by rw [hde, he]; rfl
          rw [← hbd] at hon
          generalize hB : ofN l i = B at *
          conv => whnf
          repeat' first
            | ((first | refine idx_kn (by assumption) ?_ | refine idx_ki (by assumption) (by omega) ?_ | refine br_true (by first | with_reducible exact rfl | assumption | decide) ?_ | refine br_false (by first | with_reducible exact rfl | assumption | decide) ?_ | with_reducible first | refine br_kt (by assumption) ?_ | refine br_kf (by assumption) ?_ | refine br_nt (by assumption) ?_ | refine br_nf (by assumption) ?_ | refine br_et (by assumption) ?_ | refine br_ef (by assumption) ?_); conv => whnf)
            | ((with_reducible first | refine br_dec (fun h => ?_) (fun h => ?_) | refine br_ndec (fun h => ?_) (fun h => ?_) | refine br_ne (fun h => ?_) (fun h => ?_) | refine br_eq (fun h => ?_) (fun h => ?_)) <;> first | (exfalso; omega) | conv => whnf)
            | (refine br_intro (fun h => ?_) (fun h => ?_) <;> conv => whnf)
            | ((first | refine need_in (by first | exact trivial | assumption | exact ⟨rfl, Nat.le_refl _⟩ | exact ⟨rfl, rfl⟩ | (simp only [inR]; omega) | omega | (simp only [roomP, true_and, and_true, List.length_take, List.length_drop, List.length_append, List.length_cons, List.length_nil, List.length_set, List.length_replicate]; omega) | (refine ⟨by first | exact trivial | rfl, by first | exact Nat.le_refl _ | omega | (simp; omega), ?_⟩; change roomP _ _ 1; simp only [roomP]; omega) | (change roomP _ _ 1; simp only [roomP]; omega) | (simp; omega) | (simp [inR]; omega) | (simp [inR]; done) | decide | (simp; done)) ?_ | refine idx_nat (by omega) (fun x hx => ?_) | refine frz_auto ?_ | refine draw_plain ?_ | refine idx_intro (by first | omega | (simp; omega) | (simp; done)) (by first | omega | (simp; omega) | (simp; done)) (fun x hx => ?_)); conv => whnf)
          refine loop_inv [] [31] (fun vs h => ∃ (j : Nat) (m : List mI), vs = [.int .i64 (j : Int)] ∧ h = [.arr 52 rcT [] false 0, .oth (.map bm (.int .i64) (.int .i64) m)] ∧ j ≤ (dstL ids).1.length ∧ MapC m (bmp 1 (dstL ids).1 B j)) (fun vs _ => match vs with | [.int _ k] => (dstL ids).1.length - k.toNat | _ => 0) ?_
          conv => whnf
          refine ⟨⟨0, m, rfl, rfl, Nat.zero_le _, hm⟩, ?_⟩
          clear hm
          rintro vs h' - ⟨j, m, rfl, rfl, hj, hm⟩
          have hba := bmp_asc (δ := 1) (ids := (dstL ids).1) hoa.1 hoa.2 j
          by_cases hjl : j < (dstL ids).1.length
          · obtain ⟨x, hy⟩ : ∃ x : Int, ((dstL ids).1 : List Int)[j]? = some x := ⟨_, List.getElem?_eq_getElem hjl⟩
            have hbs := bmp_up (δ := 1) (t := B) hup hy
            have hcb : countC (bmp 1 (dstL ids).1 B j) x ≤ 1001 := by
              rw [bmp_cnt1 hoa]
              have h1 := (hcl x).2
              split <;> omega
            have hc0 := cnt_nonneg hba.1 hba.2 x
            conv => whnf
            repeat' first
              | ((first | refine idx_kn (by assumption) ?_ | refine idx_ki (by assumption) (by omega) ?_ | refine br_true (by first | with_reducible exact rfl | assumption | decide) ?_ | refine br_false (by first | with_reducible exact rfl | assumption | decide) ?_ | with_reducible first | refine br_kt (by assumption) ?_ | refine br_kf (by assumption) ?_ | refine br_nt (by assumption) ?_ | refine br_nf (by assumption) ?_ | refine br_et (by assumption) ?_ | refine br_ef (by assumption) ?_); conv => whnf)
              | ((with_reducible first | refine br_dec (fun h => ?_) (fun h => ?_) | refine br_ndec (fun h => ?_) (fun h => ?_) | refine br_ne (fun h => ?_) (fun h => ?_) | refine br_eq (fun h => ?_) (fun h => ?_)) <;> first | (exfalso; omega) | conv => whnf)
              | (refine br_intro (fun h => ?_) (fun h => ?_) <;> conv => whnf)
              | ((first | refine need_in (by first | exact trivial | assumption | exact ⟨rfl, Nat.le_refl _⟩ | exact ⟨rfl, rfl⟩ | (simp only [inR]; omega) | omega | (simp only [roomP, true_and, and_true, List.length_take, List.length_drop, List.length_append, List.length_cons, List.length_nil, List.length_set, List.length_replicate]; omega) | (refine ⟨by first | exact trivial | rfl, by first | exact Nat.le_refl _ | omega | (simp; omega), ?_⟩; change roomP _ _ 1; simp only [roomP]; omega) | (change roomP _ _ 1; simp only [roomP]; omega) | (simp; omega) | (simp [inR]; omega) | (simp [inR]; done) | decide | (simp; done)) ?_ | refine idx_nat (by omega) (fun x hx => ?_) | refine frz_auto ?_ | refine draw_plain ?_ | refine idx_intro (by first | omega | (simp; omega) | (simp; done)) (by first | omega | (simp; omega) | (simp; done)) (fun x hx => ?_)); conv => whnf)
            refine .mk (fun y hy => ?_) (fun hy => ?_)
            · have hyc := mapC_some hm hba.1 hy
              have hput := mapC_put (k := x) (c := y + 1) hm hba.1 (by omega)
              rw [hyc, ← hbs] at hput
              rw [← hyc] at hput
              conv => whnf
              repeat' first
                | ((first | refine idx_kn (by assumption) ?_ | refine idx_ki (by assumption) (by omega) ?_ | refine br_true (by first | with_reducible exact rfl | assumption | decide) ?_ | refine br_false (by first | with_reducible exact rfl | assumption | decide) ?_ | with_reducible first | refine br_kt (by assumption) ?_ | refine br_kf (by assumption) ?_ | refine br_nt (by assumption) ?_ | refine br_nf (by assumption) ?_ | refine br_et (by assumption) ?_ | refine br_ef (by assumption) ?_); conv => whnf)
                | ((with_reducible first | refine br_dec (fun h => ?_) (fun h => ?_) | refine br_ndec (fun h => ?_) (fun h => ?_) | refine br_ne (fun h => ?_) (fun h => ?_) | refine br_eq (fun h => ?_) (fun h => ?_)) <;> first | (exfalso; omega) | conv => whnf)
                | (refine br_intro (fun h => ?_) (fun h => ?_) <;> conv => whnf)
                | ((first | refine need_in (by first | exact trivial | assumption | exact ⟨rfl, Nat.le_refl _⟩ | exact ⟨rfl, rfl⟩ | (simp only [inR]; omega) | omega | (simp only [roomP, true_and, and_true, List.length_take, List.length_drop, List.length_append, List.length_cons, List.length_nil, List.length_set, List.length_replicate]; omega) | (refine ⟨by first | exact trivial | rfl, by first | exact Nat.le_refl _ | omega | (simp; omega), ?_⟩; change roomP _ _ 1; simp only [roomP]; omega) | (change roomP _ _ 1; simp only [roomP]; omega) | (simp; omega) | (simp [inR]; omega) | (simp [inR]; done) | decide | (simp; done)) ?_ | refine idx_nat (by omega) (fun x hx => ?_) | refine frz_auto ?_ | refine draw_plain ?_ | refine idx_intro (by first | omega | (simp; omega) | (simp; done)) (by first | omega | (simp; omega) | (simp; done)) (fun x hx => ?_)); conv => whnf)
              refine back_intro (by conv => whnf) rfl ⟨j + 1, _, rfl, rfl, by omega, hput⟩ ?_
              show (dstL ids).1.length - ((j : Int) + 1).toNat < (dstL ids).1.length - (j : Int).toNat
              omega
            · have hyc := mapC_none hm hy
              have hput := mapC_put (k := x) (c := 0 + 1) hm hba.1 (by decide)
              rw [hyc] at hbs
              rw [← hbs] at hput
              conv => whnf
              repeat' first
                | ((first | refine idx_kn (by assumption) ?_ | refine idx_ki (by assumption) (by omega) ?_ | refine br_true (by first | with_reducible exact rfl | assumption | decide) ?_ | refine br_false (by first | with_reducible exact rfl | assumption | decide) ?_ | with_reducible first | refine br_kt (by assumption) ?_ | refine br_kf (by assumption) ?_ | refine br_nt (by assumption) ?_ | refine br_nf (by assumption) ?_ | refine br_et (by assumption) ?_ | refine br_ef (by assumption) ?_); conv => whnf)
                | ((with_reducible first | refine br_dec (fun h => ?_) (fun h => ?_) | refine br_ndec (fun h => ?_) (fun h => ?_) | refine br_ne (fun h => ?_) (fun h => ?_) | refine br_eq (fun h => ?_) (fun h => ?_)) <;> first | (exfalso; omega) | conv => whnf)
                | (refine br_intro (fun h => ?_) (fun h => ?_) <;> conv => whnf)
                | ((first | refine need_in (by first | exact trivial | assumption | exact ⟨rfl, Nat.le_refl _⟩ | exact ⟨rfl, rfl⟩ | (simp only [inR]; omega) | omega | (simp only [roomP, true_and, and_true, List.length_take, List.length_drop, List.length_append, List.length_cons, List.length_nil, List.length_set, List.length_replicate]; omega) | (refine ⟨by first | exact trivial | rfl, by first | exact Nat.le_refl _ | omega | (simp; omega), ?_⟩; change roomP _ _ 1; simp only [roomP]; omega) | (change roomP _ _ 1; simp only [roomP]; omega) | (simp; omega) | (simp [inR]; omega) | (simp [inR]; done) | decide | (simp; done)) ?_ | refine idx_nat (by omega) (fun x hx => ?_) | refine frz_auto ?_ | refine draw_plain ?_ | refine idx_intro (by first | omega | (simp; omega) | (simp; done)) (by first | omega | (simp; omega) | (simp; done)) (fun x hx => ?_)); conv => whnf)
              refine back_intro (by conv => whnf) rfl ⟨j + 1, _, rfl, rfl, by omega, hput⟩ ?_
              show (dstL ids).1.length - ((j : Int) + 1).toNat < (dstL ids).1.length - (j : Int).toNat
              omega
          · have hjn : j = (dstL ids).1.length := by omega
            subst hjn
            conv => whnf
            repeat' first
              | ((first | refine idx_kn (by assumption) ?_ | refine idx_ki (by assumption) (by omega) ?_ | refine br_true (by first | with_reducible exact rfl | assumption | decide) ?_ | refine br_false (by first | with_reducible exact rfl | assumption | decide) ?_ | with_reducible first | refine br_kt (by assumption) ?_ | refine br_kf (by assumption) ?_ | refine br_nt (by assumption) ?_ | refine br_nf (by assumption) ?_ | refine br_et (by assumption) ?_ | refine br_ef (by assumption) ?_); conv => whnf)
              | ((with_reducible first | refine br_dec (fun h => ?_) (fun h => ?_) | refine br_ndec (fun h => ?_) (fun h => ?_) | refine br_ne (fun h => ?_) (fun h => ?_) | refine br_eq (fun h => ?_) (fun h => ?_)) <;> first | (exfalso; omega) | conv => whnf)
              | (refine br_intro (fun h => ?_) (fun h => ?_) <;> conv => whnf)
              | ((first | refine need_in (by first | exact trivial | assumption | exact ⟨rfl, Nat.le_refl _⟩ | exact ⟨rfl, rfl⟩ | (simp only [inR]; omega) | omega | (simp only [roomP, true_and, and_true, List.length_take, List.length_drop, List.length_append, List.length_cons, List.length_nil, List.length_set, List.length_replicate]; omega) | (refine ⟨by first | exact trivial | rfl, by first | exact Nat.le_refl _ | omega | (simp; omega), ?_⟩; change roomP _ _ 1; simp only [roomP]; omega) | (change roomP _ _ 1; simp only [roomP]; omega) | (simp; omega) | (simp [inR]; omega) | (simp [inR]; done) | decide | (simp; done)) ?_ | refine idx_nat (by omega) (fun x hx => ?_) | refine frz_auto ?_ | refine draw_plain ?_ | refine idx_intro (by first | omega | (simp; omega) | (simp; done)) (by first | omega | (simp; omega) | (simp; done)) (fun x hx => ?_)); conv => whnf)
            refine back_intro (by conv => whnf) rfl ⟨i + 1, m, rfl, rfl, by omega, by rw [hon]; exact hm, fun y hy => ?_⟩ ?_
            · rw [List.take_add_one, hx] at hy
              rcases List.mem_append.1 hy with hy | hy
              · exact hs y hy
              · have : y = ids := by simpa using hy
                rw [this]; exact he
            · show l.length - ((i : Int) + 1).toNat < l.length - (i : Int).toNat
              omega
        · have he' : (!(dstL ids).2 == 0) = true := by rw [hde]; simpa using he
          have ho := ofErr_at hs hx he
          rw [if_pos (by rw [ho]; exact he), ho] at hc0
          conv => whnf
          repeat' first
            | ((first | refine idx_kn (by assumption) ?_ | refine idx_ki (by assumption) (by omega) ?_ | refine br_true (by first | with_reducible exact rfl | assumption | decide) ?_ | refine br_false (by first | with_reducible exact rfl | assumption | decide) ?_ | with_reducible first | refine br_kt (by assumption) ?_ | refine br_kf (by assumption) ?_ | refine br_nt (by assumption) ?_ | refine br_nf (by assumption) ?_ | refine br_et (by assumption) ?_ | refine br_ef (by assumption) ?_); conv => whnf)
            | ((with_reducible first | refine br_dec (fun h => ?_) (fun h => ?_) | refine br_ndec (fun h => ?_) (fun h => ?_) | refine br_ne (fun h => ?_) (fun h => ?_) | refine br_eq (fun h => ?_) (fun h => ?_)) <;> first | (exfalso; omega) | conv => whnf)
            | (refine br_intro (fun h => ?_) (fun h => ?_) <;> conv => whnf)
            | ((first | refine need_in (by first | exact trivial | assumption | exact ⟨rfl, Nat.le_refl _⟩ | exact ⟨rfl, rfl⟩ | (simp only [inR]; omega) | omega | (simp only [roomP, true_and, and_true, List.length_take, List.length_drop, List.length_append, List.length_cons, List.length_nil, List.length_set, List.length_replicate]; omega) | (refine ⟨by first | exact trivial | rfl, by first | exact Nat.le_refl _ | omega | (simp; omega), ?_⟩; change roomP _ _ 1; simp only [roomP]; omega) | (change roomP _ _ 1; simp only [roomP]; omega) | (simp; omega) | (simp [inR]; omega) | (simp [inR]; done) | decide | (simp; done)) ?_ | refine idx_nat (by omega) (fun x hx => ?_) | refine frz_auto ?_ | refine draw_plain ?_ | refine idx_intro (by first | omega | (simp; omega) | (simp; done)) (by first | omega | (simp; omega) | (simp; done)) (fun x hx => ?_)); conv => whnf)
          rw [hc0, hde]; rfl
      · have hin : i = l.length := by omega
        subst hin
        rw [List.take_length] at hs
        rw [if_neg (fun e => e (ofErr_zero.2 hs))] at hc0
        have hoa := ofN_asc l l.length
        have hmo := mostB_cnt hoa.1 (fun n => by have := (ofN_le (l := l) (k := l.length) (Nat.le_refl _) n).2; omega)
        unfold ofN at hm hoa hmo
        rw [List.take_length] at hm hoa hmo
        have htasc := hoa.1
        have htlen := ofT_len l [] hs
        rw [List.length_nil] at htlen
        generalize hB : ofT [] l = B at *
        conv => whnf
        repeat' first
          | ((first | refine idx_kn (by assumption) ?_ | refine idx_ki (by assumption) (by omega) ?_ | refine br_true (by first | with_reducible exact rfl | assumption | decide) ?_ | refine br_false (by first | with_reducible exact rfl | assumption | decide) ?_ | with_reducible first | refine br_kt (by assumption) ?_ | refine br_kf (by assumption) ?_ | refine br_nt (by assumption) ?_ | refine br_nf (by assumption) ?_ | refine br_et (by assumption) ?_ | refine br_ef (by assumption) ?_); conv => whnf)
          | ((with_reducible first | refine br_dec (fun h => ?_) (fun h => ?_) | refine br_ndec (fun h => ?_) (fun h => ?_) | refine br_ne (fun h => ?_) (fun h => ?_) | refine br_eq (fun h => ?_) (fun h => ?_)) <;> first | (exfalso; omega) | conv => whnf)
          | (refine br_intro (fun h => ?_) (fun h => ?_) <;> conv => whnf)
          | ((first | refine need_in (by first | exact trivial | assumption | exact ⟨rfl, Nat.le_refl _⟩ | exact ⟨rfl, rfl⟩ | (simp only [inR]; omega) | omega | (simp only [roomP, true_and, and_true, List.length_take, List.length_drop, List.length_append, List.length_cons, List.length_nil, List.length_set, List.length_replicate]; omega) | (refine ⟨by first | exact trivial | rfl, by first | exact Nat.le_refl _ | omega | (simp; omega), ?_⟩; change roomP _ _ 1; simp only [roomP]; omega) | (change roomP _ _ 1; simp only [roomP]; omega) | (simp; omega) | (simp [inR]; omega) | (simp [inR]; done) | decide | (simp; done)) ?_ | refine idx_nat (by omega) (fun x hx => ?_) | refine frz_auto ?_ | refine draw_plain ?_ | refine idx_intro (by first | omega | (simp; omega) | (simp; done)) (by first | omega | (simp; omega) | (simp; done)) (fun x hx => ?_)); conv => whnf)
        have htl : m.length = (B).length := mapC_len hm htasc
        have hstp := stp_range m
        refine loop_inv [] [4, 5] (fun vs h => ∃ (g : Nat) (seen : List Nat) (out : List rcT.El) (mx : Int), vs = [.own 3 g out.length, .int .i64 mx] ∧ h = [.arr 52 rcT [] false 0, .oth (.map bm (.int .i64) (.int .i64) m), .arr 52 rcT [] false 0, .arr 52 rcT out false g, .oth (.iter 1 bm m.length seen)] ∧ OutC m (List.range m.length) seen out mx) (fun _ h => match h with | [_, _, _, _, .oth (.iter _ _ _ seen)] => m.length - seen.length | _ => 0) ?_
        conv => whnf
        refine ⟨⟨0, [], [], 0, rfl, rfl, outC_nil m (List.range m.length)⟩, ?_⟩
        rintro vs h' - ⟨g, seen, out, mx, rfl, rfl, ho⟩
        have hsl := outC_le ho
        have hol := ho.ln
        have hbl := hstp.ln
        conv => whnf
        repeat' first
          | ((first | refine idx_kn (by assumption) ?_ | refine idx_ki (by assumption) (by omega) ?_ | refine br_true (by first | with_reducible exact rfl | assumption | decide) ?_ | refine br_false (by first | with_reducible exact rfl | assumption | decide) ?_ | with_reducible first | refine br_kt (by assumption) ?_ | refine br_kf (by assumption) ?_ | refine br_nt (by assumption) ?_ | refine br_nf (by assumption) ?_ | refine br_et (by assumption) ?_ | refine br_ef (by assumption) ?_); conv => whnf)
          | ((with_reducible first | refine br_dec (fun h => ?_) (fun h => ?_) | refine br_ndec (fun h => ?_) (fun h => ?_) | refine br_ne (fun h => ?_) (fun h => ?_) | refine br_eq (fun h => ?_) (fun h => ?_)) <;> first | (exfalso; omega) | conv => whnf)
          | (refine br_intro (fun h => ?_) (fun h => ?_) <;> conv => whnf)
          | ((first | refine need_in (by first | exact trivial | assumption | exact ⟨rfl, Nat.le_refl _⟩ | exact ⟨rfl, rfl⟩ | (simp only [inR]; omega) | omega | (simp only [roomP, true_and, and_true, List.length_take, List.length_drop, List.length_append, List.length_cons, List.length_nil, List.length_set, List.length_replicate]; omega) | (refine ⟨by first | exact trivial | rfl, by first | exact Nat.le_refl _ | omega | (simp; omega), ?_⟩; change roomP _ _ 1; simp only [roomP]; omega) | (change roomP _ _ 1; simp only [roomP]; omega) | (simp; omega) | (simp [inR]; omega) | (simp [inR]; done) | decide | (simp; done)) ?_ | refine idx_nat (by omega) (fun x hx => ?_) | refine frz_auto ?_ | refine draw_plain ?_ | refine idx_intro (by first | omega | (simp; omega) | (simp; done)) (by first | omega | (simp; omega) | (simp; done)) (fun x hx => ?_)); conv => whnf)
        refine .mk (fun i e he hn => ?_) (fun hall0 => ?_)
        · have hbi : (List.range m.length)[i]? = some i := by rw [List.getElem?_range (List.getElem?_eq_some_iff.1 he).1]
          have hst2 := fun x hx mx2 hmx => outC_step (x := x) (mx2 := mx2) hstp hm.nd ho he hbi hn hx hmx
          have hsl2 := outC_le (hst2 (e.1, e.2, ()) rfl _ rfl)
          rw [List.length_cons] at hsl2
          conv => whnf
          repeat' first
            | ((first | refine idx_kn (by assumption) ?_ | refine idx_ki (by assumption) (by omega) ?_ | refine br_true (by first | with_reducible exact rfl | assumption | decide) ?_ | refine br_false (by first | with_reducible exact rfl | assumption | decide) ?_ | with_reducible first | refine br_kt (by assumption) ?_ | refine br_kf (by assumption) ?_ | refine br_nt (by assumption) ?_ | refine br_nf (by assumption) ?_ | refine br_et (by assumption) ?_ | refine br_ef (by assumption) ?_); conv => whnf)
            | ((with_reducible first | refine br_dec (fun h => ?_) (fun h => ?_) | refine br_ndec (fun h => ?_) (fun h => ?_) | refine br_ne (fun h => ?_) (fun h => ?_) | refine br_eq (fun h => ?_) (fun h => ?_)) <;> first | (exfalso; omega) | conv => whnf)
            | (refine br_intro (fun h => ?_) (fun h => ?_) <;> conv => whnf)
            | ((first | refine need_in (by first | exact trivial | assumption | exact ⟨rfl, Nat.le_refl _⟩ | exact ⟨rfl, rfl⟩ | (simp only [inR]; omega) | omega | (simp only [roomP, true_and, and_true, List.length_take, List.length_drop, List.length_append, List.length_cons, List.length_nil, List.length_set, List.length_replicate]; omega) | (refine ⟨by first | exact trivial | rfl, by first | exact Nat.le_refl _ | omega | (simp; omega), ?_⟩; change roomP _ _ 1; simp only [roomP]; omega) | (change roomP _ _ 1; simp only [roomP]; omega) | (simp; omega) | (simp [inR]; omega) | (simp [inR]; done) | decide | (simp; done)) ?_ | refine idx_nat (by omega) (fun x hx => ?_) | refine frz_auto ?_ | refine draw_plain ?_ | refine idx_intro (by first | omega | (simp; omega) | (simp; done)) (by first | omega | (simp; omega) | (simp; done)) (fun x hx => ?_)); conv => whnf)
          refine back_intro (by conv => whnf) rfl ⟨g + 1, i :: seen, out ++ [(e.1, e.2, ())], maxI mx e.2, ?_, heap_tab5 ?_, hst2 _ rfl _ rfl⟩ ?_
          · rw [List.length_append]; rfl
          · simp only [cast_self, List.take_length]; rfl
          · show m.length - (i :: seen).length < m.length - seen.length
            rw [List.length_cons]
            omega
        · have hall : ∀ b ∈ List.range m.length, b ∈ seen := fun b hb => hall0 b (List.mem_range.1 hb)
          have hlen := outC_len hstp hm htasc ho hall
          have hmax := outC_max hstp hm ho hall
          have hneed : g = g ∧ out.length = out.length ∧ Ty.beq rcT rcT = true ∧ out.length < 4611686018427387904 := ⟨rfl, rfl, by decide, by omega⟩
          conv => whnf
          repeat' first
            | ((first | refine idx_kn (by assumption) ?_ | refine idx_ki (by assumption) (by omega) ?_ | refine br_true (by first | with_reducible exact rfl | assumption | decide) ?_ | refine br_false (by first | with_reducible exact rfl | assumption | decide) ?_ | with_reducible first | refine br_kt (by assumption) ?_ | refine br_kf (by assumption) ?_ | refine br_nt (by assumption) ?_ | refine br_nf (by assumption) ?_ | refine br_et (by assumption) ?_ | refine br_ef (by assumption) ?_); conv => whnf)
            | ((with_reducible first | refine br_dec (fun h => ?_) (fun h => ?_) | refine br_ndec (fun h => ?_) (fun h => ?_) | refine br_ne (fun h => ?_) (fun h => ?_) | refine br_eq (fun h => ?_) (fun h => ?_)) <;> first | (exfalso; omega) | conv => whnf)
            | (refine br_intro (fun h => ?_) (fun h => ?_) <;> conv => whnf)
            | ((first | refine need_in (by first | exact trivial | assumption | exact ⟨rfl, Nat.le_refl _⟩ | exact ⟨rfl, rfl⟩ | (simp only [inR]; omega) | omega | (simp only [roomP, true_and, and_true, List.length_take, List.length_drop, List.length_append, List.length_cons, List.length_nil, List.length_set, List.length_replicate]; omega) | (refine ⟨by first | exact trivial | rfl, by first | exact Nat.le_refl _ | omega | (simp; omega), ?_⟩; change roomP _ _ 1; simp only [roomP]; omega) | (change roomP _ _ 1; simp only [roomP]; omega) | (simp; omega) | (simp [inR]; omega) | (simp [inR]; done) | decide | (simp; done)) ?_ | refine idx_nat (by omega) (fun x hx => ?_) | refine frz_auto ?_ | refine draw_plain ?_ | refine idx_intro (by first | omega | (simp; omega) | (simp; done)) (by first | omega | (simp; omega) | (simp; done)) (fun x hx => ?_)); conv => whnf)
          · rw [if_pos (by omega)] at hc0; rw [hc0]; rfl
          · exact absurd (hmax.1 (by omega)) (by rw [hmo]; decide)
          · refine .mk (fun _ => True) (fun x y => cmpI (idC x) (idC y)) (fun _ _ => trivial) (fun x y _ _ => ?_) (fun x _ => ?_) (fun x y z _ _ _ h1 h2 => ?_) (fun x y z _ _ _ h1 h2 => ?_) (fun out' hp' hs' => ?_)
            · conv => whnf
              repeat' first
                | ((first | refine br_true (by first | with_reducible exact rfl | assumption | decide) ?_ | refine br_false (by first | with_reducible exact rfl | assumption | decide) ?_ | with_reducible first | refine br_kt (by assumption) ?_ | refine br_kf (by assumption) ?_ | refine br_nt (by assumption) ?_ | refine br_nf (by assumption) ?_ | refine br_et (by assumption) ?_ | refine br_ef (by assumption) ?_); conv => whnf)
                | ((with_reducible first | refine br_dec (fun h => ?_) (fun h => ?_) | refine br_ndec (fun h => ?_) (fun h => ?_) | refine br_ne (fun h => ?_) (fun h => ?_) | refine br_eq (fun h => ?_) (fun h => ?_)) <;> first | (exfalso; omega) | conv => whnf)
                | (refine br_intro (fun h => ?_) (fun h => ?_) <;> conv => whnf)
                | ((first | refine need_in (by first | exact trivial | assumption | exact ⟨rfl, Nat.le_refl _⟩ | exact ⟨rfl, rfl⟩ | (simp only [inR]; omega) | omega | (simp only [roomP, true_and, and_true, List.length_take, List.length_drop, List.length_append, List.length_cons, List.length_nil, List.length_set, List.length_replicate]; omega) | (refine ⟨by first | exact trivial | rfl, by first | exact Nat.le_refl _ | omega | (simp; omega), ?_⟩; change roomP _ _ 1; simp only [roomP]; omega) | (change roomP _ _ 1; simp only [roomP]; omega) | (simp; omega) | (simp [inR]; omega) | (simp [inR]; done) | decide | (simp; done)) ?_ | refine idx_nat (by omega) (fun x hx => ?_) | refine frz_auto ?_ | refine draw_plain ?_ | refine idx_intro (by first | omega | (simp; omega) | (simp; done)) (by first | omega | (simp; omega) | (simp; done)) (fun x hx => ?_)); conv => whnf)
              all_goals rfl
            · rw [cmpI_lt]; exact Int.lt_irrefl _
            · exact cmpI_lt.2 (Int.lt_trans (cmpI_lt.1 h1) (cmpI_lt.1 h2))
            · intro h
              have h3 := cmpI_lt.1 h
              have g1 : ¬ idC x < idC y := fun e => h1 (cmpI_lt.2 e)
              have g2 : ¬ idC y < idC z := fun e => h2 (cmpI_lt.2 e)
              omega
            · have hout := outC_sort hstp hm htasc ho hall hp' hs'
              subst hout
              conv => whnf
              repeat' first
                | ((first | refine idx_kn (by assumption) ?_ | refine idx_ki (by assumption) (by omega) ?_ | refine br_true (by first | with_reducible exact rfl | assumption | decide) ?_ | refine br_false (by first | with_reducible exact rfl | assumption | decide) ?_ | with_reducible first | refine br_kt (by assumption) ?_ | refine br_kf (by assumption) ?_ | refine br_nt (by assumption) ?_ | refine br_nf (by assumption) ?_ | refine br_et (by assumption) ?_ | refine br_ef (by assumption) ?_); conv => whnf)
                | ((with_reducible first | refine br_dec (fun h => ?_) (fun h => ?_) | refine br_ndec (fun h => ?_) (fun h => ?_) | refine br_ne (fun h => ?_) (fun h => ?_) | refine br_eq (fun h => ?_) (fun h => ?_)) <;> first | (exfalso; omega) | conv => whnf)
                | (refine br_intro (fun h => ?_) (fun h => ?_) <;> conv => whnf)
                | ((first | refine need_in (by first | exact trivial | assumption | exact ⟨rfl, Nat.le_refl _⟩ | exact ⟨rfl, rfl⟩ | (simp only [inR]; omega) | omega | (simp only [roomP, true_and, and_true, List.length_take, List.length_drop, List.length_append, List.length_cons, List.length_nil, List.length_set, List.length_replicate]; omega) | (refine ⟨by first | exact trivial | rfl, by first | exact Nat.le_refl _ | omega | (simp; omega), ?_⟩; change roomP _ _ 1; simp only [roomP]; omega) | (change roomP _ _ 1; simp only [roomP]; omega) | (simp; omega) | (simp [inR]; omega) | (simp [inR]; done) | decide | (simp; done)) ?_ | refine idx_nat (by omega) (fun x hx => ?_) | refine frz_auto ?_ | refine draw_plain ?_ | refine idx_intro (by first | omega | (simp; omega) | (simp; done)) (by first | omega | (simp; omega) | (simp; done)) (fun x hx => ?_)); conv => whnf)
              rw [if_neg (by omega)] at hc0; rw [hc0]; exact tup_l2 (List.take_of_length_le (Nat.le_of_eq hlen.symm)) rfl
  · cases h
end Go.Proofs.Ytadckioheabliaa
