/-
  Distinct numbers, ascending.
-/
import Derived.Test.YtadckioheabliaaR2
import Derived.Test.YtadckioheabliaaRc
import Derived.Test.YtadckioheabliaaSL
namespace Go.Proofs.Ytadckioheabliaa
open Av

/-- Of a list whose equal elements stand side by side, of each the first one; of the first so many. -/
def ddN (L : List Int) (n : Nat) : List Int := (List.range n).filterMap fun i => if i = 0 ∨ L[i]? ≠ L[i - 1]? then L[i]? else none
theorem ddN_succ (L : List Int) (n : Nat) : ddN L (n + 1) = ddN L n ++ (if n = 0 ∨ L[n]? ≠ L[n - 1]? then L[n]?.toList else []) := by
  unfold ddN
  rw [List.range_succ, List.filterMap_append]
  congr 1
  by_cases h : n = 0 ∨ L[n]? ≠ L[n - 1]?
  · rw [if_pos h]
    simp only [List.filterMap_cons, List.filterMap_nil, if_pos h]
    cases L[n]? <;> rfl
  · rw [if_neg h]
    simp only [List.filterMap_cons, List.filterMap_nil, if_neg h]
theorem ddN_len (L : List Int) : ∀ n, (ddN L n).length ≤ n
  | 0 => Nat.le_refl _
  | n + 1 => by
    rw [ddN_succ, List.length_append]
    have := ddN_len L n
    have h2 : (if n = 0 ∨ L[n]? ≠ L[n - 1]? then L[n]?.toList else []).length ≤ 1 := by
      split
      · cases L[n]? <;> simp
      · simp
    omega
theorem ddN_one (L : List Int) : ddN L 1 = L.take 1 := by
  rw [ddN_succ, if_pos (.inl rfl)]
  cases L <;> rfl
theorem ddN_short {L : List Int} {n : Nat} (h : L.length = n ∧ n < 2) : ddN L n = L := by
  obtain ⟨rfl, h⟩ := h
  cases L with
  | nil => rfl
  | cons x l =>
    cases l with
    | nil => exact (ddN_one _).trans rfl
    | cons y l => simp at h; omega
def dstL (ids : List Int) : List Int × Int := if 500 < ids.length then ([], 3) else if ids.all knownI = false then ([], 7) else (ddN (sortedI ids) ids.length, 0)
def spDst : DSpec
  | [.lst (.int .i64) ids] => some (True, .tup [.lst (.int .i64) (dstL ids).1, .int .i64 (dstL ids).2])
  | _ => none
theorem tup_li {t : Ty} {A B : List t.El} {a b : Int} (h : A = B) (h2 : a = b) : AV.tup [.lst t A, .int .i64 a] = AV.tup [.lst t B, .int .i64 b] := by rw [h, h2]
set_option maxRecDepth 100000 in
theorem fnOk_rfDst : FnOk Try.prog 40 Try.f40 := ⟨by rfl, by kernel_rfl, by
  show okCode _ _ = true ∧ drawsOk _ = true
  exact ⟨by kernel_rfl, by kernel_rfl⟩⟩
set_option maxRecDepth 100000 in
theorem fnOk_rfDst1 : FnOk Try.prog 57 Try.f57 := ⟨by rfl, by kernel_rfl, by
  show okCode _ _ = true ∧ drawsOk _ = true
  exact ⟨by kernel_rfl, by kernel_rfl⟩⟩
set_option maxRecDepth 100000 in
theorem fnOk_slCon : FnOk Try.prog 56 Try.f56 := ⟨by rfl, by kernel_rfl, by
  show okCode _ _ = true ∧ drawsOk _ = true
  exact ⟨by kernel_rfl, by kernel_rfl⟩⟩
set_option maxRecDepth 100000 in
theorem fnOk_slIdx : FnOk Try.prog 63 Try.f63 := ⟨by rfl, by kernel_rfl, by
  show okCode _ _ = true ∧ drawsOk _ = true
  exact ⟨by kernel_rfl, by kernel_rfl⟩⟩
set_option maxRecDepth 100000 in
theorem fnOk_slVal : FnOk Try.prog 59 Try.f59 := ⟨by rfl, by kernel_rfl, by
  show okCode _ _ = true ∧ drawsOk _ = true
  exact ⟨by kernel_rfl, by kernel_rfl⟩⟩
set_option maxRecDepth 100000 in
theorem fnOk_slSor : FnOk Try.prog 58 Try.f58 := ⟨by rfl, by kernel_rfl, by
  show okCode _ _ = true ∧ drawsOk _ = true
  exact ⟨by kernel_rfl, by kernel_rfl⟩⟩
set_option maxRecDepth 100000 in
theorem fnOk_slSrt : FnOk Try.prog 65 Try.f65 := ⟨by rfl, by kernel_rfl, by
  show okCode _ _ = true ∧ drawsOk _ = true
  exact ⟨by kernel_rfl, by kernel_rfl⟩⟩
set_option maxRecDepth 100000 in
theorem fnOk_slCom : FnOk Try.prog 60 Try.f60 := ⟨by rfl, by kernel_rfl, by
  show okCode _ _ = true ∧ drawsOk _ = true
  exact ⟨by kernel_rfl, by kernel_rfl⟩⟩
noncomputable def cr4 : Cx := ⟨tb, [(57, Try.f57), (56, Try.f56), (63, Try.f63), (59, Try.f59), (58, Try.f58), (60, Try.f60)], [(34, spKnown), (64, spColl)]⟩
theorem spr4 : SpecsOk Try.prog cr4.specs := .cons rfKnown_ok (.consF coll_ok .nil)
theorem fnr4 : FnsOk Try.prog cr4.fns := .cons fnOk_rfDst1 (.cons fnOk_slCon (.cons fnOk_slIdx (.cons fnOk_slVal (.cons fnOk_slSor (.cons fnOk_slCom .nil)))))
theorem isorts : ∀ f ∈ [65], SortIOk Try.prog f := by
  intro f hf
  rw [List.mem_singleton] at hf
  subst hf
  exact SortIOk.of sortI fnOk_slSrt.enters
set_option maxRecDepth 100000 in
set_option maxHeartbeats 4000000 in
theorem rfDst_ok : SpecOk Try.prog 40 spDst := by
  refine spec_body (C := cr4) mixed tbOk spr4 (callY_ok (C := cr4) mixed tbOk spr4 fnr4 isorts SortsOk.nil 5) fnOk_rfDst ?_
  intro ys p r h hp
  unfold spDst at h
  split at h
  · rename_i ids
    cases h
    by_cases hl : 500 < (ids.length : Int)
    · have hd : dstL ids = ([], 3) := by unfold dstL; rw [if_pos (by omega)]
      conv => whnf
      repeat' first
        | ((first | refine idx_kn (by assumption) ?_ | refine idx_ki (by assumption) (by omega) ?_ | refine br_true (by first | with_reducible exact rfl | assumption | decide) ?_ | refine br_false (by first | with_reducible exact rfl | assumption | decide) ?_ | with_reducible first | refine br_kt (by assumption) ?_ | refine br_kf (by assumption) ?_ | refine br_nt (by assumption) ?_ | refine br_nf (by assumption) ?_ | refine br_et (by assumption) ?_ | refine br_ef (by assumption) ?_); conv => whnf)
        | ((with_reducible first | refine br_dec (fun h => ?_) (fun h => ?_) | refine br_ndec (fun h => ?_) (fun h => ?_) | refine br_ne (fun h => ?_) (fun h => ?_) | refine br_eq (fun h => ?_) (fun h => ?_)) <;> first | (exfalso; omega) | conv => whnf)
        | (refine br_intro (fun h => ?_) (fun h => ?_) <;> conv => whnf)
        | ((first | refine need_in (by first | exact trivial | assumption | exact ⟨rfl, Nat.le_refl _⟩ | exact ⟨rfl, rfl⟩ | (simp only [inR]; omega) | omega | (simp only [roomP, true_and, and_true, List.length_take, List.length_drop, List.length_append, List.length_cons, List.length_nil, List.length_set, List.length_replicate]; omega) | (refine ⟨by first | exact trivial | rfl, by first | exact Nat.le_refl _ | omega | (simp; omega), ?_⟩; change roomP _ _ 1; simp only [roomP]; omega) | (change roomP _ _ 1; simp only [roomP]; omega) | (simp; omega) | (simp [inR]; omega) | (simp [inR]; done) | decide | (simp; done)) ?_ | refine idx_nat (by omega) (fun x hx => ?_) | refine frz_auto ?_ | refine draw_plain ?_ | refine idx_intro (by first | omega | (simp; omega) | (simp; done)) (by first | omega | (simp; omega) | (simp; done)) (fun x hx => ?_)); conv => whnf)
      rw [hd]; rfl
    · conv => whnf
      repeat' first
        | ((first | refine idx_kn (by assumption) ?_ | refine idx_ki (by assumption) (by omega) ?_ | refine br_true (by first | with_reducible exact rfl | assumption | decide) ?_ | refine br_false (by first | with_reducible exact rfl | assumption | decide) ?_ | with_reducible first | refine br_kt (by assumption) ?_ | refine br_kf (by assumption) ?_ | refine br_nt (by assumption) ?_ | refine br_nf (by assumption) ?_ | refine br_et (by assumption) ?_ | refine br_ef (by assumption) ?_); conv => whnf)
        | ((with_reducible first | refine br_dec (fun h => ?_) (fun h => ?_) | refine br_ndec (fun h => ?_) (fun h => ?_) | refine br_ne (fun h => ?_) (fun h => ?_) | refine br_eq (fun h => ?_) (fun h => ?_)) <;> first | (exfalso; omega) | conv => whnf)
        | (refine br_intro (fun h => ?_) (fun h => ?_) <;> conv => whnf)
        | ((first | refine need_in (by first | exact trivial | assumption | exact ⟨rfl, Nat.le_refl _⟩ | exact ⟨rfl, rfl⟩ | (simp only [inR]; omega) | omega | (simp only [roomP, true_and, and_true, List.length_take, List.length_drop, List.length_append, List.length_cons, List.length_nil, List.length_set, List.length_replicate]; omega) | (refine ⟨by first | exact trivial | rfl, by first | exact Nat.le_refl _ | omega | (simp; omega), ?_⟩; change roomP _ _ 1; simp only [roomP]; omega) | (change roomP _ _ 1; simp only [roomP]; omega) | (simp; omega) | (simp [inR]; omega) | (simp [inR]; done) | decide | (simp; done)) ?_ | refine idx_nat (by omega) (fun x hx => ?_) | refine frz_auto ?_ | refine draw_plain ?_ | refine idx_intro (by first | omega | (simp; omega) | (simp; done)) (by first | omega | (simp; omega) | (simp; done)) (fun x hx => ?_)); conv => whnf)
      refine loop_inv [] [8] (fun vs h => ∃ i : Nat, vs = [.int .i64 (i : Int)] ∧ h = [.arr 3 (.int .i64) [] false 0] ∧ i ≤ ids.length ∧ ∀ x ∈ (ids : List Int).take i, knownI x = true) (fun vs _ => match vs with | [.int _ k] => ids.length - k.toNat | _ => 0) ?_
      conv => whnf
      refine ⟨⟨0, rfl, rfl, by omega, by simp⟩, ?_⟩
      rintro vs h' - ⟨i, rfl, rfl, hi, hall⟩
      by_cases hil : i < ids.length
      · obtain ⟨x, hx⟩ : ∃ x : Int, (ids : List Int)[i]? = some x := ⟨_, List.getElem?_eq_getElem hil⟩
        cases hk : knownI x with
        | false =>
          have hk' : (!knownI x) = true := by rw [hk]; rfl
          have hd : dstL ids = ([], 7) := by
            unfold dstL
            rw [if_neg (by omega), if_pos]
            rw [List.all_eq_false]
            exact ⟨x, List.mem_of_getElem? hx, by rw [hk]; decide⟩
          conv => whnf
          repeat' first
            | ((first | refine idx_kn (by assumption) ?_ | refine idx_ki (by assumption) (by omega) ?_ | refine br_true (by first | with_reducible exact rfl | assumption | decide) ?_ | refine br_false (by first | with_reducible exact rfl | assumption | decide) ?_ | with_reducible first | refine br_kt (by assumption) ?_ | refine br_kf (by assumption) ?_ | refine br_nt (by assumption) ?_ | refine br_nf (by assumption) ?_ | refine br_et (by assumption) ?_ | refine br_ef (by assumption) ?_); conv => whnf)
            | ((with_reducible first | refine br_dec (fun h => ?_) (fun h => ?_) | refine br_ndec (fun h => ?_) (fun h => ?_) | refine br_ne (fun h => ?_) (fun h => ?_) | refine br_eq (fun h => ?_) (fun h => ?_)) <;> first | (exfalso; omega) | conv => whnf)
            | (refine br_intro (fun h => ?_) (fun h => ?_) <;> conv => whnf)
            | ((first | refine need_in (by first | exact trivial | assumption | exact ⟨rfl, Nat.le_refl _⟩ | exact ⟨rfl, rfl⟩ | (simp only [inR]; omega) | omega | (simp only [roomP, true_and, and_true, List.length_take, List.length_drop, List.length_append, List.length_cons, List.length_nil, List.length_set, List.length_replicate]; omega) | (refine ⟨by first | exact trivial | rfl, by first | exact Nat.le_refl _ | omega | (simp; omega), ?_⟩; change roomP _ _ 1; simp only [roomP]; omega) | (change roomP _ _ 1; simp only [roomP]; omega) | (simp; omega) | (simp [inR]; omega) | (simp [inR]; done) | decide | (simp; done)) ?_ | refine idx_nat (by omega) (fun x hx => ?_) | refine frz_auto ?_ | refine draw_plain ?_ | refine idx_intro (by first | omega | (simp; omega) | (simp; done)) (by first | omega | (simp; omega) | (simp; done)) (fun x hx => ?_)); conv => whnf)
          rw [hd]; rfl
        | true =>
          have hk' : (!knownI x) = false := by rw [hk]; rfl
          conv => whnf
          repeat' first
            | ((first | refine idx_kn (by assumption) ?_ | refine idx_ki (by assumption) (by omega) ?_ | refine br_true (by first | with_reducible exact rfl | assumption | decide) ?_ | refine br_false (by first | with_reducible exact rfl | assumption | decide) ?_ | with_reducible first | refine br_kt (by assumption) ?_ | refine br_kf (by assumption) ?_ | refine br_nt (by assumption) ?_ | refine br_nf (by assumption) ?_ | refine br_et (by assumption) ?_ | refine br_ef (by assumption) ?_); conv => whnf)
            | ((with_reducible first | refine br_dec (fun h => ?_) (fun h => ?_) | refine br_ndec (fun h => ?_) (fun h => ?_) | refine br_ne (fun h => ?_) (fun h => ?_) | refine br_eq (fun h => ?_) (fun h => ?_)) <;> first | (exfalso; omega) | conv => whnf)
            | (refine br_intro (fun h => ?_) (fun h => ?_) <;> conv => whnf)
            | ((first | refine need_in (by first | exact trivial | assumption | exact ⟨rfl, Nat.le_refl _⟩ | exact ⟨rfl, rfl⟩ | (simp only [inR]; omega) | omega | (simp only [roomP, true_and, and_true, List.length_take, List.length_drop, List.length_append, List.length_cons, List.length_nil, List.length_set, List.length_replicate]; omega) | (refine ⟨by first | exact trivial | rfl, by first | exact Nat.le_refl _ | omega | (simp; omega), ?_⟩; change roomP _ _ 1; simp only [roomP]; omega) | (change roomP _ _ 1; simp only [roomP]; omega) | (simp; omega) | (simp [inR]; omega) | (simp [inR]; done) | decide | (simp; done)) ?_ | refine idx_nat (by omega) (fun x hx => ?_) | refine frz_auto ?_ | refine draw_plain ?_ | refine idx_intro (by first | omega | (simp; omega) | (simp; done)) (by first | omega | (simp; omega) | (simp; done)) (fun x hx => ?_)); conv => whnf)
          refine back_intro (by conv => whnf) rfl ⟨i + 1, rfl, rfl, by omega, fun y hy => ?_⟩ ?_
          · rw [List.take_add_one, hx] at hy
            rcases List.mem_append.1 hy with hy | hy
            · exact hall y hy
            · have : y = x := by simpa using hy
              rw [this]; exact hk
          · show ids.length - ((i : Int) + 1).toNat < ids.length - (i : Int).toNat
            omega
      · rw [List.take_of_length_le (by omega)] at hall
        have hd : dstL ids = (ddN (sortedI ids) ids.length, 0) := by
          unfold dstL
          rw [if_neg (by omega), if_neg]
          rw [List.all_eq_true.2 hall]; decide
        have hsl := sortedI_len ids
        have hF : ({ T := 3, t := .int .i64, l := ids } : FRes).l.length = ids.length := rfl
        by_cases h2 : (ids.length : Int) < 2
        · conv => whnf
          repeat' first
            | ((first | refine idx_kn (by assumption) ?_ | refine idx_ki (by assumption) (by omega) ?_ | refine br_true (by first | with_reducible exact rfl | assumption | decide) ?_ | refine br_false (by first | with_reducible exact rfl | assumption | decide) ?_ | with_reducible first | refine br_kt (by assumption) ?_ | refine br_kf (by assumption) ?_ | refine br_nt (by assumption) ?_ | refine br_nf (by assumption) ?_ | refine br_et (by assumption) ?_ | refine br_ef (by assumption) ?_); conv => whnf)
            | ((with_reducible first | refine br_dec (fun h => ?_) (fun h => ?_) | refine br_ndec (fun h => ?_) (fun h => ?_) | refine br_ne (fun h => ?_) (fun h => ?_) | refine br_eq (fun h => ?_) (fun h => ?_)) <;> first | (exfalso; omega) | conv => whnf)
            | (refine br_intro (fun h => ?_) (fun h => ?_) <;> conv => whnf)
            | ((first | refine need_in (by first | exact trivial | assumption | exact ⟨rfl, Nat.le_refl _⟩ | exact ⟨rfl, rfl⟩ | (simp only [inR]; omega) | omega | (simp only [roomP, true_and, and_true, List.length_take, List.length_drop, List.length_append, List.length_cons, List.length_nil, List.length_set, List.length_replicate]; omega) | (refine ⟨by first | exact trivial | rfl, by first | exact Nat.le_refl _ | omega | (simp; omega), ?_⟩; change roomP _ _ 1; simp only [roomP]; omega) | (change roomP _ _ 1; simp only [roomP]; omega) | (simp; omega) | (simp [inR]; omega) | (simp [inR]; done) | decide | (simp; done)) ?_ | refine idx_nat (by omega) (fun x hx => ?_) | refine frz_auto ?_ | refine draw_plain ?_ | refine idx_intro (by first | omega | (simp; omega) | (simp; done)) (by first | omega | (simp; omega) | (simp; done)) (fun x hx => ?_)); conv => whnf)
          rw [hd]
          refine tup_li ?_ rfl
          show List.take ids.length (sortedI ids) = ddN (sortedI ids) ids.length
          rw [List.take_of_length_le (by omega)]
          exact (ddN_short ⟨hsl, by omega⟩).symm
        · conv => whnf
          repeat' first
            | ((first | refine idx_kn (by assumption) ?_ | refine idx_ki (by assumption) (by omega) ?_ | refine br_true (by first | with_reducible exact rfl | assumption | decide) ?_ | refine br_false (by first | with_reducible exact rfl | assumption | decide) ?_ | with_reducible first | refine br_kt (by assumption) ?_ | refine br_kf (by assumption) ?_ | refine br_nt (by assumption) ?_ | refine br_nf (by assumption) ?_ | refine br_et (by assumption) ?_ | refine br_ef (by assumption) ?_); conv => whnf)
            | ((with_reducible first | refine br_dec (fun h => ?_) (fun h => ?_) | refine br_ndec (fun h => ?_) (fun h => ?_) | refine br_ne (fun h => ?_) (fun h => ?_) | refine br_eq (fun h => ?_) (fun h => ?_)) <;> first | (exfalso; omega) | conv => whnf)
            | (refine br_intro (fun h => ?_) (fun h => ?_) <;> conv => whnf)
            | ((first | refine need_in (by first | exact trivial | assumption | exact ⟨rfl, Nat.le_refl _⟩ | exact ⟨rfl, rfl⟩ | (simp only [inR]; omega) | omega | (simp only [roomP, true_and, and_true, List.length_take, List.length_drop, List.length_append, List.length_cons, List.length_nil, List.length_set, List.length_replicate]; omega) | (refine ⟨by first | exact trivial | rfl, by first | exact Nat.le_refl _ | omega | (simp; omega), ?_⟩; change roomP _ _ 1; simp only [roomP]; omega) | (change roomP _ _ 1; simp only [roomP]; omega) | (simp; omega) | (simp [inR]; omega) | (simp [inR]; done) | decide | (simp; done)) ?_ | refine idx_nat (by omega) (fun x hx => ?_) | refine frz_auto ?_ | refine draw_plain ?_ | refine idx_intro (by first | omega | (simp; omega) | (simp; done)) (by first | omega | (simp; omega) | (simp; done)) (fun x hx => ?_)); conv => whnf)
          refine loop_inv [] [3] (fun vs h => ∃ k : Nat, vs = [.int .i64 (k : Int)] ∧ h = [.arr 3 (.int .i64) [] false 0, .cells 29 [.lst (.int .i64) ids], .arr 3 (.int .i64) [] false 0, .arr 3 (.int .i64) (sortedI ids) false 0, .arr 3 (.int .i64) [] false 0] ∧ 1 ≤ k ∧ k ≤ ids.length ∧ ddN (sortedI ids) k = (sortedI ids).take k) (fun vs _ => match vs with | [.int _ k] => ids.length - k.toNat | _ => 0) ?_
          conv => whnf
          refine ⟨⟨1, rfl, rfl, by omega, by omega, ddN_one _⟩, ?_⟩
          rintro vs h' - ⟨k, rfl, rfl, hk1, hk2, hdd⟩
          generalize hL : sortedI ids = L at *
          by_cases hkl : k < ids.length
          · obtain ⟨x, hx⟩ : ∃ x : Int, (L : List Int)[k]? = some x := ⟨_, List.getElem?_eq_getElem (by omega)⟩
            obtain ⟨y, hy⟩ : ∃ y : Int, (L : List Int)[k - 1]? = some y := ⟨_, List.getElem?_eq_getElem (by omega)⟩
            have hy' : (L : List Int)[((k : Int) - 1).toNat]? = some y := by rw [show ((k : Int) - 1).toNat = k - 1 by omega]; exact hy
            by_cases hxy : x = y
            · conv => whnf
              repeat' first
                | ((first | refine idx_kn (by assumption) ?_ | refine idx_ki (by assumption) (by omega) ?_ | refine br_true (by first | with_reducible exact rfl | assumption | decide) ?_ | refine br_false (by first | with_reducible exact rfl | assumption | decide) ?_ | with_reducible first | refine br_kt (by assumption) ?_ | refine br_kf (by assumption) ?_ | refine br_nt (by assumption) ?_ | refine br_nf (by assumption) ?_ | refine br_et (by assumption) ?_ | refine br_ef (by assumption) ?_); conv => whnf)
                | ((with_reducible first | refine br_dec (fun h => ?_) (fun h => ?_) | refine br_ndec (fun h => ?_) (fun h => ?_) | refine br_ne (fun h => ?_) (fun h => ?_) | refine br_eq (fun h => ?_) (fun h => ?_)) <;> first | (exfalso; omega) | conv => whnf)
                | (refine br_intro (fun h => ?_) (fun h => ?_) <;> conv => whnf)
                | ((first | refine need_in (by first | exact trivial | assumption | exact ⟨rfl, Nat.le_refl _⟩ | exact ⟨rfl, rfl⟩ | (simp only [inR]; omega) | omega | (simp only [roomP, true_and, and_true, List.length_take, List.length_drop, List.length_append, List.length_cons, List.length_nil, List.length_set, List.length_replicate]; omega) | (refine ⟨by first | exact trivial | rfl, by first | exact Nat.le_refl _ | omega | (simp; omega), ?_⟩; change roomP _ _ 1; simp only [roomP]; omega) | (change roomP _ _ 1; simp only [roomP]; omega) | (simp; omega) | (simp [inR]; omega) | (simp [inR]; done) | decide | (simp; done)) ?_ | refine idx_nat (by omega) (fun x hx => ?_) | refine frz_auto ?_ | refine draw_plain ?_ | refine idx_intro (by first | omega | (simp; omega) | (simp; done)) (by first | omega | (simp; omega) | (simp; done)) (fun x hx => ?_)); conv => whnf)
              have hdk : ddN L (k + 1) = L.take k := by
                rw [ddN_succ, hdd, if_neg (fun e => by rcases e with e | e; omega; exact e (by rw [hx, hy, hxy]))]
                simp
              refine loop_inv [] [3, 5] (fun vs h => ∃ (q j : Nat) (A : List Int), vs = [.int .i64 (q : Int), .int .i64 (j : Int)] ∧ h = [.arr 3 (.int .i64) [] false 0, .cells 29 [.lst (.int .i64) ids], .arr 3 (.int .i64) [] false 0, .arr 3 (.int .i64) A false 0, .arr 3 (.int .i64) [] false 0] ∧ 1 ≤ j ∧ k + j ≤ ids.length ∧ k ≤ q ∧ q + 1 ≤ k + j ∧ A.length = ids.length ∧ A.take q = ddN L (k + j) ∧ (∀ i, k + j ≤ i + 1 → A[i]? = L[i]?)) (fun vs _ => match vs with | [_, .int _ j] => ids.length - j.toNat | _ => 0) ?_
              conv => whnf
              refine ⟨⟨k, 1, L, rfl, rfl, by omega, by omega, by omega, by omega, hsl, hdk.symm, fun i _ => rfl⟩, ?_⟩
              rintro vs h' - ⟨q, j, A, rfl, rfl, hj1, hj2, hq1, hq2, hAl, hAt, hAr⟩
              by_cases hjl : k + j < ids.length
              · obtain ⟨x2, hx2⟩ : ∃ x : Int, (L : List Int)[k + j]? = some x := ⟨_, List.getElem?_eq_getElem (by omega)⟩
                obtain ⟨y2, hy2⟩ : ∃ y : Int, (L : List Int)[k + j - 1]? = some y := ⟨_, List.getElem?_eq_getElem (by omega)⟩
                have hA1 : (A : List Int)[k + j]? = some x2 := (hAr _ (by omega)).trans hx2
                have hA2 : (A : List Int)[k + j - 1]? = some y2 := (hAr _ (by omega)).trans hy2
                have hA3 : (A : List Int)[(k : Int).toNat + ((j : Int) - 1).toNat]? = some y2 := by rw [show (k : Int).toNat + ((j : Int) - 1).toNat = k + j - 1 by omega]; exact hA2
                obtain ⟨z, hz⟩ : ∃ z : Int, (A : List Int)[(q : Int).toNat]? = some z := ⟨_, List.getElem?_eq_getElem (by omega)⟩
                by_cases hxy2 : x2 = y2
                · have hdj : ddN L (k + (j + 1)) = ddN L (k + j) := by
                    rw [show k + (j + 1) = k + j + 1 by omega, ddN_succ, if_neg (fun e => by rcases e with e | e; omega; exact e (by rw [hx2, hy2, hxy2]))]
                    simp
                  conv => whnf
                  repeat' first
                    | ((first | refine idx_kn (by assumption) ?_ | refine idx_ki (by assumption) (by omega) ?_ | refine br_true (by first | with_reducible exact rfl | assumption | decide) ?_ | refine br_false (by first | with_reducible exact rfl | assumption | decide) ?_ | with_reducible first | refine br_kt (by assumption) ?_ | refine br_kf (by assumption) ?_ | refine br_nt (by assumption) ?_ | refine br_nf (by assumption) ?_ | refine br_et (by assumption) ?_ | refine br_ef (by assumption) ?_); conv => whnf)
                    | ((with_reducible first | refine br_dec (fun h => ?_) (fun h => ?_) | refine br_ndec (fun h => ?_) (fun h => ?_) | refine br_ne (fun h => ?_) (fun h => ?_) | refine br_eq (fun h => ?_) (fun h => ?_)) <;> first | (exfalso; omega) | conv => whnf)
                    | (refine br_intro (fun h => ?_) (fun h => ?_) <;> conv => whnf)
                    | ((first | refine need_in (by first | exact trivial | assumption | exact ⟨rfl, Nat.le_refl _⟩ | exact ⟨rfl, rfl⟩ | (simp only [inR]; omega) | omega | (simp only [roomP, true_and, and_true, List.length_take, List.length_drop, List.length_append, List.length_cons, List.length_nil, List.length_set, List.length_replicate]; omega) | (refine ⟨by first | exact trivial | rfl, by first | exact Nat.le_refl _ | omega | (simp; omega), ?_⟩; change roomP _ _ 1; simp only [roomP]; omega) | (change roomP _ _ 1; simp only [roomP]; omega) | (simp; omega) | (simp [inR]; omega) | (simp [inR]; done) | decide | (simp; done)) ?_ | refine idx_nat (by omega) (fun x hx => ?_) | refine frz_auto ?_ | refine draw_plain ?_ | refine idx_intro (by first | omega | (simp; omega) | (simp; done)) (by first | omega | (simp; omega) | (simp; done)) (fun x hx => ?_)); conv => whnf)
                  refine back_intro (by conv => whnf) rfl ⟨q, j + 1, A, rfl, rfl, by omega, by omega, by omega, by omega, hAl, by rw [hdj]; exact hAt, fun i hi => hAr i (by omega)⟩ ?_
                  show ids.length - ((j : Int) + 1).toNat < ids.length - (j : Int).toNat
                  omega
                · have hdj : ddN L (k + (j + 1)) = ddN L (k + j) ++ [x2] := by
                    rw [show k + (j + 1) = k + j + 1 by omega, ddN_succ, if_pos (.inr (by rw [hx2, hy2]; intro e; cases e; exact hxy2 rfl)), hx2]
                    rfl
                  conv => whnf
                  repeat' first
                    | ((first | refine idx_kn (by assumption) ?_ | refine idx_ki (by assumption) (by omega) ?_ | refine br_true (by first | with_reducible exact rfl | assumption | decide) ?_ | refine br_false (by first | with_reducible exact rfl | assumption | decide) ?_ | with_reducible first | refine br_kt (by assumption) ?_ | refine br_kf (by assumption) ?_ | refine br_nt (by assumption) ?_ | refine br_nf (by assumption) ?_ | refine br_et (by assumption) ?_ | refine br_ef (by assumption) ?_); conv => whnf)
                    | ((with_reducible first | refine br_dec (fun h => ?_) (fun h => ?_) | refine br_ndec (fun h => ?_) (fun h => ?_) | refine br_ne (fun h => ?_) (fun h => ?_) | refine br_eq (fun h => ?_) (fun h => ?_)) <;> first | (exfalso; omega) | conv => whnf)
                    | (refine br_intro (fun h => ?_) (fun h => ?_) <;> conv => whnf)
                    | ((first | refine need_in (by first | exact trivial | assumption | exact ⟨rfl, Nat.le_refl _⟩ | exact ⟨rfl, rfl⟩ | (simp only [inR]; omega) | omega | (simp only [roomP, true_and, and_true, List.length_take, List.length_drop, List.length_append, List.length_cons, List.length_nil, List.length_set, List.length_replicate]; omega) | (refine ⟨by first | exact trivial | rfl, by first | exact Nat.le_refl _ | omega | (simp; omega), ?_⟩; change roomP _ _ 1; simp only [roomP]; omega) | (change roomP _ _ 1; simp only [roomP]; omega) | (simp; omega) | (simp [inR]; omega) | (simp [inR]; done) | decide | (simp; done)) ?_ | refine idx_nat (by omega) (fun x hx => ?_) | refine frz_auto ?_ | refine draw_plain ?_ | refine idx_intro (by first | omega | (simp; omega) | (simp; done)) (by first | omega | (simp; omega) | (simp; done)) (fun x hx => ?_)); conv => whnf)
                  refine back_intro (by conv => whnf) rfl ⟨q + 1, j + 1, A.set q x2, rfl, rfl, by omega, by omega, by omega, by omega, by rw [List.length_set]; exact hAl, ?_, fun i hi => ?_⟩ ?_
                  · rw [hdj, ← hAt]
                    rw [List.take_set, List.take_add_one, List.set_append_right _ _ (by rw [List.length_take]; omega)]
                    obtain ⟨z', hz'⟩ : ∃ z : Int, (A : List Int)[q]? = some z := ⟨_, List.getElem?_eq_getElem (by omega)⟩
                    rw [hz', List.length_take, Nat.min_eq_left (by omega), Nat.sub_self]
                    rfl
                  · rw [List.getElem?_set_ne (by omega)]
                    exact hAr i (by omega)
                  · show ids.length - ((j : Int) + 1).toNat < ids.length - (j : Int).toNat
                    omega
              · have hjn : k + j = ids.length := by omega
                conv => whnf
                repeat' first
                  | ((first | refine idx_kn (by assumption) ?_ | refine idx_ki (by assumption) (by omega) ?_ | refine br_true (by first | with_reducible exact rfl | assumption | decide) ?_ | refine br_false (by first | with_reducible exact rfl | assumption | decide) ?_ | with_reducible first | refine br_kt (by assumption) ?_ | refine br_kf (by assumption) ?_ | refine br_nt (by assumption) ?_ | refine br_nf (by assumption) ?_ | refine br_et (by assumption) ?_ | refine br_ef (by assumption) ?_); conv => whnf)
                  | ((with_reducible first | refine br_dec (fun h => ?_) (fun h => ?_) | refine br_ndec (fun h => ?_) (fun h => ?_) | refine br_ne (fun h => ?_) (fun h => ?_) | refine br_eq (fun h => ?_) (fun h => ?_)) <;> first | (exfalso; omega) | conv => whnf)
                  | (refine br_intro (fun h => ?_) (fun h => ?_) <;> conv => whnf)
                  | ((first | refine need_in (by first | exact trivial | assumption | exact ⟨rfl, Nat.le_refl _⟩ | exact ⟨rfl, rfl⟩ | (simp only [inR]; omega) | omega | (simp only [roomP, true_and, and_true, List.length_take, List.length_drop, List.length_append, List.length_cons, List.length_nil, List.length_set, List.length_replicate]; omega) | (refine ⟨by first | exact trivial | rfl, by first | exact Nat.le_refl _ | omega | (simp; omega), ?_⟩; change roomP _ _ 1; simp only [roomP]; omega) | (change roomP _ _ 1; simp only [roomP]; omega) | (simp; omega) | (simp [inR]; omega) | (simp [inR]; done) | decide | (simp; done)) ?_ | refine idx_nat (by omega) (fun x hx => ?_) | refine frz_auto ?_ | refine draw_plain ?_ | refine idx_intro (by first | omega | (simp; omega) | (simp; done)) (by first | omega | (simp; omega) | (simp; done)) (fun x hx => ?_)); conv => whnf)
                rw [hd]
                refine tup_li ?_ rfl
                rw [← hjn, ← hAt]
                simp only [cast_self, Int.toNat_natCast]
                rw [List.take_append_of_le_length (by rw [List.length_take]; omega), List.take_take, Nat.min_self]
            · have hdd' : ddN L (k + 1) = L.take (k + 1) := by
                rw [ddN_succ, hdd, if_pos (.inr (by rw [hx, hy]; intro e; cases e; exact hxy rfl)), hx, List.take_add_one, hx]
              conv => whnf
              repeat' first
                | ((first | refine idx_kn (by assumption) ?_ | refine idx_ki (by assumption) (by omega) ?_ | refine br_true (by first | with_reducible exact rfl | assumption | decide) ?_ | refine br_false (by first | with_reducible exact rfl | assumption | decide) ?_ | with_reducible first | refine br_kt (by assumption) ?_ | refine br_kf (by assumption) ?_ | refine br_nt (by assumption) ?_ | refine br_nf (by assumption) ?_ | refine br_et (by assumption) ?_ | refine br_ef (by assumption) ?_); conv => whnf)
                | ((with_reducible first | refine br_dec (fun h => ?_) (fun h => ?_) | refine br_ndec (fun h => ?_) (fun h => ?_) | refine br_ne (fun h => ?_) (fun h => ?_) | refine br_eq (fun h => ?_) (fun h => ?_)) <;> first | (exfalso; omega) | conv => whnf)
                | (refine br_intro (fun h => ?_) (fun h => ?_) <;> conv => whnf)
                | ((first | refine need_in (by first | exact trivial | assumption | exact ⟨rfl, Nat.le_refl _⟩ | exact ⟨rfl, rfl⟩ | (simp only [inR]; omega) | omega | (simp only [roomP, true_and, and_true, List.length_take, List.length_drop, List.length_append, List.length_cons, List.length_nil, List.length_set, List.length_replicate]; omega) | (refine ⟨by first | exact trivial | rfl, by first | exact Nat.le_refl _ | omega | (simp; omega), ?_⟩; change roomP _ _ 1; simp only [roomP]; omega) | (change roomP _ _ 1; simp only [roomP]; omega) | (simp; omega) | (simp [inR]; omega) | (simp [inR]; done) | decide | (simp; done)) ?_ | refine idx_nat (by omega) (fun x hx => ?_) | refine frz_auto ?_ | refine draw_plain ?_ | refine idx_intro (by first | omega | (simp; omega) | (simp; done)) (by first | omega | (simp; omega) | (simp; done)) (fun x hx => ?_)); conv => whnf)
              refine back_intro (by conv => whnf) rfl ⟨k + 1, rfl, rfl, by omega, by omega, hdd'⟩ ?_
              show ids.length - ((k : Int) + 1).toNat < ids.length - (k : Int).toNat
              omega
          · conv => whnf
            repeat' first
              | ((first | refine idx_kn (by assumption) ?_ | refine idx_ki (by assumption) (by omega) ?_ | refine br_true (by first | with_reducible exact rfl | assumption | decide) ?_ | refine br_false (by first | with_reducible exact rfl | assumption | decide) ?_ | with_reducible first | refine br_kt (by assumption) ?_ | refine br_kf (by assumption) ?_ | refine br_nt (by assumption) ?_ | refine br_nf (by assumption) ?_ | refine br_et (by assumption) ?_ | refine br_ef (by assumption) ?_); conv => whnf)
              | ((with_reducible first | refine br_dec (fun h => ?_) (fun h => ?_) | refine br_ndec (fun h => ?_) (fun h => ?_) | refine br_ne (fun h => ?_) (fun h => ?_) | refine br_eq (fun h => ?_) (fun h => ?_)) <;> first | (exfalso; omega) | conv => whnf)
              | (refine br_intro (fun h => ?_) (fun h => ?_) <;> conv => whnf)
              | ((first | refine need_in (by first | exact trivial | assumption | exact ⟨rfl, Nat.le_refl _⟩ | exact ⟨rfl, rfl⟩ | (simp only [inR]; omega) | omega | (simp only [roomP, true_and, and_true, List.length_take, List.length_drop, List.length_append, List.length_cons, List.length_nil, List.length_set, List.length_replicate]; omega) | (refine ⟨by first | exact trivial | rfl, by first | exact Nat.le_refl _ | omega | (simp; omega), ?_⟩; change roomP _ _ 1; simp only [roomP]; omega) | (change roomP _ _ 1; simp only [roomP]; omega) | (simp; omega) | (simp [inR]; omega) | (simp [inR]; done) | decide | (simp; done)) ?_ | refine idx_nat (by omega) (fun x hx => ?_) | refine frz_auto ?_ | refine draw_plain ?_ | refine idx_intro (by first | omega | (simp; omega) | (simp; done)) (by first | omega | (simp; omega) | (simp; done)) (fun x hx => ?_)); conv => whnf)
            rw [hd]
            refine tup_li ?_ rfl
            show List.take ids.length L = ddN L ids.length
            have hkn : k = ids.length := by omega
            rw [← hkn, hdd]
  · cases h
end Go.Proofs.Ytadckioheabliaa
