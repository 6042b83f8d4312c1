/-
  What the reference says of a list of entries.
  What the reference says of the order of entries.
  What the reference says of lists of entries in order.
  What the reference says of sorting, of the newest ones.
-/
import Derived.Test.YtekkeajcmibbaaaE2
import Derived.Test.YtekkeajcmibbaaaE4
import Derived.Test.YtekkeajcmibbaaaLx
namespace Go.Proofs.Ytekkeajcmibbaaa
open Av

def errAll (l : List entT.El) : Int := if 5000 < l.length then 3 else errGo l
def spAll : DSpec
  | [.lst (.st [.str, .str, .bool, .int .i64]) l] => some (True, .int .i64 (errAll l))
  | _ => none
set_option maxRecDepth 100000 in
theorem fnOk_refAll : FnOk Try.prog 98 Try.f98 := ⟨by rfl, by kernel_rfl, by
  show okCode _ _ = true ∧ drawsOk _ = true
  exact ⟨by kernel_rfl, by kernel_rfl⟩⟩
noncomputable def cx1 : Cx := ⟨tb, [], [(32, spCheck)]⟩
theorem specs1 : SpecsOk Try.prog cx1.specs := .cons refCheck_ok .nil
set_option maxRecDepth 100000 in
set_option maxHeartbeats 2000000 in
theorem refAll_ok : SpecOk Try.prog 98 spAll := by
  refine spec_body (C := cx1) mixed tbOk specs1 (callN_ok (C := cx1) mixed tbOk specs1 FnsOk.nil 0) fnOk_refAll ?_
  intro ys p r h hp
  unfold spAll at h
  split at h
  · rename_i l
    cases h
    conv => whnf
    repeat' first
      | ((first | refine br_true (by first | with_reducible exact rfl | assumption | decide) ?_ | refine br_false (by first | with_reducible exact rfl | assumption | decide) ?_ | with_reducible first | refine br_kt (by assumption) ?_ | refine br_kf (by assumption) ?_ | refine br_nt (by assumption) ?_ | refine br_nf (by assumption) ?_ | refine br_et (by assumption) ?_ | refine br_ef (by assumption) ?_); conv => whnf)
      | ((with_reducible first | refine br_dec (fun h => ?_) (fun h => ?_) | refine br_ndec (fun h => ?_) (fun h => ?_) | refine br_ne (fun h => ?_) (fun h => ?_) | refine br_eq (fun h => ?_) (fun h => ?_)) <;> first | (exfalso; omega) | conv => whnf)
      | (refine br_intro (fun h => ?_) (fun h => ?_) <;> conv => whnf)
      | ((first | refine need_in (by first | exact trivial | assumption | exact ⟨rfl, Nat.le_refl _⟩ | exact ⟨rfl, rfl⟩ | (simp only [inR]; omega) | omega | (simp only [roomP, true_and, and_true, List.length_take, List.length_drop, List.length_append, List.length_cons, List.length_nil, List.length_set, List.length_replicate]; omega) | (refine ⟨by first | exact trivial | rfl, by first | exact Nat.le_refl _ | omega | (simp; omega), ?_⟩; change roomP _ _ 1; simp only [roomP]; omega) | (change roomP _ _ 1; simp only [roomP]; omega) | (simp; omega) | (simp [inR]; omega) | (simp [inR]; done) | decide | (simp; done)) ?_ | refine idx_nat (by omega) (fun x hx => ?_) | refine frz_auto ?_ | refine draw_plain ?_ | refine idx_intro (by first | omega | (simp; omega) | (simp; done)) (by first | omega | (simp; omega) | (simp; done)) (fun x hx => ?_)); conv => whnf)
    · refine congrArg (AV.int .i64) ?_
      rw [errAll, if_pos (by omega)]
    · refine loop_inv [] [3] (fun vs h => ∃ i : Nat, vs = [.int .i64 (i : Int)] ∧ h = [] ∧ i ≤ l.length ∧ ∀ x ∈ l.take i, errX x = 0) (fun vs _ => match vs with | [.int _ k] => l.length - k.toNat | _ => 0) ?_
      refine ⟨⟨0, rfl, rfl, by omega, by simp⟩, ?_⟩
      rintro vs h' - ⟨i, rfl, rfl, hi, hall⟩
      conv => whnf
      repeat' first
        | ((first | refine br_true (by first | with_reducible exact rfl | assumption | decide) ?_ | refine br_false (by first | with_reducible exact rfl | assumption | decide) ?_ | with_reducible first | refine br_kt (by assumption) ?_ | refine br_kf (by assumption) ?_ | refine br_nt (by assumption) ?_ | refine br_nf (by assumption) ?_ | refine br_et (by assumption) ?_ | refine br_ef (by assumption) ?_); conv => whnf)
        | ((with_reducible first | refine br_dec (fun h => ?_) (fun h => ?_) | refine br_ndec (fun h => ?_) (fun h => ?_) | refine br_ne (fun h => ?_) (fun h => ?_) | refine br_eq (fun h => ?_) (fun h => ?_)) <;> first | (exfalso; omega) | conv => whnf)
        | (refine br_intro (fun h => ?_) (fun h => ?_) <;> conv => whnf)
        | ((first | refine need_in (by first | exact trivial | assumption | exact ⟨rfl, Nat.le_refl _⟩ | exact ⟨rfl, rfl⟩ | (simp only [inR]; omega) | omega | (simp only [roomP, true_and, and_true, List.length_take, List.length_drop, List.length_append, List.length_cons, List.length_nil, List.length_set, List.length_replicate]; omega) | (refine ⟨by first | exact trivial | rfl, by first | exact Nat.le_refl _ | omega | (simp; omega), ?_⟩; change roomP _ _ 1; simp only [roomP]; omega) | (change roomP _ _ 1; simp only [roomP]; omega) | (simp; omega) | (simp [inR]; omega) | (simp [inR]; done) | decide | (simp; done)) ?_ | refine idx_nat (by omega) (fun x hx => ?_) | refine frz_auto ?_ | refine draw_plain ?_ | refine idx_intro (by first | omega | (simp; omega) | (simp; done)) (by first | omega | (simp; omega) | (simp; done)) (fun x hx => ?_)); conv => whnf)
      · refine congrArg (AV.int .i64) ?_
        rw [errAll, if_neg (by omega)]
        exact (errGo_at l i x hall hx h).symm
      · refine back_intro (by conv => whnf) rfl ⟨i + 1, rfl, rfl, by omega, take_succ_all hall hx h⟩ ?_
        show l.length - ((i : Int) + 1).toNat < l.length - (i : Int).toNat
        omega
      · refine congrArg (AV.int .i64) ?_
        rw [errAll, if_neg (by omega)]
        refine (errGo_zero l (fun y hy => hall y ?_)).symm
        rw [show i = l.length by omega, List.take_length]
        exact hy
  · cases h
end Go.Proofs.Ytekkeajcmibbaaa
namespace Go.Proofs.Ytekkeajcmibbaaa
open Av Bk

def ordE (k : ByteArray) (s : Int) (k' : ByteArray) (s' : Int) : Int := if ordL k.data.toList k'.data.toList ≠ 0 then ordL k.data.toList k'.data.toList else if s' < s then -1 else if s < s' then 1 else 0
def spOrdE : DSpec
  | [.agg [.str k, .str _, .bool _, .int .i64 s], .agg [.str k', .str _, .bool _, .int .i64 s']] => some ((k.size : Int) ≤ 9223372036854775807, .int .i64 (ordE k s k' s'))
  | _ => none
set_option maxRecDepth 100000 in
theorem fnOk_refOrdE : FnOk Try.prog 111 Try.f111 := ⟨by rfl, by kernel_rfl, by
  show okCode _ _ = true ∧ drawsOk _ = true
  exact ⟨by kernel_rfl, by kernel_rfl⟩⟩
noncomputable def cx3 : Cx := ⟨tb, [], [(60, spOrder)]⟩
theorem specs3 : SpecsOk Try.prog cx3.specs := .cons refOrder_ok .nil
set_option maxRecDepth 100000 in
set_option maxHeartbeats 2000000 in
theorem refOrdE_ok : SpecOk Try.prog 111 spOrdE := by
  refine spec_body (C := cx3) mixed tbOk specs3 (callN_ok (C := cx3) mixed tbOk specs3 FnsOk.nil 0) fnOk_refOrdE ?_
  intro ys p r h hp
  unfold spOrdE at h
  split at h
  · rename_i k v d s k' v' d' s'
    cases h
    conv => whnf
    refine need_in hp ?_
    conv => whnf
    repeat' first
      | ((first | refine br_true (by first | with_reducible exact rfl | assumption | decide) ?_ | refine br_false (by first | with_reducible exact rfl | assumption | decide) ?_ | with_reducible first | refine br_kt (by assumption) ?_ | refine br_kf (by assumption) ?_ | refine br_nt (by assumption) ?_ | refine br_nf (by assumption) ?_ | refine br_et (by assumption) ?_ | refine br_ef (by assumption) ?_); conv => whnf)
      | ((with_reducible first | refine br_dec (fun h => ?_) (fun h => ?_) | refine br_ndec (fun h => ?_) (fun h => ?_) | refine br_ne (fun h => ?_) (fun h => ?_) | refine br_eq (fun h => ?_) (fun h => ?_)) <;> first | (exfalso; omega) | conv => whnf)
      | (refine br_intro (fun h => ?_) (fun h => ?_) <;> conv => whnf)
      | ((first | refine need_in (by first | exact trivial | assumption | exact ⟨rfl, Nat.le_refl _⟩ | exact ⟨rfl, rfl⟩ | (simp only [inR]; omega) | omega | (simp only [roomP, true_and, and_true, List.length_take, List.length_drop, List.length_append, List.length_cons, List.length_nil, List.length_set, List.length_replicate]; omega) | (refine ⟨by first | exact trivial | rfl, by first | exact Nat.le_refl _ | omega | (simp; omega), ?_⟩; change roomP _ _ 1; simp only [roomP]; omega) | (change roomP _ _ 1; simp only [roomP]; omega) | (simp; omega) | (simp [inR]; omega) | (simp [inR]; done) | decide | (simp; done)) ?_ | refine idx_nat (by omega) (fun x hx => ?_) | refine frz_auto ?_ | refine draw_plain ?_ | refine idx_intro (by first | omega | (simp; omega) | (simp; done)) (by first | omega | (simp; omega) | (simp; done)) (fun x hx => ?_)); conv => whnf)
    all_goals refine congrArg (AV.int .i64) ?_
    all_goals unfold ordE
    all_goals first
      | rw [if_pos (by assumption)]
      | rw [if_neg (fun e => e (by assumption)), if_pos (by omega)]
      | rw [if_neg (fun e => e (by assumption)), if_neg (by omega), if_pos (by omega)]
      | rw [if_neg (fun e => e (by assumption)), if_neg (by omega), if_neg (by omega)]
  · cases h
end Go.Proofs.Ytekkeajcmibbaaa
namespace Go.Proofs.Ytekkeajcmibbaaa
open Av Bk

def ordX (x y : entT.El) : Int := ordE x.1 x.2.2.2.1 y.1 y.2.2.2.1
def atGo (out : List entT.El) (x : entT.El) : Nat → Nat
  | 0 => 0
  | n + 1 => match out[n]? with
    | some y => if 0 < ordX y x then atGo out x n else n + 1
    | none => n + 1
def insX (out : List entT.El) (x : entT.El) : List entT.El := out.take (atGo out x out.length) ++ x :: out.drop (atGo out x out.length)
def sortX (l : List entT.El) : List entT.El := l.foldl insX []
theorem atGo_le (out : List entT.El) (x : entT.El) : ∀ n, atGo out x n ≤ n
  | 0 => Nat.le_refl _
  | n + 1 => by
    simp only [atGo]
    split
    · split
      · have := atGo_le out x n; omega
      · exact Nat.le_refl _
    · exact Nat.le_refl _
theorem insX_len (out : List entT.El) (x : entT.El) : (insX out x).length = out.length + 1 := by
  have := atGo_le out x out.length
  simp only [insX, List.length_append, List.length_take, List.length_cons, List.length_drop]
  omega
theorem insX_mem {out : List entT.El} {x y : entT.El} : y ∈ insX out x ↔ y = x ∨ y ∈ out := by
  simp only [insX, List.mem_append, List.mem_cons]
  conv => rhs; rw [← List.take_append_drop (atGo out x out.length) out, List.mem_append]
  constructor
  · rintro (h | h | h)
    · exact .inr (.inl h)
    · exact .inl h
    · exact .inr (.inr h)
  · rintro (h | h | h)
    · exact .inr (.inl h)
    · exact .inl h
    · exact .inr (.inr h)
theorem fold_mem : ∀ (l out : List entT.El) (y : entT.El), y ∈ l.foldl insX out ↔ y ∈ l ∨ y ∈ out
  | [], out, y => by simp
  | x :: l, out, y => by
    rw [List.foldl_cons, fold_mem l, insX_mem, List.mem_cons]
    constructor
    · rintro (h | h | h)
      · exact .inl (.inr h)
      · exact .inl (.inl h)
      · exact .inr h
    · rintro ((h | h) | h)
      · exact .inr (.inl h)
      · exact .inl h
      · exact .inr (.inr h)
theorem sortX_mem {l : List entT.El} {y : entT.El} : y ∈ sortX l ↔ y ∈ l := by
  unfold sortX
  rw [fold_mem]; simp
theorem fold_len : ∀ (l out : List entT.El), (l.foldl insX out).length = out.length + l.length
  | [], out => by simp
  | x :: l, out => by rw [List.foldl_cons, fold_len l, insX_len, List.length_cons]; omega
theorem sortX_len (l : List entT.El) : (sortX l).length = l.length := by rw [sortX, fold_len]; simp
theorem sortX_take {l : List entT.El} {i : Nat} {x : entT.El} (hx : l[i]? = some x) : sortX (l.take (i + 1)) = insX (sortX (l.take i)) x := by
  unfold sortX
  rw [List.take_add_one, hx, List.foldl_append]
  rfl
theorem ins_at {out A : List entT.El} {x : entT.El} {j : Nat} (h : atGo out x out.length = j) (hA : A = out.take j ++ x :: out.drop j) : A = insX out x := by rw [hA, insX, h]
theorem atGo_step {out : List entT.El} {x y : entT.El} {j : Nat} (hj : 0 < j) (hy : out[j - 1]? = some y) : atGo out x j = if 0 < ordX y x then atGo out x (j - 1) else j := by
  obtain ⟨k, rfl⟩ : ∃ k, j = k + 1 := ⟨j - 1, by omega⟩
  have hy : out[k]? = some y := hy
  simp only [atGo, hy, Nat.add_sub_cancel]
def spSorted : DSpec
  | [.lst (.st [.str, .str, .bool, .int .i64]) l] => some (l.length ≤ 100000 ∧ ∀ x ∈ l, (x.1.size : Int) ≤ 9223372036854775807, .lst entT (sortX l))
  | _ => none
set_option maxRecDepth 100000 in
theorem fnOk_refSorted : FnOk Try.prog 99 Try.f99 := ⟨by rfl, by kernel_rfl, by
  show okCode _ _ = true ∧ drawsOk _ = true
  exact ⟨by kernel_rfl, by kernel_rfl⟩⟩
noncomputable def cqb1 : Cx := ⟨tb, [], [(111, spOrdE)]⟩
theorem spqb1 : SpecsOk Try.prog cqb1.specs := .cons refOrdE_ok .nil
set_option maxRecDepth 100000 in

set_option maxHeartbeats 2000000 in
theorem refSorted_ok : SpecOk Try.prog 99 spSorted := by
  refine spec_body (C := cqb1) mixed tbOk spqb1 (callN_ok (C := cqb1) mixed tbOk spqb1 FnsOk.nil 0) fnOk_refSorted ?_
  intro ys p r h hp
  unfold spSorted at h
  split at h
  · rename_i l
    cases h
    obtain ⟨hlen, hsz⟩ := hp
    conv => whnf
    refine loop_inv [.lst 3 entT] [3, 4] (fun vs h => ∃ i : Nat, vs = [.lst entT (sortX (l.take i)), .int .i64 (i : Int)] ∧ h = [.arr 29 entT [] false 0, .dead] ∧ i ≤ l.length) (fun vs _ => match vs with | [_, .int _ k] => l.length - k.toNat | _ => 0) ?_
    conv => whnf
    refine need_in ⟨rfl, Nat.le_refl _⟩ ?_
    conv => whnf
    refine ⟨⟨0, rfl, rfl, Nat.zero_le _⟩, ?_⟩
    rintro vs h' - ⟨i, rfl, rfl, hi⟩
    have hso := sortX_len (l.take i)
    have htk : (l.take i).length = i := by rw [List.length_take]; omega
    rw [htk] at hso
    conv => whnf
    repeat' first
      | ((first | refine br_true (by first | with_reducible exact rfl | assumption | decide) ?_ | refine br_false (by first | with_reducible exact rfl | assumption | decide) ?_ | with_reducible first | refine br_kt (by assumption) ?_ | refine br_kf (by assumption) ?_ | refine br_nt (by assumption) ?_ | refine br_nf (by assumption) ?_ | refine br_et (by assumption) ?_ | refine br_ef (by assumption) ?_); conv => whnf)
      | ((with_reducible first | refine br_dec (fun h => ?_) (fun h => ?_) | refine br_ndec (fun h => ?_) (fun h => ?_) | refine br_ne (fun h => ?_) (fun h => ?_) | refine br_eq (fun h => ?_) (fun h => ?_)) <;> first | (exfalso; omega) | conv => whnf)
      | (refine br_intro (fun h => ?_) (fun h => ?_) <;> conv => whnf)
      | ((first | refine need_in (by first | exact trivial | assumption | exact ⟨rfl, Nat.le_refl _⟩ | exact ⟨rfl, rfl⟩ | (simp only [inR]; omega) | omega | (simp only [roomP, true_and, and_true, List.length_take, List.length_drop, List.length_append, List.length_cons, List.length_nil, List.length_set, List.length_replicate]; omega) | (refine ⟨by first | exact trivial | rfl, by first | exact Nat.le_refl _ | omega | (simp; omega), ?_⟩; change roomP _ _ 1; simp only [roomP]; omega) | (change roomP _ _ 1; simp only [roomP]; omega) | (simp; omega) | (simp [inR]; omega) | (simp [inR]; done) | decide | (simp; done)) ?_ | refine idx_nat (by omega) (fun x hx => ?_) | refine frz_auto ?_ | refine draw_plain ?_ | refine idx_intro (by first | omega | (simp; omega) | (simp; done)) (by first | omega | (simp; omega) | (simp; done)) (fun x hx => ?_)); conv => whnf)
    refine loop_inv [] [5] (fun vs h => ∃ j : Nat, vs = [.int .i64 (j : Int)] ∧ h = [.arr 29 entT [] false 0, .dead] ∧ j ≤ i ∧ atGo (sortX (l.take i)) (l[i]'(by omega)) i = atGo (sortX (l.take i)) (l[i]'(by omega)) j) (fun vs _ => match vs with | [.int _ k] => k.toNat | _ => 0) ?_
    refine ⟨⟨i, congrArg (fun n : Nat => [AV.int .i64 (n : Int)]) hso, rfl, Nat.le_refl _, rfl⟩, ?_⟩
    rintro vs h' - ⟨j, rfl, rfl, hj, hat⟩
    conv => whnf
    repeat' first
      | ((first | refine br_true (by first | with_reducible exact rfl | assumption | decide) ?_ | refine br_false (by first | with_reducible exact rfl | assumption | decide) ?_ | with_reducible first | refine br_kt (by assumption) ?_ | refine br_kf (by assumption) ?_ | refine br_nt (by assumption) ?_ | refine br_nf (by assumption) ?_ | refine br_et (by assumption) ?_ | refine br_ef (by assumption) ?_); conv => whnf)
      | ((with_reducible first | refine br_dec (fun h => ?_) (fun h => ?_) | refine br_ndec (fun h => ?_) (fun h => ?_) | refine br_ne (fun h => ?_) (fun h => ?_) | refine br_eq (fun h => ?_) (fun h => ?_)) <;> first | (exfalso; omega) | conv => whnf)
      | (refine br_intro (fun h => ?_) (fun h => ?_) <;> conv => whnf)
      | ((first | refine need_in (by first | exact trivial | assumption | exact ⟨rfl, Nat.le_refl _⟩ | exact ⟨rfl, rfl⟩ | (simp only [inR]; omega) | omega | (simp only [roomP, true_and, and_true, List.length_take, List.length_drop, List.length_append, List.length_cons, List.length_nil, List.length_set, List.length_replicate]; omega) | (refine ⟨by first | exact trivial | rfl, by first | exact Nat.le_refl _ | omega | (simp; omega), ?_⟩; change roomP _ _ 1; simp only [roomP]; omega) | (change roomP _ _ 1; simp only [roomP]; omega) | (simp; omega) | (simp [inR]; omega) | (simp [inR]; done) | decide | (simp; done)) ?_ | refine idx_nat (by omega) (fun x hx => ?_) | refine frz_auto ?_ | refine draw_plain ?_ | refine idx_intro (by first | omega | (simp; omega) | (simp; done)) (by first | omega | (simp; omega) | (simp; done)) (fun x hx => ?_)); conv => whnf)
    · rename_i y hy
      have hym : y ∈ l := List.mem_of_mem_take (sortX_mem.1 (List.mem_of_getElem? hy))
      refine need_in (hsz y hym) ?_
      conv => whnf
      have hx0 : l[i]'(by omega) = x := by rw [List.getElem?_eq_getElem (by omega)] at hx; exact Option.some.inj hx
      have hj1 : ((j : Int) - 1).toNat = j - 1 := by omega
      rw [hx0] at hat
      rw [hj1] at hy
      have hst := atGo_step (x := x) (by omega) hy
      repeat' first
        | ((first | refine br_true (by first | with_reducible exact rfl | assumption | decide) ?_ | refine br_false (by first | with_reducible exact rfl | assumption | decide) ?_ | with_reducible first | refine br_kt (by assumption) ?_ | refine br_kf (by assumption) ?_ | refine br_nt (by assumption) ?_ | refine br_nf (by assumption) ?_ | refine br_et (by assumption) ?_ | refine br_ef (by assumption) ?_); conv => whnf)
        | ((with_reducible first | refine br_dec (fun h => ?_) (fun h => ?_) | refine br_ndec (fun h => ?_) (fun h => ?_) | refine br_ne (fun h => ?_) (fun h => ?_) | refine br_eq (fun h => ?_) (fun h => ?_)) <;> first | (exfalso; omega) | conv => whnf)
        | (refine br_intro (fun h => ?_) (fun h => ?_) <;> conv => whnf)
        | ((first | refine need_in (by first | exact trivial | assumption | exact ⟨rfl, Nat.le_refl _⟩ | exact ⟨rfl, rfl⟩ | (simp only [inR]; omega) | omega | (simp only [roomP, true_and, and_true, List.length_take, List.length_drop, List.length_append, List.length_cons, List.length_nil, List.length_set, List.length_replicate]; omega) | (refine ⟨by first | exact trivial | rfl, by first | exact Nat.le_refl _ | omega | (simp; omega), ?_⟩; change roomP _ _ 1; simp only [roomP]; omega) | (change roomP _ _ 1; simp only [roomP]; omega) | (simp; omega) | (simp [inR]; omega) | (simp [inR]; done) | decide | (simp; done)) ?_ | refine idx_nat (by omega) (fun x hx => ?_) | refine frz_auto ?_ | refine draw_plain ?_ | refine idx_intro (by first | omega | (simp; omega) | (simp; done)) (by first | omega | (simp; omega) | (simp; done)) (fun x hx => ?_)); conv => whnf)
      · refine back_intro (by conv => whnf) rfl ⟨j - 1, congrArg (fun z : Int => [AV.int .i64 z]) (by omega), rfl, by omega, ?_⟩ ?_
        · rw [hx0, hat, hst]; exact if_pos h
        · show ((j : Int) - 1).toNat < (j : Int).toNat
          omega
      · rename_i x1 hx1
        obtain rfl : x1 = x := Option.some.inj (hx1.symm.trans hx)
        refine back_intro (by conv => whnf) rfl ⟨i + 1, ?_, rfl, by omega⟩ ?_
        · refine two_eq (Eq.trans (ins_at (x := x1) (j := j) ?_ ?_) (sortX_take hx).symm)
          · rw [hso, hat, hst]; exact if_neg h
          · simp [cast_self, List.take_of_length_le]; exact app_fin
        · show l.length - ((i : Int) + 1).toNat < l.length - (i : Int).toNat
          omega
    · have hx0 : l[i]'(by omega) = x := by rw [List.getElem?_eq_getElem (by omega)] at hx; exact Option.some.inj hx
      rw [hx0] at hat
      refine back_intro (by conv => whnf) rfl ⟨i + 1, ?_, rfl, by omega⟩ ?_
      · refine two_eq (Eq.trans (ins_at (x := x) (j := j) ?_ ?_) (sortX_take hx).symm)
        · rw [hso, hat, show j = 0 by omega]; rfl
        · simp [cast_self, List.take_of_length_le]; exact app_fin
      · show l.length - ((i : Int) + 1).toNat < l.length - (i : Int).toNat
        omega
    · have e : i = l.length := by omega
      rw [e, List.take_length]
  · cases h
end Go.Proofs.Ytekkeajcmibbaaa
namespace Go.Proofs.Ytekkeajcmibbaaa
open Av Bk

/-- What is kept of entries, one by one: the list, whether there was an entry, its key. -/
def nwStep (b : Bool) (st : List entT.El × Bool × ByteArray) (x : entT.El) : List entT.El × Bool × ByteArray :=
  (bif (st.2.1 && sEq x.1 st.2.2) || (b && x.2.2.1) then st.1 else st.1 ++ [x], true, x.1)
def nwF (b : Bool) (l : List entT.El) : List entT.El × Bool × ByteArray := l.foldl (nwStep b) ([], false, ⟨#[]⟩)
theorem nwF_take {b : Bool} {l : List entT.El} {i : Nat} {x : entT.El} (hx : l[i]? = some x) : nwF b (l.take (i + 1)) = nwStep b (nwF b (l.take i)) x := by
  unfold nwF
  rw [List.take_add_one, hx, List.foldl_append]
  rfl
theorem nw_len (b : Bool) : ∀ (l : List entT.El) (st : List entT.El × Bool × ByteArray), (l.foldl (nwStep b) st).1.length ≤ st.1.length + l.length
  | [], st => by simp
  | x :: l, st => by
    rw [List.foldl_cons]
    have := nw_len b l (nwStep b st x)
    have h : (nwStep b st x).1.length ≤ st.1.length + 1 := by
      unfold nwStep
      simp only
      cases (st.2.1 && sEq x.1 st.2.2) || (b && x.2.2.1) <;> simp
    simp only [List.length_cons]
    omega
theorem errAll_mem {l : List entT.El} (h : errAll l = 0) : l.length ≤ 5000 ∧ ∀ x ∈ l, errX x = 0 := by
  unfold errAll at h
  split at h
  · cases h
  · rename_i h5
    refine And.intro (by omega) ?_
    clear h5
    induction l with
    | nil => simp
    | cons y l ih =>
      simp only [errGo] at h
      split at h
      · rename_i hy
        intro x hx
        rcases List.mem_cons.1 hx with rfl | hx
        · exact hy
        · exact ih h x hx
      · rename_i hy; exact absurd h hy
set_option maxRecDepth 100000 in
theorem fnOk_refSort : FnOk Try.prog 84 Try.f84 := ⟨by rfl, by kernel_rfl, by
  show okCode _ _ = true ∧ drawsOk _ = true
  exact ⟨by kernel_rfl, by kernel_rfl⟩⟩
noncomputable def cqc1 : Cx := ⟨tb, [], [(98, spAll), (99, spSorted)]⟩
theorem spqc1 : SpecsOk Try.prog cqc1.specs := .cons refAll_ok (.cons refSorted_ok .nil)
def spSort : DSpec
  | [.lst (.st [.str, .str, .bool, .int .i64]) l] => some (True, .tup [.lst entT (if errAll l = 0 then sortX l else []), .int .i64 (errAll l)])
  | _ => none
set_option maxRecDepth 100000 in
set_option maxHeartbeats 2000000 in
theorem refSort_ok : SpecOk Try.prog 84 spSort := by
  refine spec_body (C := cqc1) mixed tbOk spqc1 (callN_ok (C := cqc1) mixed tbOk spqc1 FnsOk.nil 0) fnOk_refSort ?_
  intro ys p r h hp
  unfold spSort at h
  split at h
  · rename_i l
    cases h
    by_cases hE : errAll l = 0
    · obtain ⟨h1, h2⟩ := errAll_mem hE
      have hP : l.length ≤ 100000 ∧ ∀ x ∈ (l : List entT.El), (x.1.size : Int) ≤ 9223372036854775807 := ⟨by omega, fun x hx => errX_key (h2 x hx)⟩
      conv => whnf
      repeat' first
        | ((first | refine idx_kn (by assumption) ?_ | refine idx_ki (by assumption) (by omega) ?_ | refine br_true (by first | with_reducible exact rfl | assumption | decide) ?_ | refine br_false (by first | with_reducible exact rfl | assumption | decide) ?_ | with_reducible first | refine br_kt (by assumption) ?_ | refine br_kf (by assumption) ?_ | refine br_nt (by assumption) ?_ | refine br_nf (by assumption) ?_ | refine br_et (by assumption) ?_ | refine br_ef (by assumption) ?_); conv => whnf)
        | ((with_reducible first | refine br_dec (fun h => ?_) (fun h => ?_) | refine br_ndec (fun h => ?_) (fun h => ?_) | refine br_ne (fun h => ?_) (fun h => ?_) | refine br_eq (fun h => ?_) (fun h => ?_)) <;> first | (exfalso; omega) | conv => whnf)
        | (refine br_intro (fun h => ?_) (fun h => ?_) <;> conv => whnf)
        | ((first | refine need_in (by first | exact trivial | assumption | exact ⟨rfl, Nat.le_refl _⟩ | exact ⟨rfl, rfl⟩ | (simp only [inR]; omega) | omega | (simp only [roomP, true_and, and_true, List.length_take, List.length_drop, List.length_append, List.length_cons, List.length_nil, List.length_set, List.length_replicate]; omega) | (refine ⟨by first | exact trivial | rfl, by first | exact Nat.le_refl _ | omega | (simp; omega), ?_⟩; change roomP _ _ 1; simp only [roomP]; omega) | (change roomP _ _ 1; simp only [roomP]; omega) | (simp; omega) | (simp [inR]; omega) | (simp [inR]; done) | decide | (simp; done)) ?_ | refine idx_nat (by omega) (fun x hx => ?_) | refine frz_auto ?_ | refine draw_plain ?_ | refine idx_intro (by first | omega | (simp; omega) | (simp; done)) (by first | omega | (simp; omega) | (simp; done)) (fun x hx => ?_)); conv => whnf)
      rw [if_pos hE, hE]
    · conv => whnf
      repeat' first
        | ((first | refine idx_kn (by assumption) ?_ | refine idx_ki (by assumption) (by omega) ?_ | refine br_true (by first | with_reducible exact rfl | assumption | decide) ?_ | refine br_false (by first | with_reducible exact rfl | assumption | decide) ?_ | with_reducible first | refine br_kt (by assumption) ?_ | refine br_kf (by assumption) ?_ | refine br_nt (by assumption) ?_ | refine br_nf (by assumption) ?_ | refine br_et (by assumption) ?_ | refine br_ef (by assumption) ?_); conv => whnf)
        | ((with_reducible first | refine br_dec (fun h => ?_) (fun h => ?_) | refine br_ndec (fun h => ?_) (fun h => ?_) | refine br_ne (fun h => ?_) (fun h => ?_) | refine br_eq (fun h => ?_) (fun h => ?_)) <;> first | (exfalso; omega) | conv => whnf)
        | (refine br_intro (fun h => ?_) (fun h => ?_) <;> conv => whnf)
        | ((first | refine need_in (by first | exact trivial | assumption | exact ⟨rfl, Nat.le_refl _⟩ | exact ⟨rfl, rfl⟩ | (simp only [inR]; omega) | omega | (simp only [roomP, true_and, and_true, List.length_take, List.length_drop, List.length_append, List.length_cons, List.length_nil, List.length_set, List.length_replicate]; omega) | (refine ⟨by first | exact trivial | rfl, by first | exact Nat.le_refl _ | omega | (simp; omega), ?_⟩; change roomP _ _ 1; simp only [roomP]; omega) | (change roomP _ _ 1; simp only [roomP]; omega) | (simp; omega) | (simp [inR]; omega) | (simp [inR]; done) | decide | (simp; done)) ?_ | refine idx_nat (by omega) (fun x hx => ?_) | refine frz_auto ?_ | refine draw_plain ?_ | refine idx_intro (by first | omega | (simp; omega) | (simp; done)) (by first | omega | (simp; omega) | (simp; done)) (fun x hx => ?_)); conv => whnf)
      rw [if_neg hE]; rfl
  · cases h
set_option maxRecDepth 100000 in
theorem fnOk_refNewest : FnOk Try.prog 54 Try.f54 := ⟨by rfl, by kernel_rfl, by
  show okCode _ _ = true ∧ drawsOk _ = true
  exact ⟨by kernel_rfl, by kernel_rfl⟩⟩
noncomputable def cqc2 : Cx := ⟨tb, [], [(84, spSort)]⟩
theorem spqc2 : SpecsOk Try.prog cqc2.specs := .cons refSort_ok .nil
def spNewest : DSpec
  | [.lst (.st [.str, .str, .bool, .int .i64]) l] => some (True, .tup [.lst entT (if errAll l = 0 then (nwF false (sortX l)).1 else []), .int .i64 (errAll l)])
  | _ => none
/-- The key of the entry ahead, if there is one. -/
theorem nwF_state {b : Bool} {l : List entT.El} {i : Nat} (hi : i < l.length) : (nwF b (l.take i)).2 = (match i with | 0 => (false, ⟨#[]⟩) | j + 1 => (true, (l[j]'(by omega)).1)) := by
  cases i with
  | zero => rfl
  | succ j =>
    rw [nwF_take (List.getElem?_eq_getElem (by omega))]
    rfl
theorem nw_new {s : List entT.El} {i : Nat} {x : entT.El} (hx : s[i]? = some x) (h : i = 0 ∨ ∃ y, s[i - 1]? = some y ∧ sEq x.1 y.1 = false) : (nwF false (s.take (i + 1))).1 = (nwF false (s.take i)).1 ++ [x] := by
  have hi : i < s.length := (List.getElem?_eq_some_iff.1 hx).1
  rw [nwF_take hx, nwStep, nwF_state hi]
  cases i with
  | zero => rfl
  | succ j =>
    obtain ⟨y, hy, he⟩ := h.resolve_left (by omega)
    have hy : s[j]? = some y := hy
    have : s[j] = y := by rw [List.getElem?_eq_getElem (by omega)] at hy; exact Option.some.inj hy
    simp only [this, he]
    rfl
theorem nw_old {s : List entT.El} {i : Nat} {x : entT.El} (hx : s[i]? = some x) (h0 : i ≠ 0) {y : entT.El} (hy : s[i - 1]? = some y) (he : sEq x.1 y.1 = true) : (nwF false (s.take (i + 1))).1 = (nwF false (s.take i)).1 := by
  have hi : i < s.length := (List.getElem?_eq_some_iff.1 hx).1
  rw [nwF_take hx, nwStep, nwF_state hi]
  cases i with
  | zero => exact absurd rfl h0
  | succ j =>
    have hy : s[j]? = some y := hy
    have : s[j] = y := by rw [List.getElem?_eq_getElem (by omega)] at hy; exact Option.some.inj hy
    simp only [this, he]
    rfl
theorem own_eq {id g n m : Nat} {c : AV} (h : n = m) : [AV.own id g n, c] = [AV.own id g m, c] := by rw [h]
theorem heap_keep2 {b : AObj} {T : TypeId} {t : Ty} {g : Nat} {l m : List t.El} (hl : l = m) : [b, .arr T t l false g] = [b, AObj.arr T t m false g] := by
  subst hl
  rfl
set_option maxRecDepth 100000 in
set_option maxHeartbeats 2000000 in
theorem refNewest_ok : SpecOk Try.prog 54 spNewest := by
  refine spec_body (C := cqc2) mixed tbOk spqc2 (callN_ok (C := cqc2) mixed tbOk spqc2 FnsOk.nil 0) fnOk_refNewest ?_
  intro ys p r h hp
  unfold spNewest at h
  split at h
  · rename_i l
    cases h
    by_cases h : errAll l = 0
    rotate_left
    · conv => whnf
      repeat' first
        | ((first | refine idx_kn (by assumption) ?_ | refine idx_ki (by assumption) (by omega) ?_ | refine br_true (by first | with_reducible exact rfl | assumption | decide) ?_ | refine br_false (by first | with_reducible exact rfl | assumption | decide) ?_ | with_reducible first | refine br_kt (by assumption) ?_ | refine br_kf (by assumption) ?_ | refine br_nt (by assumption) ?_ | refine br_nf (by assumption) ?_ | refine br_et (by assumption) ?_ | refine br_ef (by assumption) ?_); conv => whnf)
        | ((with_reducible first | refine br_dec (fun h => ?_) (fun h => ?_) | refine br_ndec (fun h => ?_) (fun h => ?_) | refine br_ne (fun h => ?_) (fun h => ?_) | refine br_eq (fun h => ?_) (fun h => ?_)) <;> first | (exfalso; omega) | conv => whnf)
        | (refine br_intro (fun h => ?_) (fun h => ?_) <;> conv => whnf)
        | ((first | refine need_in (by first | exact trivial | assumption | exact ⟨rfl, Nat.le_refl _⟩ | exact ⟨rfl, rfl⟩ | (simp only [inR]; omega) | omega | (simp only [roomP, true_and, and_true, List.length_take, List.length_drop, List.length_append, List.length_cons, List.length_nil, List.length_set, List.length_replicate]; omega) | (refine ⟨by first | exact trivial | rfl, by first | exact Nat.le_refl _ | omega | (simp; omega), ?_⟩; change roomP _ _ 1; simp only [roomP]; omega) | (change roomP _ _ 1; simp only [roomP]; omega) | (simp; omega) | (simp [inR]; omega) | (simp [inR]; done) | decide | (simp; done)) ?_ | refine idx_nat (by omega) (fun x hx => ?_) | refine frz_auto ?_ | refine draw_plain ?_ | refine idx_intro (by first | omega | (simp; omega) | (simp; done)) (by first | omega | (simp; omega) | (simp; done)) (fun x hx => ?_)); conv => whnf)
      rw [if_neg h]; rfl
    · have hm := (errAll_mem h).1
      conv => whnf
      repeat' first
        | ((first | refine idx_kn (by assumption) ?_ | refine idx_ki (by assumption) (by omega) ?_ | refine br_true (by first | with_reducible exact rfl | assumption | decide) ?_ | refine br_false (by first | with_reducible exact rfl | assumption | decide) ?_ | with_reducible first | refine br_kt (by assumption) ?_ | refine br_kf (by assumption) ?_ | refine br_nt (by assumption) ?_ | refine br_nf (by assumption) ?_ | refine br_et (by assumption) ?_ | refine br_ef (by assumption) ?_); conv => whnf)
        | ((with_reducible first | refine br_dec (fun h => ?_) (fun h => ?_) | refine br_ndec (fun h => ?_) (fun h => ?_) | refine br_ne (fun h => ?_) (fun h => ?_) | refine br_eq (fun h => ?_) (fun h => ?_)) <;> first | (exfalso; omega) | conv => whnf)
        | (refine br_intro (fun h => ?_) (fun h => ?_) <;> conv => whnf)
        | ((first | refine need_in (by first | exact trivial | assumption | exact ⟨rfl, Nat.le_refl _⟩ | exact ⟨rfl, rfl⟩ | (simp only [inR]; omega) | omega | (simp only [roomP, true_and, and_true, List.length_take, List.length_drop, List.length_append, List.length_cons, List.length_nil, List.length_set, List.length_replicate]; omega) | (refine ⟨by first | exact trivial | rfl, by first | exact Nat.le_refl _ | omega | (simp; omega), ?_⟩; change roomP _ _ 1; simp only [roomP]; omega) | (change roomP _ _ 1; simp only [roomP]; omega) | (simp; omega) | (simp [inR]; omega) | (simp [inR]; done) | decide | (simp; done)) ?_ | refine idx_nat (by omega) (fun x hx => ?_) | refine frz_auto ?_ | refine draw_plain ?_ | refine idx_intro (by first | omega | (simp; omega) | (simp; done)) (by first | omega | (simp; omega) | (simp; done)) (fun x hx => ?_)); conv => whnf)
      rw [if_pos h, if_pos h, h]
      generalize hs : sortX l = s
      have hsl := sortX_len l
      rw [hs] at hsl
      refine loop_inv [] [6, 7] (fun vs h => ∃ (i g : Nat) (out : List entT.El), vs = [.own 1 g out.length, .int .i64 (i : Int)] ∧ h = [.arr 29 entT [] false 0, .arr 29 entT out false g] ∧ i ≤ s.length ∧ (nwF false (s.take i)).1 = out) (fun vs _ => match vs with | [_, .int _ k] => s.length - k.toNat | _ => 0) ?_
      conv => whnf
      refine ⟨⟨0, 0, [], rfl, rfl, Nat.zero_le _, rfl⟩, ?_⟩
      rintro vs h' - ⟨i, g, out, rfl, rfl, hi, hnw⟩
      have hol := nw_len false (s.take i) ([], false, ⟨#[]⟩)
      rw [show ((s.take i).foldl (nwStep false) ([], false, ⟨#[]⟩)).1 = out from hnw, List.length_take] at hol
      simp only [List.length_nil] at hol
      conv => whnf
      repeat' first
        | ((first | refine br_true (by first | with_reducible exact rfl | assumption | decide) ?_ | refine br_false (by first | with_reducible exact rfl | assumption | decide) ?_ | with_reducible first | refine br_kt (by assumption) ?_ | refine br_kf (by assumption) ?_ | refine br_nt (by assumption) ?_ | refine br_nf (by assumption) ?_ | refine br_et (by assumption) ?_ | refine br_ef (by assumption) ?_); conv => whnf)
        | ((with_reducible first | refine br_dec (fun h => ?_) (fun h => ?_) | refine br_ndec (fun h => ?_) (fun h => ?_) | refine br_ne (fun h => ?_) (fun h => ?_) | refine br_eq (fun h => ?_) (fun h => ?_)) <;> first | (exfalso; omega) | conv => whnf)
        | (refine br_intro (fun h => ?_) (fun h => ?_) <;> conv => whnf)
        | ((first | refine need_in (by first | exact trivial | assumption | exact ⟨rfl, Nat.le_refl _⟩ | exact ⟨rfl, rfl⟩ | (simp only [inR]; omega) | omega | (simp only [roomP, true_and, and_true, List.length_take, List.length_drop, List.length_append, List.length_cons, List.length_nil, List.length_set, List.length_replicate]; omega) | (refine ⟨by first | exact trivial | rfl, by first | exact Nat.le_refl _ | omega | (simp; omega), ?_⟩; change roomP _ _ 1; simp only [roomP]; omega) | (change roomP _ _ 1; simp only [roomP]; omega) | (simp; omega) | (simp [inR]; omega) | (simp [inR]; done) | decide | (simp; done)) ?_ | refine idx_nat (by omega) (fun x hx => ?_) | refine frz_auto ?_ | refine draw_plain ?_ | refine idx_intro (by first | omega | (simp; omega) | (simp; done)) (by first | omega | (simp; omega) | (simp; done)) (fun x hx => ?_)); conv => whnf)
      · refine back_intro (by conv => whnf) rfl ⟨i + 1, g + 1, out ++ [x], own_eq ?_, heap_keep2 ?_, by omega, (nw_new hx (.inl (by omega))).trans (congrArg (· ++ [x]) hnw)⟩ ?_
        · rw [List.length_append]; rfl
        · simp only [cast_self, List.take_length]; rfl
        · show s.length - ((i : Int) + 1).toNat < s.length - (i : Int).toNat
          omega
      · rename_i x1 hx1 y hy
        rw [show ((i : Int) - 1).toNat = i - 1 by omega] at hy
        obtain rfl : x1 = x := Option.some.inj (hx1.symm.trans hx)
        refine back_intro (by conv => whnf) rfl ⟨i + 1, g + 1, out ++ [x1], own_eq ?_, heap_keep2 ?_, by omega, (nw_new hx (.inr ⟨y, hy, by simpa using h⟩)).trans (congrArg (· ++ [x1]) hnw)⟩ ?_
        · rw [List.length_append]; rfl
        · simp only [cast_self, List.take_length]; rfl
        · show s.length - ((i : Int) + 1).toNat < s.length - (i : Int).toNat
          omega
      · rename_i x1 hx1
        rw [show ((i : Int) - 1).toNat = i - 1 by omega] at hx
        refine back_intro (by conv => whnf) rfl ⟨i + 1, g, out, rfl, rfl, by omega, (nw_old hx1 (by omega) hx (by simpa using h)).trans hnw⟩ ?_
        show s.length - ((i : Int) + 1).toNat < s.length - (i : Int).toNat
        omega
      · rw [List.take_length, ← hnw, List.take_of_length_le (by omega)]
  · cases h
end Go.Proofs.Ytekkeajcmibbaaa
