/-
  What the reference says of lists of entries in order.
-/
import Derived.Test.YtmegjnanieafbaaN4
namespace Go.Proofs.Ytmegjnanieafbaa
open Av Bk

def ordX (x y : entT.El) : Int := ordE x.1 x.2.2.2.1 y.1 y.2.2.2.1
def atGo (out : List entT.El) (x : entT.El) : Nat → Nat
  | 0 => 0
  | n + 1 => match out[n]? with
    | some y => if 0 < ordX y x then atGo out x n else n + 1
    | none => n + 1
def insX (out : List entT.El) (x : entT.El) : List entT.El := out.take (atGo out x out.length) ++ x :: out.drop (atGo out x out.length)
def sortX (l : List entT.El) : List entT.El := l.foldl insX []
theorem atGo_le (out : List entT.El) (x : entT.El) : ∀ n, atGo out x n ≤ n
  | 0 => Nat.le_refl _
  | n + 1 => by
    simp only [atGo]
    split
    · split
      · have := atGo_le out x n; omega
      · exact Nat.le_refl _
    · exact Nat.le_refl _
theorem insX_len (out : List entT.El) (x : entT.El) : (insX out x).length = out.length + 1 := by
  have := atGo_le out x out.length
  simp only [insX, List.length_append, List.length_take, List.length_cons, List.length_drop]
  omega
theorem insX_mem {out : List entT.El} {x y : entT.El} : y ∈ insX out x ↔ y = x ∨ y ∈ out := by
  simp only [insX, List.mem_append, List.mem_cons]
  conv => rhs; rw [← List.take_append_drop (atGo out x out.length) out, List.mem_append]
  constructor
  · rintro (h | h | h)
    · exact .inr (.inl h)
    · exact .inl h
    · exact .inr (.inr h)
  · rintro (h | h | h)
    · exact .inr (.inl h)
    · exact .inl h
    · exact .inr (.inr h)
theorem fold_mem : ∀ (l out : List entT.El) (y : entT.El), y ∈ l.foldl insX out ↔ y ∈ l ∨ y ∈ out
  | [], out, y => by simp
  | x :: l, out, y => by
    rw [List.foldl_cons, fold_mem l, insX_mem, List.mem_cons]
    constructor
    · rintro (h | h | h)
      · exact .inl (.inr h)
      · exact .inl (.inl h)
      · exact .inr h
    · rintro ((h | h) | h)
      · exact .inr (.inl h)
      · exact .inl h
      · exact .inr (.inr h)
theorem sortX_mem {l : List entT.El} {y : entT.El} : y ∈ sortX l ↔ y ∈ l := by
  unfold sortX
  rw [fold_mem]; simp
theorem fold_len : ∀ (l out : List entT.El), (l.foldl insX out).length = out.length + l.length
  | [], out => by simp
  | x :: l, out => by rw [List.foldl_cons, fold_len l, insX_len, List.length_cons]; omega
theorem sortX_len (l : List entT.El) : (sortX l).length = l.length := by rw [sortX, fold_len]; simp
theorem sortX_take {l : List entT.El} {i : Nat} {x : entT.El} (hx : l[i]? = some x) : sortX (l.take (i + 1)) = insX (sortX (l.take i)) x := by
  unfold sortX
  rw [List.take_add_one, hx, List.foldl_append]
  rfl
theorem two_eq {t : Ty} {A B : List t.El} {c : AV} (h : A = B) : [AV.lst t A, c] = [AV.lst t B, c] := by rw [h]
theorem ins_at {out A : List entT.El} {x : entT.El} {j : Nat} (h : atGo out x out.length = j) (hA : A = out.take j ++ x :: out.drop j) : A = insX out x := by rw [hA, insX, h]
theorem cast_self {t : Ty} (h : t = t) (l : List t.El) : (h ▸ l : List t.El) = l := rfl
theorem atGo_step {out : List entT.El} {x y : entT.El} {j : Nat} (hj : 0 < j) (hy : out[j - 1]? = some y) : atGo out x j = if 0 < ordX y x then atGo out x (j - 1) else j := by
  obtain ⟨k, rfl⟩ : ∃ k, j = k + 1 := ⟨j - 1, by omega⟩
  have hy : out[k]? = some y := hy
  simp only [atGo, hy, Nat.add_sub_cancel]
theorem app_fin {out : List entT.El} {x : entT.El} {j : Nat} : List.take (min j out.length + min 1 [x].length + (out.length - j)) (List.take j out ++ (List.take 1 [x] ++ List.drop j out)) = List.take j out ++ x :: List.drop j out := by
  rw [List.take_of_length_le]
  · rfl
  · simp only [List.length_append, List.length_take, List.length_drop, List.length_cons, List.length_nil]; omega
def spSorted : DSpec
  | [.lst (.st [.str, .str, .bool, .int .i64]) l] => some (l.length ≤ 100000 ∧ ∀ x ∈ l, (x.1.size : Int) ≤ 4611686018427387904, .lst entT (sortX l))
  | _ => none
theorem fnOk_refSorted : FnOk Try.prog 33 Try.f33 := ⟨by rfl, by kernel_rfl, by
  show okCode _ _ = true ∧ drawsOk _ = true
  exact ⟨by kernel_rfl, by kernel_rfl⟩⟩
noncomputable def cx4 : Cx := ⟨tb, [], [(35, spOrdE)]⟩
theorem specs4 : SpecsOk Try.prog cx4.specs := .cons refOrdE_ok .nil
set_option maxRecDepth 100000 in

set_option maxHeartbeats 2000000 in
theorem refSorted_ok : SpecOk Try.prog 33 spSorted := by
  refine spec_body (C := cx4) mixed tbOk specs4 (callN_ok (C := cx4) mixed tbOk specs4 FnsOk.nil 0) fnOk_refSorted ?_
  intro ys p r h hp
  unfold spSorted at h
  split at h
  · rename_i l
    cases h
    obtain ⟨hlen, hsz⟩ := hp
    conv => whnf
    refine loop_inv [.lst 3 entT] [3, 4] (fun vs h => ∃ i : Nat, vs = [.lst entT (sortX (l.take i)), .int .i64 (i : Int)] ∧ h = [.arr 25 entT [] false 0, .dead] ∧ i ≤ l.length) (fun vs _ => match vs with | [_, .int _ k] => l.length - k.toNat | _ => 0) ?_
    conv => whnf
    refine need_in ⟨rfl, Nat.le_refl _⟩ ?_
    conv => whnf
    refine ⟨⟨0, rfl, rfl, Nat.zero_le _⟩, ?_⟩
    rintro vs h' - ⟨i, rfl, rfl, hi⟩
    have hso := sortX_len (l.take i)
    have htk : (l.take i).length = i := by rw [List.length_take]; omega
    rw [htk] at hso
    conv => whnf
    repeat' first
      | (refine br_true (by first | with_reducible exact rfl | assumption | decide) ?_; conv => whnf)
      | (refine br_false (by first | with_reducible exact rfl | assumption | decide) ?_; conv => whnf)
      | (with_reducible refine br_kt (by assumption) ?_; conv => whnf)
      | (with_reducible refine br_kf (by assumption) ?_; conv => whnf)
      | (with_reducible refine br_nt (by assumption) ?_; conv => whnf)
      | (with_reducible refine br_nf (by assumption) ?_; conv => whnf)
      | (with_reducible refine br_et (by assumption) ?_; conv => whnf)
      | (with_reducible refine br_ef (by assumption) ?_; conv => whnf)
      | ((with_reducible refine br_dec (fun h => ?_) (fun h => ?_)) <;> first | (exfalso; omega) | conv => whnf)
      | ((with_reducible refine br_ndec (fun h => ?_) (fun h => ?_)) <;> first | (exfalso; omega) | conv => whnf)
      | ((with_reducible refine br_ne (fun h => ?_) (fun h => ?_)) <;> first | (exfalso; omega) | conv => whnf)
      | ((with_reducible refine br_eq (fun h => ?_) (fun h => ?_)) <;> first | (exfalso; omega) | conv => whnf)
      | (refine br_intro (fun h => ?_) (fun h => ?_) <;> conv => whnf)
      | (refine need_in (by first | exact trivial | assumption | exact ⟨rfl, Nat.le_refl _⟩ | (simp only [inR]; omega) | omega | (simp only [roomP, true_and, and_true, List.length_take, List.length_drop, List.length_append, List.length_cons, List.length_nil, List.length_set, List.length_replicate]; omega) | (simp; omega) | (simp; done)) ?_; conv => whnf)
      | (refine idx_nat (by omega) (fun x hx => ?_); conv => whnf)
      | (refine idx_intro (by omega) (by omega) (fun x hx => ?_); conv => whnf)
    refine loop_inv [] [5] (fun vs h => ∃ j : Nat, vs = [.int .i64 (j : Int)] ∧ h = [.arr 25 entT [] false 0, .dead] ∧ j ≤ i ∧ atGo (sortX (l.take i)) (l[i]'(by omega)) i = atGo (sortX (l.take i)) (l[i]'(by omega)) j) (fun vs _ => match vs with | [.int _ k] => k.toNat | _ => 0) ?_
    refine ⟨⟨i, congrArg (fun n : Nat => [AV.int .i64 (n : Int)]) hso, rfl, Nat.le_refl _, rfl⟩, ?_⟩
    rintro vs h' - ⟨j, rfl, rfl, hj, hat⟩
    conv => whnf
    repeat' first
      | (refine br_true (by first | with_reducible exact rfl | assumption | decide) ?_; conv => whnf)
      | (refine br_false (by first | with_reducible exact rfl | assumption | decide) ?_; conv => whnf)
      | (with_reducible refine br_kt (by assumption) ?_; conv => whnf)
      | (with_reducible refine br_kf (by assumption) ?_; conv => whnf)
      | (with_reducible refine br_nt (by assumption) ?_; conv => whnf)
      | (with_reducible refine br_nf (by assumption) ?_; conv => whnf)
      | (with_reducible refine br_et (by assumption) ?_; conv => whnf)
      | (with_reducible refine br_ef (by assumption) ?_; conv => whnf)
      | ((with_reducible refine br_dec (fun h => ?_) (fun h => ?_)) <;> first | (exfalso; omega) | conv => whnf)
      | ((with_reducible refine br_ndec (fun h => ?_) (fun h => ?_)) <;> first | (exfalso; omega) | conv => whnf)
      | ((with_reducible refine br_ne (fun h => ?_) (fun h => ?_)) <;> first | (exfalso; omega) | conv => whnf)
      | ((with_reducible refine br_eq (fun h => ?_) (fun h => ?_)) <;> first | (exfalso; omega) | conv => whnf)
      | (refine br_intro (fun h => ?_) (fun h => ?_) <;> conv => whnf)
      | (refine need_in (by first | exact trivial | assumption | exact ⟨rfl, Nat.le_refl _⟩ | (simp only [inR]; omega) | omega | (simp only [roomP, true_and, and_true, List.length_take, List.length_drop, List.length_append, List.length_cons, List.length_nil, List.length_set, List.length_replicate]; omega) | (simp; omega) | (simp; done)) ?_; conv => whnf)
      | (refine idx_nat (by omega) (fun x hx => ?_); conv => whnf)
      | (refine idx_intro (by omega) (by omega) (fun x hx => ?_); conv => whnf)
    · rename_i y hy
      have hym : y ∈ l := List.mem_of_mem_take (sortX_mem.1 (List.mem_of_getElem? hy))
      refine need_in (hsz y hym) ?_
      conv => whnf
      have hx0 : l[i]'(by omega) = x := by rw [List.getElem?_eq_getElem (by omega)] at hx; exact Option.some.inj hx
      have hj1 : ((j : Int) - 1).toNat = j - 1 := by omega
      rw [hx0] at hat
      rw [hj1] at hy
      have hst := atGo_step (x := x) (by omega) hy
      repeat' first
        | (refine br_true (by first | with_reducible exact rfl | assumption | decide) ?_; conv => whnf)
        | (refine br_false (by first | with_reducible exact rfl | assumption | decide) ?_; conv => whnf)
        | (with_reducible refine br_kt (by assumption) ?_; conv => whnf)
        | (with_reducible refine br_kf (by assumption) ?_; conv => whnf)
        | (with_reducible refine br_nt (by assumption) ?_; conv => whnf)
        | (with_reducible refine br_nf (by assumption) ?_; conv => whnf)
        | (with_reducible refine br_et (by assumption) ?_; conv => whnf)
        | (with_reducible refine br_ef (by assumption) ?_; conv => whnf)
        | ((with_reducible refine br_dec (fun h => ?_) (fun h => ?_)) <;> first | (exfalso; omega) | conv => whnf)
        | ((with_reducible refine br_ndec (fun h => ?_) (fun h => ?_)) <;> first | (exfalso; omega) | conv => whnf)
        | ((with_reducible refine br_ne (fun h => ?_) (fun h => ?_)) <;> first | (exfalso; omega) | conv => whnf)
        | ((with_reducible refine br_eq (fun h => ?_) (fun h => ?_)) <;> first | (exfalso; omega) | conv => whnf)
        | (refine br_intro (fun h => ?_) (fun h => ?_) <;> conv => whnf)
        | (refine need_in (by first | exact trivial | assumption | exact ⟨rfl, Nat.le_refl _⟩ | (simp only [inR]; omega) | omega | (simp only [roomP, true_and, and_true, List.length_take, List.length_drop, List.length_append, List.length_cons, List.length_nil, List.length_set, List.length_replicate]; omega) | (simp; omega) | (simp; done)) ?_; conv => whnf)
        | (refine idx_nat (by omega) (fun x hx => ?_); conv => whnf)
        | (refine idx_intro (by omega) (by omega) (fun x hx => ?_); conv => whnf)
      · refine back_intro (by conv => whnf) rfl ⟨j - 1, congrArg (fun z : Int => [AV.int .i64 z]) (by omega), rfl, by omega, ?_⟩ ?_
        · rw [hx0, hat, hst]; exact if_pos h
        · show ((j : Int) - 1).toNat < (j : Int).toNat
          omega
      · rename_i x1 hx1
        obtain rfl : x1 = x := Option.some.inj (hx1.symm.trans hx)
        refine back_intro (by conv => whnf) rfl ⟨i + 1, ?_, rfl, by omega⟩ ?_
        · refine two_eq (Eq.trans (ins_at (x := x1) (j := j) ?_ ?_) (sortX_take hx).symm)
          · rw [hso, hat, hst]; exact if_neg h
          · simp [cast_self, List.take_of_length_le]; exact app_fin
        · show l.length - ((i : Int) + 1).toNat < l.length - (i : Int).toNat
          omega
    · have hx0 : l[i]'(by omega) = x := by rw [List.getElem?_eq_getElem (by omega)] at hx; exact Option.some.inj hx
      rw [hx0] at hat
      refine back_intro (by conv => whnf) rfl ⟨i + 1, ?_, rfl, by omega⟩ ?_
      · refine two_eq (Eq.trans (ins_at (x := x) (j := j) ?_ ?_) (sortX_take hx).symm)
        · rw [hso, hat, show j = 0 by omega]; rfl
        · simp [cast_self, List.take_of_length_le]; exact app_fin
      · show l.length - ((i : Int) + 1).toNat < l.length - (i : Int).toNat
        omega
    · have e : i = l.length := by omega
      rw [e, List.take_length]
  · cases h
end Go.Proofs.Ytmegjnanieafbaa
