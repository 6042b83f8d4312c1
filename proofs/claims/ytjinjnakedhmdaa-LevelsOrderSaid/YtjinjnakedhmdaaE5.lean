/-
  What the reference says of the order of strings.
  What the reference says of the order of strings and entries.
  Lists of entries: whether two are the same; the first fault of one: plain Lean.
-/
import Derived.Test.YtjinjnakedhmdaaE2
import Derived.Test.YtjinjnakedhmdaaRfO
namespace Go.Proofs.Ytjinjnakedhmdaa
open Av

def comL : List UInt8 → List UInt8 → Nat
  | a :: x, b :: y => if a = b then comL x y + 1 else 0
  | _, _ => 0
theorem comL_end : ∀ (i : Nat) (x y : List UInt8), x.take i = y.take i → i ≤ x.length → i ≤ y.length → (i = x.length ∨ i = y.length ∨ ∃ a b, x[i]? = some a ∧ y[i]? = some b ∧ a ≠ b) → comL x y = i
  | 0, [], _, _, _, _, _ => by simp [comL]
  | 0, _ :: _, [], _, _, _, _ => by simp [comL]
  | 0, a :: x, b :: y, _, _, _, h => by
    rcases h with h | h | ⟨a', b', h1, h2, h3⟩
    · simp at h
    · simp at h
    · simp at h1 h2
      subst h1 h2
      simp [comL, h3]
  | i + 1, [], _, _, h, _, _ => by simp at h
  | i + 1, _ :: _, [], _, _, h, _ => by simp at h
  | i + 1, a :: x, b :: y, ht, h1, h2, h => by
    simp only [List.take_succ_cons, List.cons.injEq] at ht
    obtain ⟨rfl, ht⟩ := ht
    simp only [comL, if_true]
    rw [comL_end i x y ht (by simpa using h1) (by simpa using h2) (by simpa using h)]
theorem take_snoc {x y : List UInt8} {i : Nat} {c : UInt8} (ht : x.take i = y.take i) (hx : x[i]? = some c) (hy : y[i]? = some c) : x.take (i + 1) = y.take (i + 1) := by
  rw [List.take_add_one, List.take_add_one, hx, hy, ht]
def spCommon : DSpec
  | [.str a, .str b] => some ((a.size : Int) ≤ 9223372036854775807, .int .i64 (comL a.data.toList b.data.toList : Nat))
  | _ => none
set_option maxRecDepth 100000 in
theorem fnOk_refCommon : FnOk Try.prog 58 Try.f58 := ⟨by rfl, by kernel_rfl, by
  show okCode _ _ = true ∧ drawsOk _ = true
  exact ⟨by kernel_rfl, by kernel_rfl⟩⟩
set_option maxRecDepth 100000 in
set_option maxHeartbeats 2000000 in
theorem refCommon_ok : SpecOk Try.prog 58 spCommon := by
  refine spec_body (C := cx0) mixed tbOk SpecsOk.nil (callN_ok (C := cx0) mixed tbOk SpecsOk.nil FnsOk.nil 0) fnOk_refCommon ?_
  intro ys p r h hp
  unfold spCommon at h
  split at h
  · rename_i a b
    cases h
    have la : a.data.toList.length = a.size := Array.length_toList
    have lb : b.data.toList.length = b.size := Array.length_toList
    conv => whnf
    refine loop_inv [] [5] (fun vs h => ∃ i : Nat, vs = [.int .i64 (i : Int)] ∧ h = [] ∧ i ≤ a.size ∧ i ≤ b.size ∧ a.data.toList.take i = b.data.toList.take i) (fun vs _ => match vs with | [.int _ k] => a.size - k.toNat | _ => 0) ?_
    refine ⟨⟨0, rfl, rfl, by omega, by omega, by simp⟩, ?_⟩
    rintro vs h' - ⟨i, rfl, rfl, hi, hj, hall⟩
    conv => whnf
    repeat' first
      | ((first | refine br_true (by first | with_reducible exact rfl | assumption | decide) ?_ | refine br_false (by first | with_reducible exact rfl | assumption | decide) ?_ | with_reducible first | refine br_kt (by assumption) ?_ | refine br_kf (by assumption) ?_ | refine br_nt (by assumption) ?_ | refine br_nf (by assumption) ?_ | refine br_et (by assumption) ?_ | refine br_ef (by assumption) ?_); conv => whnf)
      | ((with_reducible first | refine br_dec (fun h => ?_) (fun h => ?_) | refine br_ndec (fun h => ?_) (fun h => ?_) | refine br_ne (fun h => ?_) (fun h => ?_) | refine br_eq (fun h => ?_) (fun h => ?_)) <;> first | (exfalso; omega) | conv => whnf)
      | (refine br_intro (fun h => ?_) (fun h => ?_) <;> conv => whnf)
      | ((first | refine need_in (by first | exact trivial | assumption | exact ⟨rfl, Nat.le_refl _⟩ | exact ⟨rfl, rfl⟩ | (simp only [inR]; omega) | omega | (simp only [roomP, true_and, and_true, List.length_take, List.length_drop, List.length_append, List.length_cons, List.length_nil, List.length_set, List.length_replicate]; omega) | (refine ⟨by first | exact trivial | rfl, by first | exact Nat.le_refl _ | omega | (simp; omega), ?_⟩; change roomP _ _ 1; simp only [roomP]; omega) | (change roomP _ _ 1; simp only [roomP]; omega) | (simp; omega) | (simp [inR]; omega) | (simp [inR]; done) | decide | (simp; done)) ?_ | refine idx_nat (by omega) (fun x hx => ?_) | refine frz_auto ?_ | refine draw_plain ?_ | refine idx_intro (by first | omega | (simp; omega) | (simp; done)) (by first | omega | (simp; omega) | (simp; done)) (fun x hx => ?_)); conv => whnf)
    · rename_i h1 h2 c hc
      have hcx : c = x := UInt8.toNat_inj.1 (by omega)
      subst hcx
      refine back_intro (by conv => whnf) rfl ⟨i + 1, rfl, rfl, by omega, by omega, take_snoc hall hc hx⟩ ?_
      show a.size - ((i : Int) + 1).toNat < a.size - (i : Int).toNat
      omega
    · rename_i h1 h2 c hc
      exact congrArg (fun n : Nat => AV.int .i64 (n : Int)) (comL_end i _ _ hall (by omega) (by omega) (.inr (.inr ⟨c, x, hc, hx, fun e => h (by rw [e])⟩))).symm
    · exact congrArg (fun n : Nat => AV.int .i64 (n : Int)) (comL_end i _ _ hall (by omega) (by omega) (.inr (.inl (by omega)))).symm
    · exact congrArg (fun n : Nat => AV.int .i64 (n : Int)) (comL_end i _ _ hall (by omega) (by omega) (.inl (by omega))).symm
  · cases h
end Go.Proofs.Ytjinjnakedhmdaa
namespace Go.Proofs.Ytjinjnakedhmdaa
open Av Bk

theorem comL_left : ∀ x y : List UInt8, comL x y ≤ x.length
  | [], _ => by simp [comL]
  | _ :: _, [] => by simp [comL]
  | a :: x, b :: y => by
    simp only [comL]
    split
    · simpa using comL_left x y
    · simp
theorem comL_right : ∀ x y : List UInt8, comL x y ≤ y.length
  | [], _ => by simp [comL]
  | _ :: _, [] => by simp [comL]
  | a :: x, b :: y => by
    simp only [comL]
    split
    · simpa using comL_right x y
    · simp
theorem ordL_com : ∀ x y : List UInt8, ordL x y = if comL x y = x.length ∧ comL x y = y.length then 0 else if comL x y = x.length then -1 else if comL x y = y.length then 1 else
    if (x[comL x y]?.getD 0) < (y[comL x y]?.getD 0) then -1 else 1
  | [], [] => by simp [comL, ordL_nil]
  | [], b :: y => by simp [comL, ordL_less]
  | a :: x, [] => by simp [comL, ordL_more]
  | a :: x, b :: y => by
    by_cases h : a = b
    · subst h
      rw [ordL_cons, ordL_com x y]
      simp [comL]
    · rw [ordL_ne x y h]
      simp [comL, h]
def spOrder : DSpec
  | [.str a, .str b] => some ((a.size : Int) ≤ 9223372036854775807, .int .i64 (ordL a.data.toList b.data.toList))
  | _ => none
set_option maxRecDepth 100000 in
theorem fnOk_refOrder : FnOk Try.prog 56 Try.f56 := ⟨by rfl, by kernel_rfl, by
  show okCode _ _ = true ∧ drawsOk _ = true
  exact ⟨by kernel_rfl, by kernel_rfl⟩⟩
noncomputable def cx2 : Cx := ⟨tb, [], [(58, spCommon)]⟩
theorem specs2 : SpecsOk Try.prog cx2.specs := .cons refCommon_ok .nil
set_option maxRecDepth 100000 in
set_option maxHeartbeats 2000000 in
theorem refOrder_ok : SpecOk Try.prog 56 spOrder := by
  refine spec_body (C := cx2) mixed tbOk specs2 (callN_ok (C := cx2) mixed tbOk specs2 FnsOk.nil 0) fnOk_refOrder ?_
  intro ys p r h hp
  unfold spOrder at h
  split at h
  · rename_i a b
    cases h
    have la : a.data.toList.length = a.size := Array.length_toList
    have lb : b.data.toList.length = b.size := Array.length_toList
    have ca := comL_left a.data.toList b.data.toList
    have cb := comL_right a.data.toList b.data.toList
    have ho := ordL_com a.data.toList b.data.toList
    conv => whnf
    refine need_in hp ?_
    conv => whnf
    repeat' first
      | ((first | refine br_true (by first | with_reducible exact rfl | assumption | decide) ?_ | refine br_false (by first | with_reducible exact rfl | assumption | decide) ?_ | with_reducible first | refine br_kt (by assumption) ?_ | refine br_kf (by assumption) ?_ | refine br_nt (by assumption) ?_ | refine br_nf (by assumption) ?_ | refine br_et (by assumption) ?_ | refine br_ef (by assumption) ?_); conv => whnf)
      | ((with_reducible first | refine br_dec (fun h => ?_) (fun h => ?_) | refine br_ndec (fun h => ?_) (fun h => ?_) | refine br_ne (fun h => ?_) (fun h => ?_) | refine br_eq (fun h => ?_) (fun h => ?_)) <;> first | (exfalso; omega) | conv => whnf)
      | (refine br_intro (fun h => ?_) (fun h => ?_) <;> conv => whnf)
      | ((first | refine need_in (by first | exact trivial | assumption | exact ⟨rfl, Nat.le_refl _⟩ | exact ⟨rfl, rfl⟩ | (simp only [inR]; omega) | omega | (simp only [roomP, true_and, and_true, List.length_take, List.length_drop, List.length_append, List.length_cons, List.length_nil, List.length_set, List.length_replicate]; omega) | (refine ⟨by first | exact trivial | rfl, by first | exact Nat.le_refl _ | omega | (simp; omega), ?_⟩; change roomP _ _ 1; simp only [roomP]; omega) | (change roomP _ _ 1; simp only [roomP]; omega) | (simp; omega) | (simp [inR]; omega) | (simp [inR]; done) | decide | (simp; done)) ?_ | refine idx_nat (by omega) (fun x hx => ?_) | refine frz_auto ?_ | refine draw_plain ?_ | refine idx_intro (by first | omega | (simp; omega) | (simp; done)) (by first | omega | (simp; omega) | (simp; done)) (fun x hx => ?_)); conv => whnf)
    all_goals refine congrArg (AV.int .i64) ?_
    all_goals first
      | (exfalso; omega)
      | rw [ho, if_pos ⟨by omega, by omega⟩]
      | rw [ho, if_neg (by omega), if_pos (by omega)]
      | rw [ho, if_neg (by omega), if_neg (by omega), if_pos (by omega)]
      | (rename_i c hc
         rw [ho, if_neg (by omega), if_neg (by omega), if_neg (by omega), hc, hx]
         simp only [Option.getD_some]
         first
           | rw [if_pos (UInt8.lt_iff_toNat_lt.2 (by omega))]
           | rw [if_neg (fun e => by have := UInt8.lt_iff_toNat_lt.1 e; omega)])
  · cases h
end Go.Proofs.Ytjinjnakedhmdaa
namespace Go.Proofs.Ytjinjnakedhmdaa
open Av Bk

theorem cast_self {t : Ty} (h : t = t) (l : List t.El) : (h ▸ l : List t.El) = l := rfl
theorem sEq_refl (a : ByteArray) : sEq a a = true := by simp [sEq]
theorem eqT_refl (x : entT.El) : eqT entT x x = true := by
  have e : ∀ (a b : ByteArray) (c : Bool) (d : Int), eqT entT (a, b, c, d, ()) (a, b, c, d, ()) = true := fun a b c d => by
    show (sEq a a && (sEq b b && (c == c && d == d))) = true
    rw [sEq_refl, sEq_refl, beq_self_eq_true, beq_self_eq_true]
    rfl
  exact e x.1 x.2.1 x.2.2.1 x.2.2.2.1
def sameL (t : Ty) : List t.El → List t.El → Bool
  | [], [] => true
  | x :: a, y :: b => eqT t x y && sameL t a b
  | _, _ => false
theorem bnt {b : Bool} (h : (!b) = true) : b = false := by simpa using h
theorem bnf {b : Bool} (h : (!b) = false) : b = true := by simpa using h
theorem same_len {t : Ty} : ∀ {a b : List t.El}, a.length ≠ b.length → sameL t a b = false
  | [], [], h => absurd rfl h
  | [], _ :: _, _ => rfl
  | _ :: _, [], _ => rfl
  | x :: a, y :: b, h => by
    rw [sameL, same_len (a := a) (b := b) (fun e => h (by simp [e]))]
    simp
theorem same_step {t : Ty} {x y : t.El} : ∀ {i : Nat} {a b : List t.El}, a[i]? = some x → b[i]? = some y → sameL t (a.drop i) (b.drop i) = (eqT t x y && sameL t (a.drop (i + 1)) (b.drop (i + 1)))
  | 0, u :: a, v :: b, hx, hy => by cases hx; cases hy; rfl
  | i + 1, u :: a, v :: b, hx, hy => same_step (i := i) (a := a) (b := b) (by simpa using hx) (by simpa using hy)
  | _, [], _, hx, _ => by simp at hx
  | _, _ :: _, [], _, hy => by simp at hy
theorem same_end {t : Ty} {a b : List t.El} {i : Nat} (h : a.length ≤ i) (hb : b.length ≤ i) : sameL t (a.drop i) (b.drop i) = true := by
  rw [List.drop_eq_nil_of_le h, List.drop_eq_nil_of_le hb]
  rfl
theorem same_refl : ∀ l : List entT.El, sameL entT l l = true
  | [] => rfl
  | x :: l => by
    rw [sameL, same_refl l, eqT_refl]
    rfl
def falls (pv : Option ByteArray) (x : entT.El) : Bool := match pv with | some p => !sLt p x.1 | none => false
/-- The first fault of an ascending list: where, and what. -/
def clGo (pv : Option ByteArray) (i : Int) : List entT.El → Int × Int
  | [] => (0, 0)
  | x :: l => if errX x ≠ 0 then (i, errX x) else if falls pv x = true then (i, 6) else clGo (some x.1) (i + 1) l
def clL (l : List entT.El) : Int × Int := if 5000 < l.length then (-1, 3) else clGo none 0 l
def pvAt (l : List entT.El) : Nat → Option ByteArray
  | 0 => none
  | j + 1 => (l[j]?).map (·.1)
theorem clGo_step {l : List entT.El} {i : Nat} {x : entT.El} (hx : l[i]? = some x) : clGo (pvAt l i) (i : Int) (l.drop i) = if errX x ≠ 0 then ((i : Int), errX x) else if falls (pvAt l i) x = true then ((i : Int), 6) else clGo (pvAt l (i + 1)) ((i + 1 : Nat) : Int) (l.drop (i + 1)) := by
  have hi := (List.getElem?_eq_some_iff.1 hx).1
  have he := (List.getElem?_eq_some_iff.1 hx).2
  rw [List.drop_eq_getElem_cons hi, he]
  show (if errX x ≠ 0 then _ else if falls (pvAt l i) x = true then _ else clGo (some x.1) ((i : Int) + 1) _) = _
  simp only [pvAt, hx, Option.map_some]
  rfl
theorem clL_end {l : List entT.El} {i : Nat} (h5 : ¬ 5000 < l.length) (hc : clL l = clGo (pvAt l i) (i : Int) (l.drop i)) (hi : l.length ≤ i) : clL l = (0, 0) := by
  rw [hc, List.drop_eq_nil_of_le hi]
  rfl
theorem clL_err {l : List entT.El} {i : Nat} {x : entT.El} (hc : clL l = clGo (pvAt l i) (i : Int) (l.drop i)) (hx : l[i]? = some x) (he : errX x ≠ 0) : clL l = ((i : Int), errX x) := by
  rw [hc, clGo_step hx, if_pos he]
theorem clL_form {l : List entT.El} {i : Nat} {x p : entT.El} (hc : clL l = clGo (pvAt l i) (i : Int) (l.drop i)) (hx : l[i]? = some x) (he : errX x = 0) (h0 : 0 < i) (hp : l[i - 1]? = some p) (hl : sLt p.1 x.1 = false) : clL l = ((i : Int), 6) := by
  obtain ⟨j, rfl⟩ : ∃ j, i = j + 1 := ⟨i - 1, by omega⟩
  have hp : l[j]? = some p := hp
  have hf : falls (pvAt l (j + 1)) x = true := by
    show falls ((l[j]?).map (·.1)) x = true
    rw [hp]
    show (!sLt p.1 x.1) = true
    rw [hl]; rfl
  rw [hc, clGo_step hx, if_neg (by simp [he]), if_pos hf]
theorem clL_next {l : List entT.El} {i : Nat} {x : entT.El} (hc : clL l = clGo (pvAt l i) (i : Int) (l.drop i)) (hx : l[i]? = some x) (he : errX x = 0) (hl : i = 0 ∨ ∃ p, l[i - 1]? = some p ∧ sLt p.1 x.1 = true) : clL l = clGo (pvAt l (i + 1)) ((i + 1 : Nat) : Int) (l.drop (i + 1)) := by
  have hf : ¬ falls (pvAt l i) x = true := by
    rcases hl with rfl | ⟨p, hp, hl⟩
    · simp [pvAt, falls]
    · cases i with
      | zero => simp [pvAt, falls]
      | succ j =>
        have hp : l[j]? = some p := hp
        show ¬ falls ((l[j]?).map (·.1)) x = true
        rw [hp]
        show ¬ (!sLt p.1 x.1) = true
        rw [hl]; decide
  rw [hc, clGo_step hx, if_neg (by simp [he]), if_neg hf]
theorem errX_key {x : entT.El} (h : errX x = 0) : (x.1.size : Int) ≤ 9223372036854775807 := by
  simp only [errX, errE] at h
  by_cases hk : 32 < (x.1.size : Int)
  · simp [hk] at h
  · omega
theorem ordL_ge {x y : List UInt8} : 0 ≤ ordL x y ↔ Op.bytesLess x y = false := by
  unfold ordL
  by_cases h : x = y
  · subst h; simp [bl_irrefl]
  · simp only [if_neg h]
    cases Op.bytesLess x y <;> simp
end Go.Proofs.Ytjinjnakedhmdaa
