/-
  Maps and items that are more than is looked at; items turned round.
  Tables: items applied one after the other, and in one go. Plain Lean.
  Differences applied to a map, by the reference.
  Writes to a map: plain Lean.
  Whether two maps, or two lists of differences, are the same; of group 5.
  The error of a batch, by both; the place of a key.
-/
import Derived.Test.YtbbklijmnknmhaaLl
import Derived.Test.YtbbklijmnknmhaaUe
import Derived.Test.YtbbklijmnknmhaaIa
namespace Go.Proofs.Ytbbklijmnknmhaa
open Av Bk

def bigP (n : Int) (x : pairT.El) : Bool := decide (n < (x.1.size : Int)) || decide (n < (x.2.1.size : Int))
def farM (m : List pairT.El) : Bool := if (60 < (m.length : Int) ∧ (m.length : Int) < 4000) ∨ 4005 < (m.length : Int) then true else m.any (bigP (if 60 < (m.length : Int) then 4 else 200))
def spFarM : DSpec
  | [.lst (.st [.str, .str]) m] => some (True, .bool (farM m))
  | _ => none
set_option maxRecDepth 100000 in
theorem fnOk_farM : FnOk Try.prog 11 Try.f11 := ⟨by rfl, by kernel_rfl, by
  show okCode _ _ = true ∧ drawsOk _ = true
  exact ⟨by kernel_rfl, by kernel_rfl⟩⟩
set_option maxRecDepth 100000 in
set_option maxHeartbeats 4000000 in
theorem farM_ok : SpecOk Try.prog 11 spFarM := by
  refine spec_body (C := cx0) mixed tbOk SpecsOk.nil (callN_ok (C := cx0) mixed tbOk SpecsOk.nil FnsOk.nil 0) fnOk_farM ?_
  intro ys p r h hp
  unfold spFarM at h
  split at h
  · rename_i m
    cases h
    have body : ∀ (n : Int) (i : Nat), m.any (bigP n) = true → True := fun _ _ _ => trivial
    by_cases ho : (60 < (m.length : Int) ∧ (m.length : Int) < 4000) ∨ 4005 < (m.length : Int)
    · have hF : farM m = true := by unfold farM; rw [if_pos ho]
      conv => whnf
      repeat' first
        | ((first | refine auIk ?_ | refine auIi ?_ | refine auT ?_ | refine auF ?_ | with_reducible first | refine auKt ?_ | refine auKf ?_ | refine auNt ?_ | refine auNf ?_ | refine auEt ?_ | refine auEf ?_); conv => whnf)
        | ((with_reducible first | refine br_dec (fun h => ?_) (fun h => ?_) | refine br_ndec (fun h => ?_) (fun h => ?_) | refine br_ne (fun h => ?_) (fun h => ?_) | refine br_eq (fun h => ?_) (fun h => ?_)) <;> first | (exfalso; omega) | conv => whnf)
        | (refine br_intro (fun h => ?_) (fun h => ?_) <;> conv => whnf)
        | ((first | refine auNd ?_ | refine idx_nat (by omega) (fun x hx => ?_) | refine frz_auto ?_ | refine draw_plain ?_ | refine auIx (fun x hx => ?_)); conv => whnf)
        | ((first | refine bx_idx ?_ | refine bx_intro (fun b hb => ?_)); conv => whnf)
      all_goals first | (rw [hF]; done) | (exfalso; omega) | skip
    · by_cases h60 : 60 < (m.length : Int)
      · have hF : farM m = m.any (bigP 4) := by unfold farM; rw [if_neg ho, if_pos h60]
        conv => whnf
        repeat' first
          | ((first | refine auIk ?_ | refine auIi ?_ | refine auT ?_ | refine auF ?_ | with_reducible first | refine auKt ?_ | refine auKf ?_ | refine auNt ?_ | refine auNf ?_ | refine auEt ?_ | refine auEf ?_); conv => whnf)
          | ((with_reducible first | refine br_dec (fun h => ?_) (fun h => ?_) | refine br_ndec (fun h => ?_) (fun h => ?_) | refine br_ne (fun h => ?_) (fun h => ?_) | refine br_eq (fun h => ?_) (fun h => ?_)) <;> first | (exfalso; omega) | conv => whnf)
          | (refine br_intro (fun h => ?_) (fun h => ?_) <;> conv => whnf)
          | ((first | refine auNd ?_ | refine idx_nat (by omega) (fun x hx => ?_) | refine frz_auto ?_ | refine draw_plain ?_ | refine auIx (fun x hx => ?_)); conv => whnf)
          | ((first | refine bx_idx ?_ | refine bx_intro (fun b hb => ?_)); conv => whnf)
        refine loop_inv [] [4] (fun vs h => ∃ i : Nat, vs = [.int .i64 (i : Int)] ∧ h = [] ∧ i ≤ m.length ∧ ∀ y ∈ m.take i, bigP 4 y = false) (fun vs _ => match vs with | [.int _ k] => m.length - k.toNat | _ => 0) ?_
        conv => whnf
        refine ⟨⟨0, rfl, rfl, by omega, by simp⟩, ?_⟩
        rintro vs h' - ⟨i, rfl, rfl, hi, hall⟩
        by_cases hil : i < m.length
        · obtain ⟨x, hx⟩ : ∃ x, m[i]? = some x := ⟨_, List.getElem?_eq_getElem hil⟩
          conv => whnf
          repeat' first
            | ((first | refine auIk ?_ | refine auIi ?_ | refine auT ?_ | refine auF ?_ | with_reducible first | refine auKt ?_ | refine auKf ?_ | refine auNt ?_ | refine auNf ?_ | refine auEt ?_ | refine auEf ?_); conv => whnf)
            | ((with_reducible first | refine br_dec (fun h => ?_) (fun h => ?_) | refine br_ndec (fun h => ?_) (fun h => ?_) | refine br_ne (fun h => ?_) (fun h => ?_) | refine br_eq (fun h => ?_) (fun h => ?_)) <;> first | (exfalso; omega) | conv => whnf)
            | (refine br_intro (fun h => ?_) (fun h => ?_) <;> conv => whnf)
            | ((first | refine auNd ?_ | refine idx_nat (by omega) (fun x hx => ?_) | refine frz_auto ?_ | refine draw_plain ?_ | refine auIx (fun x hx => ?_)); conv => whnf)
            | ((first | refine bx_idx ?_ | refine bx_intro (fun b hb => ?_)); conv => whnf)
          · rw [hF, any_at hx (by simp [bigP, *])]
          · rw [hF, any_at hx (by simp [bigP, *])]
          · refine back_intro (by conv => whnf) rfl ⟨i + 1, rfl, rfl, by omega, take_succ_all hall hx (by simp [bigP]; omega)⟩ ?_
            show m.length - ((i : Int) + 1).toNat < m.length - (i : Int).toNat
            omega
        · conv => whnf
          repeat' first
            | ((first | refine auIk ?_ | refine auIi ?_ | refine auT ?_ | refine auF ?_ | with_reducible first | refine auKt ?_ | refine auKf ?_ | refine auNt ?_ | refine auNf ?_ | refine auEt ?_ | refine auEf ?_); conv => whnf)
            | ((with_reducible first | refine br_dec (fun h => ?_) (fun h => ?_) | refine br_ndec (fun h => ?_) (fun h => ?_) | refine br_ne (fun h => ?_) (fun h => ?_) | refine br_eq (fun h => ?_) (fun h => ?_)) <;> first | (exfalso; omega) | conv => whnf)
            | (refine br_intro (fun h => ?_) (fun h => ?_) <;> conv => whnf)
            | ((first | refine auNd ?_ | refine idx_nat (by omega) (fun x hx => ?_) | refine frz_auto ?_ | refine draw_plain ?_ | refine auIx (fun x hx => ?_)); conv => whnf)
            | ((first | refine bx_idx ?_ | refine bx_intro (fun b hb => ?_)); conv => whnf)
          rw [hF, any_end hall (by omega)]
      · have hF : farM m = m.any (bigP 200) := by unfold farM; rw [if_neg ho, if_neg h60]
        conv => whnf
        repeat' first
          | ((first | refine auIk ?_ | refine auIi ?_ | refine auT ?_ | refine auF ?_ | with_reducible first | refine auKt ?_ | refine auKf ?_ | refine auNt ?_ | refine auNf ?_ | refine auEt ?_ | refine auEf ?_); conv => whnf)
          | ((with_reducible first | refine br_dec (fun h => ?_) (fun h => ?_) | refine br_ndec (fun h => ?_) (fun h => ?_) | refine br_ne (fun h => ?_) (fun h => ?_) | refine br_eq (fun h => ?_) (fun h => ?_)) <;> first | (exfalso; omega) | conv => whnf)
          | (refine br_intro (fun h => ?_) (fun h => ?_) <;> conv => whnf)
          | ((first | refine auNd ?_ | refine idx_nat (by omega) (fun x hx => ?_) | refine frz_auto ?_ | refine draw_plain ?_ | refine auIx (fun x hx => ?_)); conv => whnf)
          | ((first | refine bx_idx ?_ | refine bx_intro (fun b hb => ?_)); conv => whnf)
        refine loop_inv [] [4] (fun vs h => ∃ i : Nat, vs = [.int .i64 (i : Int)] ∧ h = [] ∧ i ≤ m.length ∧ ∀ y ∈ m.take i, bigP 200 y = false) (fun vs _ => match vs with | [.int _ k] => m.length - k.toNat | _ => 0) ?_
        conv => whnf
        refine ⟨⟨0, rfl, rfl, by omega, by simp⟩, ?_⟩
        rintro vs h' - ⟨i, rfl, rfl, hi, hall⟩
        by_cases hil : i < m.length
        · obtain ⟨x, hx⟩ : ∃ x, m[i]? = some x := ⟨_, List.getElem?_eq_getElem hil⟩
          conv => whnf
          repeat' first
            | ((first | refine auIk ?_ | refine auIi ?_ | refine auT ?_ | refine auF ?_ | with_reducible first | refine auKt ?_ | refine auKf ?_ | refine auNt ?_ | refine auNf ?_ | refine auEt ?_ | refine auEf ?_); conv => whnf)
            | ((with_reducible first | refine br_dec (fun h => ?_) (fun h => ?_) | refine br_ndec (fun h => ?_) (fun h => ?_) | refine br_ne (fun h => ?_) (fun h => ?_) | refine br_eq (fun h => ?_) (fun h => ?_)) <;> first | (exfalso; omega) | conv => whnf)
            | (refine br_intro (fun h => ?_) (fun h => ?_) <;> conv => whnf)
            | ((first | refine auNd ?_ | refine idx_nat (by omega) (fun x hx => ?_) | refine frz_auto ?_ | refine draw_plain ?_ | refine auIx (fun x hx => ?_)); conv => whnf)
            | ((first | refine bx_idx ?_ | refine bx_intro (fun b hb => ?_)); conv => whnf)
          · rw [hF, any_at hx (by simp [bigP, *])]
          · rw [hF, any_at hx (by simp [bigP, *])]
          · refine back_intro (by conv => whnf) rfl ⟨i + 1, rfl, rfl, by omega, take_succ_all hall hx (by simp [bigP]; omega)⟩ ?_
            show m.length - ((i : Int) + 1).toNat < m.length - (i : Int).toNat
            omega
        · conv => whnf
          repeat' first
            | ((first | refine auIk ?_ | refine auIi ?_ | refine auT ?_ | refine auF ?_ | with_reducible first | refine auKt ?_ | refine auKf ?_ | refine auNt ?_ | refine auNf ?_ | refine auEt ?_ | refine auEf ?_); conv => whnf)
            | ((with_reducible first | refine br_dec (fun h => ?_) (fun h => ?_) | refine br_ndec (fun h => ?_) (fun h => ?_) | refine br_ne (fun h => ?_) (fun h => ?_) | refine br_eq (fun h => ?_) (fun h => ?_)) <;> first | (exfalso; omega) | conv => whnf)
            | (refine br_intro (fun h => ?_) (fun h => ?_) <;> conv => whnf)
            | ((first | refine auNd ?_ | refine idx_nat (by omega) (fun x hx => ?_) | refine frz_auto ?_ | refine draw_plain ?_ | refine auIx (fun x hx => ?_)); conv => whnf)
            | ((first | refine bx_idx ?_ | refine bx_intro (fun b hb => ?_)); conv => whnf)
          rw [hF, any_end hall (by omega)]
  · cases h
def turnI (x : itemT.El) : itemT.El := mkI (if x.1 = 1 ∨ x.1 = 2 then 3 - x.1 else x.1) x.2.1 x.2.2.2.1 x.2.2.1
theorem map_take {l : List itemT.El} {i : Nat} {x : itemT.El} (hx : l[i]? = some x) : (l.take (i + 1)).map turnI = (l.take i).map turnI ++ [turnI x] := by
  rw [List.take_add_one, hx, List.map_append]; rfl
end Go.Proofs.Ytbbklijmnknmhaa
namespace Go.Proofs.Ytbbklijmnknmhaa
open Av Bk

/-! ### One after the other -/
theorem fold_asc : ∀ {l : List itemT.El} {m : List pairT.El}, ascP m → ascP (l.foldl chS m)
  | [], m, h => h
  | x :: l, m, h => fold_asc (l := l) (chT_asc h _ _)
/-- What a table has of a key when items were applied. -/
theorem fold_lk : ∀ {l : List itemT.El} {m : List pairT.El}, ascP m → ascK itK l → ∀ k, lkV (l.foldl chS m) k = match l.find? (fun x => sEq x.2.1 k) with | some x => afO x | none => lkV m k
  | [], m, _, _, k => rfl
  | x :: l, m, hm, hl, k => by
    obtain ⟨hx, hl2⟩ := List.pairwise_cons.1 hl
    show lkV (l.foldl chS (chS m x)) k = _
    rw [fold_lk (m := chS m x) (chT_asc hm _ _) hl2]
    by_cases hk : x.2.1 = k
    · have h1 : l.find? (fun x => sEq x.2.1 k) = none := by
        rw [List.find?_eq_none]
        intro y hy
        rw [sEq_iff]
        rw [← hk]
        exact (sLt_ne (hx y hy)).symm
      rw [h1, List.find?_cons_of_pos (by rw [sEq_iff]; exact hk)]
      show lkV (chT m x.2.1 (afO x)) k = _
      rw [chT_lk hm, if_pos hk.symm]
    · rw [List.find?_cons_of_neg (by rw [sEq_iff]; exact hk)]
      cases l.find? (fun x => sEq x.2.1 k) with
      | some y => rfl
      | none =>
        show lkV (chT m x.2.1 (afO x)) k = _
        rw [chT_lk hm, if_neg (fun e => hk e.symm)]
end Go.Proofs.Ytbbklijmnknmhaa
namespace Go.Proofs.Ytbbklijmnknmhaa
open Av Bk

end Go.Proofs.Ytbbklijmnknmhaa
namespace Go.Proofs.Ytbbklijmnknmhaa
open Av Bk

/-- A table with another value of a key, cut at the key's place. -/
theorem ch_cut {m : List pairT.El} (ha : ascP m) (k : ByteArray) (o : Option ByteArray) : chT m k o = m.take (lbP k m) ++ ((match o with | some v => [mkP k v] | none => []) ++ m.drop (lbP k m + if (lkV m k).isSome = true then 1 else 0)) := by
  cases h : lkV m k with
  | none =>
    rw [if_neg (by decide), Nat.add_zero]
    cases o with
    | some v => exact (fresh_cut ha v h).symm
    | none =>
      show m.filter _ = _
      rw [filt_id (lkV_none.1 h)]
      exact (List.take_append_drop _ _).symm
  | some v =>
    rw [if_pos (by rfl)]
    cases o with
    | none => exact (gone_cut ha h).symm
    | some w =>
      rw [← other_cut ha w h]
      obtain ⟨a, b, h1, h2, _⟩ := tab_some ha h
      rw [← h2, h1, List.set_append_right _ _ (Nat.le_refl _)]
      simp
abbrev wrT : Ty := .st [.str, .str, .bool]
abbrev wOf (w : wrT.El) : Option ByteArray := if w.2.2.1 = true then none else some w.2.1
/-- A map behind a write. -/
def wr1 (m : List pairT.El) (w : wrT.El) : List pairT.El := chT m w.1 (wOf w)
/-- The error of a write alone. -/
def wE1 (w : wrT.El) : Int := if 32 < (w.1.size : Int) ∨ 64 < (w.2.1.size : Int) then 3 else if w.2.2.1 = true ∧ sEq w.2.1 ⟨#[]⟩ = false then 6 else 0
def wEs : List wrT.El → Int
  | [] => 0
  | w :: l => if wE1 w ≠ 0 then wE1 w else wEs l
/-- The error of a batch. -/
def wEL (l : List wrT.El) : Int := if l.length = 0 then 6 else if 8 < (l.length : Int) then 3 else wEs l
/-- What Write answers. -/
def wrR (m : List pairT.El) (l : List wrT.El) : List pairT.El × Int :=
  if (mcL m).2 ≠ 0 then ([], (mcL m).2) else if wEL l ≠ 0 then ([], wEL l) else if 4000 < ((l.foldl wr1 m).length : Int) then ([], 5) else (l.foldl wr1 m, 0)
theorem wEs_at : ∀ {l : List wrT.El} {i : Nat} {w : wrT.El}, (∀ y ∈ l.take i, wE1 y = 0) → l[i]? = some w → wE1 w ≠ 0 → wEs l = wE1 w
  | [], i, w, _, h, _ => by simp at h
  | y :: l, 0, w, _, h, he => by
    cases h
    unfold wEs
    rw [if_pos he]
  | y :: l, i + 1, w, ha, h, he => by
    unfold wEs
    rw [if_neg (by simp [ha y (by simp)])]
    exact wEs_at (i := i) (fun z hz => ha z (by simp [hz])) (by simpa using h) he
theorem wEs_end : ∀ {l : List wrT.El}, (∀ y ∈ l, wE1 y = 0) → wEs l = 0
  | [], _ => rfl
  | y :: l, h => by
    unfold wEs
    rw [if_neg (by simp [h y (by simp)])]
    exact wEs_end (fun z hz => h z (by simp [hz]))
theorem wEs_zero : ∀ {l : List wrT.El}, wEs l = 0 → ∀ y ∈ l, wE1 y = 0
  | [], _, y, hy => by cases hy
  | x :: l, h, y, hy => by
    unfold wEs at h
    by_cases he : wE1 x ≠ 0
    · rw [if_pos he] at h; exact absurd h he
    · rw [if_neg he] at h
      rcases List.mem_cons.1 hy with rfl | hy
      · simpa using he
      · exact wEs_zero h y hy
theorem wr_take {l : List wrT.El} {i : Nat} {w : wrT.El} {m : List pairT.El} (h : l[i]? = some w) : (l.take (i + 1)).foldl wr1 m = wr1 ((l.take i).foldl wr1 m) w := by
  rw [List.take_add_one, h, List.foldl_append]
  rfl
theorem wr_len : ∀ {l : List wrT.El} {m : List pairT.El}, (l.foldl wr1 m).length ≤ m.length + l.length
  | [], m => by simp
  | w :: l, m => by
    have h1 := wr_len (l := l) (m := wr1 m w)
    have h2 : (wr1 m w).length ≤ m.length + 1 := chT_len _ _
    show (l.foldl wr1 (wr1 m w)).length ≤ _
    rw [List.length_cons]
    omega
/-- Differences as writes. -/
def itW (x : itemT.El) : wrT.El := (x.2.1, x.2.2.2.1, decide (x.1 = (2 : Int)), ())
theorem itW_one {m : List pairT.El} {x : itemT.El} : wr1 m (itW x) = chS m x := by
  unfold wr1 chS
  congr 1
  show (if decide (x.1 = (2 : Int)) = true then none else some x.2.2.2.1) = if x.1 = (2 : Int) then none else some x.2.2.2.1
  by_cases h : x.1 = (2 : Int)
  · rw [if_pos (by simpa using h), if_pos h]
  · rw [if_neg (by simpa using h), if_neg h]
end Go.Proofs.Ytbbklijmnknmhaa
namespace Go.Proofs.Ytbbklijmnknmhaa
open Av Bk

def spSameP : DSpec
  | [.lst (.st [.str, .str]) a, .lst (.st [.str, .str]) b] => some (a.length ≤ 4611686018427387904, .bool (sameL pairT a b))
  | _ => none
set_option maxRecDepth 100000 in
theorem fnOk_same05 : FnOk Try.prog 18 Try.f18 := ⟨by rfl, by kernel_rfl, by
  show okCode _ _ = true ∧ drawsOk _ = true
  exact ⟨by kernel_rfl, by kernel_rfl⟩⟩
set_option maxRecDepth 100000 in
set_option maxHeartbeats 2000000 in
theorem same05_ok : SpecOk Try.prog 18 spSameP := by
  refine spec_body (C := cx0) mixed tbOk SpecsOk.nil (callN_ok (C := cx0) mixed tbOk SpecsOk.nil FnsOk.nil 0) fnOk_same05 ?_
  intro ys p r h hp
  unfold spSameP at h
  split at h
  · rename_i a b
    cases h
    conv => whnf
    repeat' first
      | ((first | refine auT ?_ | refine auF ?_ | with_reducible first | refine auKt ?_ | refine auKf ?_ | refine auNt ?_ | refine auNf ?_ | refine auEt ?_ | refine auEf ?_); conv => whnf)
      | ((with_reducible first | refine br_dec (fun h => ?_) (fun h => ?_) | refine br_ndec (fun h => ?_) (fun h => ?_) | refine br_ne (fun h => ?_) (fun h => ?_) | refine br_eq (fun h => ?_) (fun h => ?_)) <;> first | (exfalso; omega) | conv => whnf)
      | (refine br_intro (fun h => ?_) (fun h => ?_) <;> conv => whnf)
      | ((first | refine auNd ?_ | refine idx_nat (by omega) (fun x hx => ?_) | refine frz_auto ?_ | refine draw_plain ?_ | refine auIx (fun x hx => ?_)); conv => whnf)
      | ((first | refine bx_idx ?_ | refine bx_intro (fun b hb => ?_)); conv => whnf)
    · refine congrArg AV.bool ?_
      rw [same_len (by omega)]
    · rename_i hlen
      refine loop_inv [] [5] (fun vs h => ∃ i : Nat, vs = [.int .i64 (i : Int)] ∧ h = [] ∧ i ≤ a.length ∧ sameL pairT a b = sameL pairT (a.drop i) (b.drop i)) (fun vs _ => match vs with | [.int _ k] => a.length - k.toNat | _ => 0) ?_
      refine ⟨⟨0, rfl, rfl, Nat.zero_le _, rfl⟩, ?_⟩
      rintro vs h' - ⟨i, rfl, rfl, hi, hs⟩
      by_cases hil : i < a.length
      · obtain ⟨x, hx⟩ : ∃ x, a[i]? = some x := ⟨_, List.getElem?_eq_getElem hil⟩
        obtain ⟨y, hy⟩ : ∃ y, b[i]? = some y := ⟨_, List.getElem?_eq_getElem (by omega)⟩
        rw [same_step hx hy] at hs
        conv => whnf
        repeat' first
          | ((first | refine auIk ?_ | refine auIi ?_ | refine auT ?_ | refine auF ?_ | with_reducible first | refine auKt ?_ | refine auKf ?_ | refine auNt ?_ | refine auNf ?_ | refine auEt ?_ | refine auEf ?_); conv => whnf)
          | ((with_reducible first | refine br_dec (fun h => ?_) (fun h => ?_) | refine br_ndec (fun h => ?_) (fun h => ?_) | refine br_ne (fun h => ?_) (fun h => ?_) | refine br_eq (fun h => ?_) (fun h => ?_)) <;> first | (exfalso; omega) | conv => whnf)
          | (refine br_intro (fun h => ?_) (fun h => ?_) <;> conv => whnf)
          | ((first | refine auNd ?_ | refine idx_nat (by omega) (fun x hx => ?_) | refine frz_auto ?_ | refine draw_plain ?_ | refine auIx (fun x hx => ?_)); conv => whnf)
          | ((first | refine bx_idx ?_ | refine bx_intro (fun b hb => ?_)); conv => whnf)
        · rw [hs, show eqT pairT x y = false from bnt h]
          rfl
        · rw [show eqT pairT x y = true from bnf h] at hs
          refine back_intro (by conv => whnf) rfl ⟨i + 1, rfl, rfl, by omega, hs⟩ ?_
          show a.length - ((i : Int) + 1).toNat < a.length - (i : Int).toNat
          omega
      · conv => whnf
        repeat' first
          | ((first | refine auIk ?_ | refine auIi ?_ | refine auT ?_ | refine auF ?_ | with_reducible first | refine auKt ?_ | refine auKf ?_ | refine auNt ?_ | refine auNf ?_ | refine auEt ?_ | refine auEf ?_); conv => whnf)
          | ((with_reducible first | refine br_dec (fun h => ?_) (fun h => ?_) | refine br_ndec (fun h => ?_) (fun h => ?_) | refine br_ne (fun h => ?_) (fun h => ?_) | refine br_eq (fun h => ?_) (fun h => ?_)) <;> first | (exfalso; omega) | conv => whnf)
          | (refine br_intro (fun h => ?_) (fun h => ?_) <;> conv => whnf)
          | ((first | refine auNd ?_ | refine idx_nat (by omega) (fun x hx => ?_) | refine frz_auto ?_ | refine draw_plain ?_ | refine auIx (fun x hx => ?_)); conv => whnf)
          | ((first | refine bx_idx ?_ | refine bx_intro (fun b hb => ?_)); conv => whnf)
        rw [hs, same_end (by omega) (by omega)]
  · cases h
def spSameI : DSpec
  | [.lst (.st [.int .i64, .str, .str, .str]) a, .lst (.st [.int .i64, .str, .str, .str]) b] => some (a.length ≤ 4611686018427387904, .bool (sameL itemT a b))
  | _ => none
set_option maxRecDepth 100000 in
theorem fnOk_sameIt : FnOk Try.prog 21 Try.f21 := ⟨by rfl, by kernel_rfl, by
  show okCode _ _ = true ∧ drawsOk _ = true
  exact ⟨by kernel_rfl, by kernel_rfl⟩⟩
set_option maxRecDepth 100000 in
set_option maxHeartbeats 2000000 in
theorem sameIt_ok : SpecOk Try.prog 21 spSameI := by
  refine spec_body (C := cx0) mixed tbOk SpecsOk.nil (callN_ok (C := cx0) mixed tbOk SpecsOk.nil FnsOk.nil 0) fnOk_sameIt ?_
  intro ys p r h hp
  unfold spSameI at h
  split at h
  · rename_i a b
    cases h
    conv => whnf
    repeat' first
      | ((first | refine auT ?_ | refine auF ?_ | with_reducible first | refine auKt ?_ | refine auKf ?_ | refine auNt ?_ | refine auNf ?_ | refine auEt ?_ | refine auEf ?_); conv => whnf)
      | ((with_reducible first | refine br_dec (fun h => ?_) (fun h => ?_) | refine br_ndec (fun h => ?_) (fun h => ?_) | refine br_ne (fun h => ?_) (fun h => ?_) | refine br_eq (fun h => ?_) (fun h => ?_)) <;> first | (exfalso; omega) | conv => whnf)
      | (refine br_intro (fun h => ?_) (fun h => ?_) <;> conv => whnf)
      | ((first | refine auNd ?_ | refine idx_nat (by omega) (fun x hx => ?_) | refine frz_auto ?_ | refine draw_plain ?_ | refine auIx (fun x hx => ?_)); conv => whnf)
      | ((first | refine bx_idx ?_ | refine bx_intro (fun b hb => ?_)); conv => whnf)
    · refine congrArg AV.bool ?_
      rw [same_len (by omega)]
    · rename_i hlen
      refine loop_inv [] [5] (fun vs h => ∃ i : Nat, vs = [.int .i64 (i : Int)] ∧ h = [] ∧ i ≤ a.length ∧ sameL itemT a b = sameL itemT (a.drop i) (b.drop i)) (fun vs _ => match vs with | [.int _ k] => a.length - k.toNat | _ => 0) ?_
      refine ⟨⟨0, rfl, rfl, Nat.zero_le _, rfl⟩, ?_⟩
      rintro vs h' - ⟨i, rfl, rfl, hi, hs⟩
      by_cases hil : i < a.length
      · obtain ⟨x, hx⟩ : ∃ x, a[i]? = some x := ⟨_, List.getElem?_eq_getElem hil⟩
        obtain ⟨y, hy⟩ : ∃ y, b[i]? = some y := ⟨_, List.getElem?_eq_getElem (by omega)⟩
        rw [same_step hx hy] at hs
        conv => whnf
        repeat' first
          | ((first | refine auIk ?_ | refine auIi ?_ | refine auT ?_ | refine auF ?_ | with_reducible first | refine auKt ?_ | refine auKf ?_ | refine auNt ?_ | refine auNf ?_ | refine auEt ?_ | refine auEf ?_); conv => whnf)
          | ((with_reducible first | refine br_dec (fun h => ?_) (fun h => ?_) | refine br_ndec (fun h => ?_) (fun h => ?_) | refine br_ne (fun h => ?_) (fun h => ?_) | refine br_eq (fun h => ?_) (fun h => ?_)) <;> first | (exfalso; omega) | conv => whnf)
          | (refine br_intro (fun h => ?_) (fun h => ?_) <;> conv => whnf)
          | ((first | refine auNd ?_ | refine idx_nat (by omega) (fun x hx => ?_) | refine frz_auto ?_ | refine draw_plain ?_ | refine auIx (fun x hx => ?_)); conv => whnf)
          | ((first | refine bx_idx ?_ | refine bx_intro (fun b hb => ?_)); conv => whnf)
        · rw [hs, show eqT itemT x y = false from bnt h]
          rfl
        · rw [show eqT itemT x y = true from bnf h] at hs
          refine back_intro (by conv => whnf) rfl ⟨i + 1, rfl, rfl, by omega, hs⟩ ?_
          show a.length - ((i : Int) + 1).toNat < a.length - (i : Int).toNat
          omega
      · conv => whnf
        repeat' first
          | ((first | refine auIk ?_ | refine auIi ?_ | refine auT ?_ | refine auF ?_ | with_reducible first | refine auKt ?_ | refine auKf ?_ | refine auNt ?_ | refine auNf ?_ | refine auEt ?_ | refine auEf ?_); conv => whnf)
          | ((with_reducible first | refine br_dec (fun h => ?_) (fun h => ?_) | refine br_ndec (fun h => ?_) (fun h => ?_) | refine br_ne (fun h => ?_) (fun h => ?_) | refine br_eq (fun h => ?_) (fun h => ?_)) <;> first | (exfalso; omega) | conv => whnf)
          | (refine br_intro (fun h => ?_) (fun h => ?_) <;> conv => whnf)
          | ((first | refine auNd ?_ | refine idx_nat (by omega) (fun x hx => ?_) | refine frz_auto ?_ | refine draw_plain ?_ | refine auIx (fun x hx => ?_)); conv => whnf)
          | ((first | refine bx_idx ?_ | refine bx_intro (fun b hb => ?_)); conv => whnf)
        rw [hs, same_end (by omega) (by omega)]
  · cases h

end Go.Proofs.Ytbbklijmnknmhaa
namespace Go.Proofs.Ytbbklijmnknmhaa
open Av Bk

def spWC : DSpec
  | [.lst (.st [.str, .str, .bool]) l] => some (l.length ≤ 4611686018427387904, .int .i64 (wEL l))
  | _ => none
theorem wEL_some {l : List wrT.El} (h0 : l.length ≠ 0) (h8 : ¬ 8 < (l.length : Int)) : wEL l = wEs l := by
  unfold wEL
  rw [if_neg h0, if_neg h8]
theorem wE1_len {w : wrT.El} (h : 32 < (w.1.size : Int) ∨ 64 < (w.2.1.size : Int)) : wE1 w = 3 := if_pos h
theorem wE1_form {w : wrT.El} (h : ¬ (32 < (w.1.size : Int) ∨ 64 < (w.2.1.size : Int))) (hd : w.2.2.1 = true) (hv : sEq w.2.1 ⟨#[]⟩ = false) : wE1 w = 6 := by
  unfold wE1
  rw [if_neg h, if_pos ⟨hd, hv⟩]
theorem wE1_ok {w : wrT.El} (h : ¬ (32 < (w.1.size : Int) ∨ 64 < (w.2.1.size : Int))) (hd : w.2.2.1 = false ∨ sEq w.2.1 ⟨#[]⟩ = true) : wE1 w = 0 := by
  unfold wE1
  rw [if_neg h, if_neg]
  rintro ⟨h1, h2⟩
  rcases hd with hd | hd
  · rw [hd] at h1; cases h1
  · rw [hd] at h2; cases h2
set_option maxRecDepth 100000 in
theorem fnOk_mwCheck : FnOk Try.prog 50 Try.f50 := ⟨by rfl, by kernel_rfl, by
  show okCode _ _ = true ∧ drawsOk _ = true
  exact ⟨by kernel_rfl, by kernel_rfl⟩⟩
set_option maxRecDepth 100000 in
set_option maxHeartbeats 4000000 in
theorem mwCheck_ok : SpecOk Try.prog 50 spWC := by
  refine spec_body (C := cx0) mixed tbOk SpecsOk.nil (callN_ok (C := cx0) mixed tbOk SpecsOk.nil FnsOk.nil 0) fnOk_mwCheck ?_
  intro ys p r h hp
  unfold spWC at h
  split at h
  · rename_i l
    cases h
    by_cases h0 : l.length = 0
    · have e : wEL l = 6 := by unfold wEL; rw [if_pos h0]
      conv => whnf
      repeat' first
        | ((first | refine auIk ?_ | refine auIi ?_ | refine auT ?_ | refine auF ?_ | with_reducible first | refine auKt ?_ | refine auKf ?_ | refine auNt ?_ | refine auNf ?_ | refine auEt ?_ | refine auEf ?_); conv => whnf)
        | ((with_reducible first | refine br_dec (fun h => ?_) (fun h => ?_) | refine br_ndec (fun h => ?_) (fun h => ?_) | refine br_ne (fun h => ?_) (fun h => ?_) | refine br_eq (fun h => ?_) (fun h => ?_)) <;> first | (exfalso; omega) | conv => whnf)
        | (refine br_intro (fun h => ?_) (fun h => ?_) <;> conv => whnf)
        | ((first | refine auNd ?_ | refine idx_nat (by omega) (fun x hx => ?_) | refine frz_auto ?_ | refine draw_plain ?_ | refine auIx (fun x hx => ?_)); conv => whnf)
        | ((first | refine bx_idx ?_ | refine bx_intro (fun b hb => ?_)); conv => whnf)
      all_goals first
        | (rw [e]; done)
        | (exfalso; omega)
        | skip
    · by_cases h8 : 8 < (l.length : Int)
      · have e : wEL l = 3 := by unfold wEL; rw [if_neg h0, if_pos h8]
        conv => whnf
        repeat' first
          | ((first | refine auIk ?_ | refine auIi ?_ | refine auT ?_ | refine auF ?_ | with_reducible first | refine auKt ?_ | refine auKf ?_ | refine auNt ?_ | refine auNf ?_ | refine auEt ?_ | refine auEf ?_); conv => whnf)
          | ((with_reducible first | refine br_dec (fun h => ?_) (fun h => ?_) | refine br_ndec (fun h => ?_) (fun h => ?_) | refine br_ne (fun h => ?_) (fun h => ?_) | refine br_eq (fun h => ?_) (fun h => ?_)) <;> first | (exfalso; omega) | conv => whnf)
          | (refine br_intro (fun h => ?_) (fun h => ?_) <;> conv => whnf)
          | ((first | refine auNd ?_ | refine idx_nat (by omega) (fun x hx => ?_) | refine frz_auto ?_ | refine draw_plain ?_ | refine auIx (fun x hx => ?_)); conv => whnf)
          | ((first | refine bx_idx ?_ | refine bx_intro (fun b hb => ?_)); conv => whnf)
        all_goals first
          | (rw [e]; done)
          | (exfalso; omega)
          | skip
      · have e := wEL_some h0 h8
        conv => whnf
        repeat' first
          | ((first | refine auIk ?_ | refine auIi ?_ | refine auT ?_ | refine auF ?_ | with_reducible first | refine auKt ?_ | refine auKf ?_ | refine auNt ?_ | refine auNf ?_ | refine auEt ?_ | refine auEf ?_); conv => whnf)
          | ((with_reducible first | refine br_dec (fun h => ?_) (fun h => ?_) | refine br_ndec (fun h => ?_) (fun h => ?_) | refine br_ne (fun h => ?_) (fun h => ?_) | refine br_eq (fun h => ?_) (fun h => ?_)) <;> first | (exfalso; omega) | conv => whnf)
          | (refine br_intro (fun h => ?_) (fun h => ?_) <;> conv => whnf)
          | ((first | refine auNd ?_ | refine idx_nat (by omega) (fun x hx => ?_) | refine frz_auto ?_ | refine draw_plain ?_ | refine auIx (fun x hx => ?_)); conv => whnf)
          | ((first | refine bx_idx ?_ | refine bx_intro (fun b hb => ?_)); conv => whnf)
        refine loop_inv [] [15] (fun vs h => ∃ i : Nat, vs = [.int .i64 (i : Int)] ∧ h = [] ∧ i ≤ l.length ∧ ∀ y ∈ l.take i, wE1 y = 0) (fun vs _ => match vs with | [.int _ k] => l.length - k.toNat | _ => 0) ?_
        conv => whnf
        refine ⟨⟨0, rfl, rfl, by omega, by simp⟩, ?_⟩
        rintro vs h' - ⟨i, rfl, rfl, hi, hall⟩
        by_cases hil : i < l.length
        · obtain ⟨y, hy⟩ : ∃ y, l[i]? = some y := ⟨_, List.getElem?_eq_getElem hil⟩
          by_cases hbig : 32 < (y.1.size : Int) ∨ 64 < (y.2.1.size : Int)
          · have h1 := wEs_at hall hy (by rw [wE1_len hbig]; decide)
            rw [wE1_len hbig] at h1
            conv => whnf
            repeat' first
              | ((first | refine auIk ?_ | refine auIi ?_ | refine auT ?_ | refine auF ?_ | with_reducible first | refine auKt ?_ | refine auKf ?_ | refine auNt ?_ | refine auNf ?_ | refine auEt ?_ | refine auEf ?_); conv => whnf)
              | ((with_reducible first | refine br_dec (fun h => ?_) (fun h => ?_) | refine br_ndec (fun h => ?_) (fun h => ?_) | refine br_ne (fun h => ?_) (fun h => ?_) | refine br_eq (fun h => ?_) (fun h => ?_)) <;> first | (exfalso; omega) | conv => whnf)
              | (refine br_intro (fun h => ?_) (fun h => ?_) <;> conv => whnf)
              | ((first | refine auNd ?_ | refine idx_nat (by omega) (fun x hx => ?_) | refine frz_auto ?_ | refine draw_plain ?_ | refine auIx (fun x hx => ?_)); conv => whnf)
              | ((first | refine bx_idx ?_ | refine bx_intro (fun b hb => ?_)); conv => whnf)
            all_goals first
              | (rw [e, h1]; done)
              | (exfalso; omega)
          · cases hd : y.2.2.1 with
            | true =>
              cases hv : sEq y.2.1 ⟨#[]⟩ with
              | false =>
                have h1 := wEs_at hall hy (by rw [wE1_form hbig hd hv]; decide)
                rw [wE1_form hbig hd hv] at h1
                conv => whnf
                repeat' first
                  | ((first | refine auIk ?_ | refine auIi ?_ | refine auT ?_ | refine auF ?_ | with_reducible first | refine auKt ?_ | refine auKf ?_ | refine auNt ?_ | refine auNf ?_ | refine auEt ?_ | refine auEf ?_); conv => whnf)
                  | ((with_reducible first | refine br_dec (fun h => ?_) (fun h => ?_) | refine br_ndec (fun h => ?_) (fun h => ?_) | refine br_ne (fun h => ?_) (fun h => ?_) | refine br_eq (fun h => ?_) (fun h => ?_)) <;> first | (exfalso; omega) | conv => whnf)
                  | (refine br_intro (fun h => ?_) (fun h => ?_) <;> conv => whnf)
                  | ((first | refine auNd ?_ | refine idx_nat (by omega) (fun x hx => ?_) | refine frz_auto ?_ | refine draw_plain ?_ | refine auIx (fun x hx => ?_)); conv => whnf)
                  | ((first | refine bx_idx ?_ | refine bx_intro (fun b hb => ?_)); conv => whnf)
                all_goals first
                  | (rw [e, h1]; done)
                  | (exfalso; omega)
                  | (exfalso; simp_all; done)
              | true =>
                conv => whnf
                repeat' first
                  | ((first | refine auIk ?_ | refine auIi ?_ | refine auT ?_ | refine auF ?_ | with_reducible first | refine auKt ?_ | refine auKf ?_ | refine auNt ?_ | refine auNf ?_ | refine auEt ?_ | refine auEf ?_); conv => whnf)
                  | ((with_reducible first | refine br_dec (fun h => ?_) (fun h => ?_) | refine br_ndec (fun h => ?_) (fun h => ?_) | refine br_ne (fun h => ?_) (fun h => ?_) | refine br_eq (fun h => ?_) (fun h => ?_)) <;> first | (exfalso; omega) | conv => whnf)
                  | (refine br_intro (fun h => ?_) (fun h => ?_) <;> conv => whnf)
                  | ((first | refine auNd ?_ | refine idx_nat (by omega) (fun x hx => ?_) | refine frz_auto ?_ | refine draw_plain ?_ | refine auIx (fun x hx => ?_)); conv => whnf)
                  | ((first | refine bx_idx ?_ | refine bx_intro (fun b hb => ?_)); conv => whnf)
                all_goals first
                  | (exfalso; omega)
                  | (exfalso; simp_all; done)
                  | (refine back_intro (by conv => whnf) rfl ⟨i + 1, rfl, rfl, by omega, take_succ_all hall hy (wE1_ok hbig (.inr hv))⟩ ?_
                     show l.length - ((i : Int) + 1).toNat < l.length - (i : Int).toNat
                     omega)
            | false =>
              conv => whnf
              repeat' first
                | ((first | refine auIk ?_ | refine auIi ?_ | refine auT ?_ | refine auF ?_ | with_reducible first | refine auKt ?_ | refine auKf ?_ | refine auNt ?_ | refine auNf ?_ | refine auEt ?_ | refine auEf ?_); conv => whnf)
                | ((with_reducible first | refine br_dec (fun h => ?_) (fun h => ?_) | refine br_ndec (fun h => ?_) (fun h => ?_) | refine br_ne (fun h => ?_) (fun h => ?_) | refine br_eq (fun h => ?_) (fun h => ?_)) <;> first | (exfalso; omega) | conv => whnf)
                | (refine br_intro (fun h => ?_) (fun h => ?_) <;> conv => whnf)
                | ((first | refine auNd ?_ | refine idx_nat (by omega) (fun x hx => ?_) | refine frz_auto ?_ | refine draw_plain ?_ | refine auIx (fun x hx => ?_)); conv => whnf)
                | ((first | refine bx_idx ?_ | refine bx_intro (fun b hb => ?_)); conv => whnf)
              all_goals first
                | (exfalso; omega)
                | (exfalso; simp_all; done)
                | (refine back_intro (by conv => whnf) rfl ⟨i + 1, rfl, rfl, by omega, take_succ_all hall hy (wE1_ok hbig (.inl hd))⟩ ?_
                   show l.length - ((i : Int) + 1).toNat < l.length - (i : Int).toNat
                   omega)
        · conv => whnf
          repeat' first
            | ((first | refine auIk ?_ | refine auIi ?_ | refine auT ?_ | refine auF ?_ | with_reducible first | refine auKt ?_ | refine auKf ?_ | refine auNt ?_ | refine auNf ?_ | refine auEt ?_ | refine auEf ?_); conv => whnf)
            | ((with_reducible first | refine br_dec (fun h => ?_) (fun h => ?_) | refine br_ndec (fun h => ?_) (fun h => ?_) | refine br_ne (fun h => ?_) (fun h => ?_) | refine br_eq (fun h => ?_) (fun h => ?_)) <;> first | (exfalso; omega) | conv => whnf)
            | (refine br_intro (fun h => ?_) (fun h => ?_) <;> conv => whnf)
            | ((first | refine auNd ?_ | refine idx_nat (by omega) (fun x hx => ?_) | refine frz_auto ?_ | refine draw_plain ?_ | refine auIx (fun x hx => ?_)); conv => whnf)
            | ((first | refine bx_idx ?_ | refine bx_intro (fun b hb => ?_)); conv => whnf)
          rw [List.take_of_length_le (by omega)] at hall
          rw [e, wEs_end hall]
  · cases h
set_option maxRecDepth 100000 in
theorem fnOk_mFind : FnOk Try.prog 52 Try.f52 := ⟨by rfl, by kernel_rfl, by
  show okCode _ _ = true ∧ drawsOk _ = true
  exact ⟨by kernel_rfl, by kernel_rfl⟩⟩
set_option maxRecDepth 100000 in
theorem fnOk_mFind1 : FnOk Try.prog 87 Try.f87 := ⟨by rfl, by kernel_rfl, by
  show okCode _ _ = true ∧ drawsOk _ = true
  exact ⟨by kernel_rfl, by kernel_rfl⟩⟩
noncomputable def cxyc : Cx := ⟨tb, [(87, Try.f87), (86, Try.f86)], [(57, spCmp)]⟩
theorem specsyc : SpecsOk Try.prog cxyc.specs := .cons cmpStr_ok .nil
theorem fnsyc : FnsOk Try.prog cxyc.fns := .cons fnOk_mFind1 (.cons fnOk_bSrP .nil)
set_option maxRecDepth 100000 in
set_option maxHeartbeats 2000000 in
theorem mFind_ok : SpecOk Try.prog 52 spFd := by
  refine spec_body (C := cxyc) mixed tbOk specsyc (callN_ok (C := cxyc) mixed tbOk specsyc fnsyc 3) fnOk_mFind ?_
  intro ys p r h hp
  unfold spFd at h
  split at h
  · rename_i l key
    cases h
    obtain ⟨ha, hl⟩ := hp
    have hle := lbP_le key l
    have hf := lkV_lb ha key
    conv => whnf
    refine loop_inv [] [9, 10] (fun vs h => ∃ i j : Nat, vs = [.int .i64 (i : Int), .int .i64 (j : Int)] ∧ h = [] ∧ i ≤ lbP key l ∧ lbP key l ≤ j ∧ j ≤ l.length) (fun vs _ => match vs with | [.int _ i, .int _ j] => j.toNat - i.toNat | _ => 0) ?_
    conv => whnf
    refine ⟨⟨0, l.length, rfl, rfl, Nat.zero_le _, hle, Nat.le_refl _⟩, ?_⟩
    rintro vs h' - ⟨i, j, rfl, rfl, hi, hj, hjl⟩
    have hm : ((i : Int) + j) / 2 ^ Int.toNat 1 = (((i + j) / 2 : Nat) : Int) := by
      show ((i : Int) + j) / 2 = _
      omega
    conv => whnf
    repeat' first
      | ((first | refine auT ?_ | refine auF ?_ | with_reducible first | refine auKt ?_ | refine auKf ?_ | refine auNt ?_ | refine auNf ?_ | refine auEt ?_ | refine auEf ?_); conv => whnf)
      | ((with_reducible first | refine br_dec (fun h => ?_) (fun h => ?_) | refine br_ndec (fun h => ?_) (fun h => ?_) | refine br_ne (fun h => ?_) (fun h => ?_) | refine br_eq (fun h => ?_) (fun h => ?_)) <;> first | (exfalso; omega) | conv => whnf)
      | (refine br_intro (fun h => ?_) (fun h => ?_) <;> conv => whnf)
      | ((first | refine auNd ?_ | refine idx_nat (by omega) (fun x hx => ?_) | refine frz_auto ?_ | refine draw_plain ?_ | refine auIx (fun x hx => ?_)); conv => whnf)
      | ((first | refine bx_idx ?_ | refine bx_intro (fun b hb => ?_)); conv => whnf)
    · rw [hm] at hx
      have hx : l[(i + j) / 2]? = some x := hx
      have hlt : (i + j) / 2 < lbP key l := by
        rcases Nat.lt_or_ge ((i + j) / 2) (lbP key l) with h1 | h1
        · exact h1
        · have h2 := ordS_lt.1 h
          rw [lbP_ge ha h1 hx] at h2; cases h2
      refine back_intro (by conv => whnf) rfl ⟨(i + j) / 2 + 1, j, ?_, rfl, by omega, hj, hjl⟩ ?_
      · exact two_int (by rw [hm]; rfl) rfl
      · show (j : Int).toNat - (((i : Int) + j) / 2 ^ Int.toNat 1 + 1).toNat < (j : Int).toNat - (i : Int).toNat
        rw [hm]
        omega
    · rw [hm] at hx
      have hx : l[(i + j) / 2]? = some x := hx
      have hge : lbP key l ≤ (i + j) / 2 := by
        rcases Nat.lt_or_ge ((i + j) / 2) (lbP key l) with h1 | h1
        · exact absurd (ordS_lt.2 (lbP_lt ha h1 hx)) h
        · exact h1
      refine back_intro (by conv => whnf) rfl ⟨i, (i + j) / 2, ?_, rfl, hi, hge, by omega⟩ ?_
      · exact two_int rfl hm
      · show (((i : Int) + j) / 2 ^ Int.toNat 1).toNat - (i : Int).toNat < (j : Int).toNat - (i : Int).toNat
        rw [hm]
        omega
    · have e : i = lbP key l := by omega
      subst e
      have hb : (ordS x.1 key == 0) = sEq x.1 key := by
        rw [Bool.eq_iff_iff, beq_iff_eq]
        exact ordS_eq
      rw [hf, hx, hb]
      cases h3 : sEq x.1 key <;> simp [h3]
    · have e : i = lbP key l := by omega
      subst e
      rw [hf, List.getElem?_eq_none (by omega)]
      rfl
  · cases h
end Go.Proofs.Ytbbklijmnknmhaa
