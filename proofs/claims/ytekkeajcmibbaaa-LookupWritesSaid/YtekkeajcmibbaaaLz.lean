/-
  Where an entry is, by the reference.
  One entry put over a list, by the reference.
  One entry put over a list, by the reference: the walk.
  A view with one entry put over its buffer: plain Lean.
  The law of writes.
-/
import Derived.Test.YtekkeajcmibbaaaLh
import Derived.Test.YtekkeajcmibbaaaLsa
namespace Go.Proofs.Ytekkeajcmibbaaa
open Av Bk

def atR (k : ByteArray) : Int → List entT.El → Int
  | _, [] => -1
  | i, y :: l => if sEq y.1 k = true then i else atR k (i + 1) l
theorem atR_hit {k : ByteArray} : ∀ {l : List entT.El} {i : Nat} {n : Int} {x : entT.El}, (∀ y ∈ l.take i, sEq y.1 k = false) → l[i]? = some x → sEq x.1 k = true → atR k n l = n + i
  | [], i, n, x, _, h, _ => by simp at h
  | y :: l, 0, n, x, _, h, hx => by
    simp at h; subst h
    rw [atR, if_pos hx]; simp
  | y :: l, i + 1, n, x, hn, h, hx => by
    rw [atR, if_neg (by rw [hn y (by simp)]; decide), atR_hit (i := i) (x := x) (fun z hz => hn z (by simp [hz])) (by simpa using h) hx]
    omega
theorem atR_no {k : ByteArray} : ∀ {l : List entT.El} {n : Int}, (∀ y ∈ l, sEq y.1 k = false) → atR k n l = -1
  | [], _, _ => rfl
  | y :: l, n, h => by
    rw [atR, if_neg (by rw [h y (by simp)]; decide), atR_no (fun z hz => h z (by simp [hz]))]
theorem int_eq {a b : Int} (h : a = b) : AV.int .i64 a = AV.int .i64 b := by rw [h]
def spAt : DSpec
  | [.lst (.st [.str, .str, .bool, .int .i64]) l, .str k] => some (l.length ≤ 1000000000, .int .i64 (atR k 0 l))
  | _ => none
set_option maxRecDepth 100000 in
theorem fnOk_rfAt : FnOk Try.prog 65 Try.f65 := ⟨by rfl, by kernel_rfl, by
  show okCode _ _ = true ∧ drawsOk _ = true
  exact ⟨by kernel_rfl, by kernel_rfl⟩⟩
set_option maxRecDepth 100000 in
set_option maxHeartbeats 2000000 in
theorem rfAt_ok : SpecOk Try.prog 65 spAt := by
  refine spec_body (C := cx0) mixed tbOk SpecsOk.nil (callN_ok (C := cx0) mixed tbOk SpecsOk.nil FnsOk.nil 0) fnOk_rfAt ?_
  intro ys p r h hp
  unfold spAt at h
  split at h
  · rename_i l k
    cases h
    conv => whnf
    refine loop_inv [] [5] (fun vs h => ∃ i : Nat, vs = [.int .i64 (i : Int)] ∧ h = [] ∧ i ≤ l.length ∧ ∀ y ∈ l.take i, sEq y.1 k = false) (fun vs _ => match vs with | [.int _ j] => l.length - j.toNat | _ => 0) ?_
    conv => whnf
    refine ⟨⟨0, rfl, rfl, by omega, by simp⟩, ?_⟩
    rintro vs h' - ⟨i, rfl, rfl, hi, hno⟩
    by_cases hil : i < l.length
    · obtain ⟨x, hx⟩ : ∃ x, l[i]? = some x := ⟨_, List.getElem?_eq_getElem hil⟩
      conv => whnf
      repeat' first
        | (refine idx_kn (by assumption) ?_; conv => whnf)
        | (refine idx_ki (by assumption) (by omega) ?_; conv => whnf)
        | (refine br_true (by first | with_reducible exact rfl | assumption | decide) ?_; conv => whnf)
        | (refine br_false (by first | with_reducible exact rfl | assumption | decide) ?_; conv => whnf)
        | ((with_reducible refine br_kt (by assumption) ?_); conv => whnf)
        | ((with_reducible refine br_kf (by assumption) ?_); conv => whnf)
        | ((with_reducible refine br_nt (by assumption) ?_); conv => whnf)
        | ((with_reducible refine br_nf (by assumption) ?_); conv => whnf)
        | ((with_reducible refine br_et (by assumption) ?_); conv => whnf)
        | ((with_reducible refine br_ef (by assumption) ?_); conv => whnf)
        | ((with_reducible refine br_dec (fun h => ?_) (fun h => ?_)) <;> first | (exfalso; omega) | conv => whnf)
        | ((with_reducible refine br_ndec (fun h => ?_) (fun h => ?_)) <;> first | (exfalso; omega) | conv => whnf)
        | ((with_reducible refine br_ne (fun h => ?_) (fun h => ?_)) <;> first | (exfalso; omega) | conv => whnf)
        | ((with_reducible refine br_eq (fun h => ?_) (fun h => ?_)) <;> first | (exfalso; omega) | conv => whnf)
        | (refine br_intro (fun h => ?_) (fun h => ?_) <;> conv => whnf)
        | (refine need_in (by first | exact trivial | assumption | exact ⟨rfl, Nat.le_refl _⟩ | exact ⟨rfl, rfl⟩ | (simp only [inR]; omega) | omega | (simp only [roomP, true_and, and_true, List.length_take, List.length_drop, List.length_append, List.length_cons, List.length_nil, List.length_set, List.length_replicate]; omega) | (refine ⟨by first | exact trivial | rfl, by first | exact Nat.le_refl _ | omega | (simp; omega), ?_⟩; change roomP _ _ 1; simp only [roomP]; omega) | (change roomP _ _ 1; simp only [roomP]; omega) | (simp; omega) | (simp [inR]; omega) | (simp [inR]; done) | decide | (simp; done)) ?_; conv => whnf)
        | (refine idx_nat (by omega) (fun x hx => ?_); conv => whnf)
        | (refine frz_auto ?_; conv => whnf)
        | (refine draw_plain ?_; conv => whnf)
        | (refine idx_intro (by omega) (by omega) (fun x hx => ?_); conv => whnf)
        | (refine idx_intro (by first | omega | (simp; omega) | (simp; done)) (by first | omega | (simp; omega) | (simp; done)) (fun x hx => ?_); conv => whnf)
        | fail
      · exact int_eq (by rw [atR_hit hno hx h]; omega)
      · refine back_intro (by conv => whnf) rfl ⟨i + 1, rfl, rfl, by omega, take_succ_all hno hx (by simpa using h)⟩ ?_
        show l.length - ((i : Int) + 1).toNat < l.length - (i : Int).toNat
        omega
    · conv => whnf
      repeat' first
        | (refine idx_kn (by assumption) ?_; conv => whnf)
        | (refine idx_ki (by assumption) (by omega) ?_; conv => whnf)
        | (refine br_true (by first | with_reducible exact rfl | assumption | decide) ?_; conv => whnf)
        | (refine br_false (by first | with_reducible exact rfl | assumption | decide) ?_; conv => whnf)
        | ((with_reducible refine br_kt (by assumption) ?_); conv => whnf)
        | ((with_reducible refine br_kf (by assumption) ?_); conv => whnf)
        | ((with_reducible refine br_nt (by assumption) ?_); conv => whnf)
        | ((with_reducible refine br_nf (by assumption) ?_); conv => whnf)
        | ((with_reducible refine br_et (by assumption) ?_); conv => whnf)
        | ((with_reducible refine br_ef (by assumption) ?_); conv => whnf)
        | ((with_reducible refine br_dec (fun h => ?_) (fun h => ?_)) <;> first | (exfalso; omega) | conv => whnf)
        | ((with_reducible refine br_ndec (fun h => ?_) (fun h => ?_)) <;> first | (exfalso; omega) | conv => whnf)
        | ((with_reducible refine br_ne (fun h => ?_) (fun h => ?_)) <;> first | (exfalso; omega) | conv => whnf)
        | ((with_reducible refine br_eq (fun h => ?_) (fun h => ?_)) <;> first | (exfalso; omega) | conv => whnf)
        | (refine br_intro (fun h => ?_) (fun h => ?_) <;> conv => whnf)
        | (refine need_in (by first | exact trivial | assumption | exact ⟨rfl, Nat.le_refl _⟩ | exact ⟨rfl, rfl⟩ | (simp only [inR]; omega) | omega | (simp only [roomP, true_and, and_true, List.length_take, List.length_drop, List.length_append, List.length_cons, List.length_nil, List.length_set, List.length_replicate]; omega) | (refine ⟨by first | exact trivial | rfl, by first | exact Nat.le_refl _ | omega | (simp; omega), ?_⟩; change roomP _ _ 1; simp only [roomP]; omega) | (change roomP _ _ 1; simp only [roomP]; omega) | (simp; omega) | (simp [inR]; omega) | (simp [inR]; done) | decide | (simp; done)) ?_; conv => whnf)
        | (refine idx_nat (by omega) (fun x hx => ?_); conv => whnf)
        | (refine frz_auto ?_; conv => whnf)
        | (refine draw_plain ?_; conv => whnf)
        | (refine idx_intro (by omega) (by omega) (fun x hx => ?_); conv => whnf)
        | (refine idx_intro (by first | omega | (simp; omega) | (simp; done)) (by first | omega | (simp; omega) | (simp; done)) (fun x hx => ?_); conv => whnf)
        | fail
      rw [List.take_of_length_le (by omega)] at hno
      exact int_eq (atR_no hno).symm
  · cases h
end Go.Proofs.Ytekkeajcmibbaaa
namespace Go.Proofs.Ytekkeajcmibbaaa
open Av Bk

/-! ### Plain -/
def ovL (l : List entT.El) (x : entT.El) : List entT.El := l.filter (fun y => sLt y.1 x.1) ++ x :: l.filter (fun y => sLt x.1 y.1)
theorem asc_rel {l : List entT.El} (h : ascS l) : ∀ {i j : Nat} {x y : entT.El}, i < j → l[i]? = some x → l[j]? = some y → sLt x.1 y.1 = true := by
  intro i j x y hij hx hy
  obtain ⟨d, rfl⟩ : ∃ d, j = i + 1 + d := ⟨j - (i + 1), by omega⟩
  induction d generalizing y with
  | zero => exact h i x y hx hy
  | succ d ih =>
    obtain ⟨z, hz⟩ : ∃ z, l[i + 1 + d]? = some z := ⟨_, List.getElem?_eq_getElem (by have := (List.getElem?_eq_some_iff.1 hy).1; omega)⟩
    exact sLt_trans (ih (by omega) hz) (h (i + 1 + d) z y hz hy)
theorem mem_take_lt {l : List entT.El} (h : ascS l) {i : Nat} {y z : entT.El} (hy : l[i]? = some y) (hz : z ∈ l.take i) : sLt z.1 y.1 = true := by
  obtain ⟨j, hj⟩ := List.mem_iff_getElem?.1 hz
  rw [List.getElem?_take] at hj
  split at hj
  · exact asc_rel h (by assumption) hj hy
  · cases hj
theorem ov_same {l : List entT.El} {i : Nat} {x y : entT.El} (hy : l[i]? = some y) (he : x.1 = y.1) : ovL (l.take (i + 1)) x = ovL (l.take i) x := by
  unfold ovL
  rw [take_snoc1 hy, List.filter_append, List.filter_append]
  have h1 : [y].filter (fun y => sLt y.1 x.1) = [] := List.filter_cons_of_neg (by rw [he, sLt_irrefl]; decide)
  have h2 : [y].filter (fun y => sLt x.1 y.1) = [] := List.filter_cons_of_neg (by rw [he, sLt_irrefl]; decide)
  rw [h1, h2, List.append_nil, List.append_nil]
theorem ov_len (l : List entT.El) (x : entT.El) : (ovL l x).length ≤ l.length + l.length + 1 := by
  unfold ovL
  rw [List.length_append, List.length_cons]
  have h1 := List.length_filter_le (fun y : entT.El => sLt y.1 x.1) l
  have h2 := List.length_filter_le (fun y : entT.El => sLt x.1 y.1) l
  omega
theorem ov_ins {l : List entT.El} (ha : ascS l) {i j : Nat} {x y : entT.El} (hy : l[i]? = some y) (hne : x.1 ≠ y.1) (hj : j ≤ (ovL (l.take i) x).length) (hd : ∀ z ∈ (ovL (l.take i) x).drop j, sLt y.1 z.1 = true) (hs : j = 0 ∨ ∃ z, (ovL (l.take i) x)[j - 1]? = some z ∧ sLt y.1 z.1 = false) :
    (ovL (l.take i) x).take j ++ y :: (ovL (l.take i) x).drop j = ovL (l.take (i + 1)) x := by
  have hlt : ∀ z ∈ l.take i, sLt z.1 y.1 = true := fun z hz => mem_take_lt ha hy hz
  have hov : ovL (l.take (i + 1)) x = (l.take i).filter (fun y => sLt y.1 x.1) ++ (if sLt y.1 x.1 = true then [y] else []) ++ x :: ((l.take i).filter (fun y => sLt x.1 y.1) ++ (if sLt x.1 y.1 = true then [y] else [])) := by
    unfold ovL
    rw [take_snoc1 hy, List.filter_append, List.filter_append]
    congr 1
    · congr 1; rw [List.filter_cons]; rfl
    · congr 2; rw [List.filter_cons]; rfl
  by_cases hxy : sLt x.1 y.1 = true
  · have hyx : sLt y.1 x.1 = false := sLt_asym hxy
    have hall : ∀ z ∈ ovL (l.take i) x, sLt y.1 z.1 = false := by
      intro z hz
      unfold ovL at hz
      rcases List.mem_append.1 hz with hz | hz
      · exact sLt_asym (hlt z (List.mem_filter.1 hz).1)
      · rcases List.mem_cons.1 hz with rfl | hz
        · exact hyx
        · exact sLt_asym (hlt z (List.mem_filter.1 hz).1)
    have hdn : (ovL (l.take i) x).drop j = [] := by
      cases hdd : (ovL (l.take i) x).drop j with
      | nil => rfl
      | cons z r =>
        have h1 := hd z (by rw [hdd]; simp)
        have h2 := hall z (List.mem_of_mem_drop (by rw [hdd]; simp))
        rw [h1] at h2; cases h2
    have hjl : (ovL (l.take i) x).length ≤ j := List.drop_eq_nil_iff.1 hdn
    rw [hdn, List.take_of_length_le hjl, hov, hyx, hxy]
    unfold ovL
    simp
  · have hyx : sLt y.1 x.1 = true := by
      cases h : sLt y.1 x.1 with
      | true => rfl
      | false => exact absurd (sLt_of h (fun e => hne e.symm)) hxy
    have hR : (l.take i).filter (fun y => sLt x.1 y.1) = [] := List.filter_eq_nil_iff.2 (fun z hz hxz => by
      have := sLt_trans (hlt z hz) hyx
      rw [sLt_asym this] at hxz; cases hxz)
    have hL : (l.take i).filter (fun y => sLt y.1 x.1) = l.take i := List.filter_eq_self.2 (fun z hz => sLt_trans (hlt z hz) hyx)
    have ho : ovL (l.take i) x = l.take i ++ [x] := by unfold ovL; rw [hR, hL]
    rw [hov, hR, hL, if_pos hyx, if_neg hxy]
    rw [ho] at hj hd hs ⊢
    have hlen : (l.take i ++ [x]).length = (l.take i).length + 1 := by simp
    have hjl : j = (l.take i).length := by
      rcases Nat.lt_trichotomy j (l.take i).length with h | h | h
      · exfalso
        rw [List.drop_append_of_le_length (by omega)] at hd
        have hm : (l.take i)[j]'h ∈ (l.take i).drop j ++ [x] := by
          rw [List.drop_eq_getElem_cons h]; simp
        have h1 := hd _ hm
        have h2 := hlt _ (List.getElem_mem h)
        rw [sLt_asym h2] at h1; cases h1
      · exact h
      · exfalso
        have hj1 : j = (l.take i).length + 1 := by omega
        rcases hs with h0 | ⟨z, hz, hz2⟩
        · omega
        · rw [hj1, Nat.add_sub_cancel, List.getElem?_append_right (by omega), Nat.sub_self] at hz
          cases hz
          rw [hyx] at hz2; cases hz2
    rw [hjl, List.take_left' rfl, List.drop_left' rfl]
    simp
end Go.Proofs.Ytekkeajcmibbaaa
namespace Go.Proofs.Ytekkeajcmibbaaa
open Av Bk

theorem ordL_pos {a b : ByteArray} : 0 < ordL a.data.toList b.data.toList ↔ sLt b a = true := by
  cases h : sLt a b with
  | true =>
    have h1 := ordL_slt.2 h
    rw [sLt_asym h]
    constructor
    · intro h2; omega
    · intro h2; cases h2
  | false =>
    have h1 := ordL_sle.2 h
    by_cases he : a = b
    · subst he
      rw [sLt_irrefl]
      unfold ordL
      rw [if_pos rfl]
      simp
    · have h2 : sLt b a = true := sLt_of h he
      constructor
      · intro _; exact h2
      · intro _
        have h3 : ordL a.data.toList b.data.toList ≠ 0 := by
          unfold ordL
          rw [if_neg (fun e => he (ByteArray.ext (Array.toList_inj.1 e)))]
          split <;> decide
        omega
theorem two_eq {t : Ty} {A B : List t.El} {c : AV} (h : A = B) : [AV.lst t A, c] = [AV.lst t B, c] := by rw [h]
theorem app_fin {out : List entT.El} {x : entT.El} {j : Nat} : List.take (min j out.length + min 1 [x].length + (out.length - j)) (List.take j out ++ (List.take 1 [x] ++ List.drop j out)) = List.take j out ++ x :: List.drop j out := by
  rw [List.take_of_length_le]
  · rfl
  · simp only [List.length_append, List.length_take, List.length_drop, List.length_cons, List.length_nil]; omega
theorem ov_mem {l : List entT.El} {x z : entT.El} (h : z ∈ ovL l x) : z = x ∨ z ∈ l := by
  unfold ovL at h
  rcases List.mem_append.1 h with h | h
  · exact .inr (List.mem_filter.1 h).1
  · rcases List.mem_cons.1 h with h | h
    · exact .inl h
    · exact .inr (List.mem_filter.1 h).1
theorem ov_err {l : List entT.El} {i : Nat} {x z : entT.El} (h : ∀ y ∈ l, errX y = 0) (hx : errX x = 0) (hz : z ∈ ovL (l.take i) x) : errX z = 0 := by
  rcases ov_mem hz with rfl | hz
  · exact hx
  · exact h z (List.mem_of_mem_take hz)
def spOver : DSpec
  | [.lst (.st [.str, .str, .bool, .int .i64]) l, .lst (.st [.str, .str, .bool, .int .i64]) [x]] => some ((clL l).2 = 0 ∧ errX x = 0 ∧ l.length ≤ 1000, .tup [.lst entT (ovL l x), .int .i64 0])
  | _ => none
set_option maxRecDepth 100000 in
theorem fnOk_rfOver : FnOk Try.prog 33 Try.f33 := ⟨by rfl, by kernel_rfl, by
  show okCode _ _ = true ∧ drawsOk _ = true
  exact ⟨by kernel_rfl, by kernel_rfl⟩⟩
noncomputable def cxx1 : Cx := ⟨tb, [], [(63, spCL), (65, spAt), (60, spOrder)]⟩
theorem sxx1 : SpecsOk Try.prog cxx1.specs := .cons refCL_ok (.cons rfAt_ok (.cons refOrder_ok .nil))
set_option maxRecDepth 100000 in
set_option maxHeartbeats 4000000 in
theorem rfOver_ok : SpecOk Try.prog 33 spOver := by
  refine spec_body (C := cxx1) mixed tbOk sxx1 (callN_ok (C := cxx1) mixed tbOk sxx1 FnsOk.nil 3) fnOk_rfOver ?_
  intro ys p r h hp
  unfold spOver at h
  split at h
  · rename_i l x
    cases h
    obtain ⟨hcl, hex, hlen⟩ := hp
    have hx1 : (clL [x]).2 = 0 := by
      unfold clL
      rw [if_neg (show ¬ 5000 < [x].length by show ¬ 5000 < 1; decide), clGo, if_neg (by rw [hex]; decide), if_neg (show ¬ falls none x = true from fun e => by cases e)]
      rfl
    obtain ⟨_, herr, hasc⟩ := clL_zero hcl
    conv => whnf
    repeat' first
      | (refine idx_kn (by assumption) ?_; conv => whnf)
      | (refine idx_ki (by assumption) (by omega) ?_; conv => whnf)
      | (refine br_true (by first | with_reducible exact rfl | assumption | decide) ?_; conv => whnf)
      | (refine br_false (by first | with_reducible exact rfl | assumption | decide) ?_; conv => whnf)
      | ((with_reducible refine br_kt (by assumption) ?_); conv => whnf)
      | ((with_reducible refine br_kf (by assumption) ?_); conv => whnf)
      | ((with_reducible refine br_nt (by assumption) ?_); conv => whnf)
      | ((with_reducible refine br_nf (by assumption) ?_); conv => whnf)
      | ((with_reducible refine br_et (by assumption) ?_); conv => whnf)
      | ((with_reducible refine br_ef (by assumption) ?_); conv => whnf)
      | ((with_reducible refine br_dec (fun h => ?_) (fun h => ?_)) <;> first | (exfalso; omega) | conv => whnf)
      | ((with_reducible refine br_ndec (fun h => ?_) (fun h => ?_)) <;> first | (exfalso; omega) | conv => whnf)
      | ((with_reducible refine br_ne (fun h => ?_) (fun h => ?_)) <;> first | (exfalso; omega) | conv => whnf)
      | ((with_reducible refine br_eq (fun h => ?_) (fun h => ?_)) <;> first | (exfalso; omega) | conv => whnf)
      | (refine br_intro (fun h => ?_) (fun h => ?_) <;> conv => whnf)
      | (refine need_in (by first | exact trivial | assumption | exact ⟨rfl, Nat.le_refl _⟩ | exact ⟨rfl, rfl⟩ | (simp only [inR]; omega) | omega | (simp only [roomP, true_and, and_true, List.length_take, List.length_drop, List.length_append, List.length_cons, List.length_nil, List.length_set, List.length_replicate]; omega) | (refine ⟨by first | exact trivial | rfl, by first | exact Nat.le_refl _ | omega | (simp; omega), ?_⟩; change roomP _ _ 1; simp only [roomP]; omega) | (change roomP _ _ 1; simp only [roomP]; omega) | (simp; omega) | (simp [inR]; omega) | (simp [inR]; done) | decide | (simp; done)) ?_; conv => whnf)
      | (refine idx_nat (by omega) (fun x hx => ?_); conv => whnf)
      | (refine frz_auto ?_; conv => whnf)
      | (refine draw_plain ?_; conv => whnf)
      | (refine idx_intro (by omega) (by omega) (fun x hx => ?_); conv => whnf)
      | (refine idx_intro (by first | omega | (simp; omega) | (simp; done)) (by first | omega | (simp; omega) | (simp; done)) (fun x hx => ?_); conv => whnf)
      | fail
    refine loop_inv [.lst 8 entT] [8, 9] (fun vs h => ∃ i : Nat, vs = [.lst entT (ovL (l.take i) x), .int .i64 (i : Int)] ∧ h = [.arr 29 entT [] false 0, .dead] ∧ i ≤ l.length) (fun vs _ => match vs with | [_, .int _ k] => l.length - k.toNat | _ => 0) ?_
    conv => whnf
    refine need_in ⟨rfl, Nat.le_refl _⟩ ?_
    conv => whnf
    refine ⟨⟨0, rfl, rfl, Nat.zero_le _⟩, ?_⟩
    rintro vs h' - ⟨i, rfl, rfl, hi⟩
    have hol := ov_len (l.take i) x
    have htk : (l.take i).length = i := by rw [List.length_take]; omega
    rw [htk] at hol
    by_cases hil : i < l.length
    · obtain ⟨y, hy⟩ : ∃ y, l[i]? = some y := ⟨_, List.getElem?_eq_getElem hil⟩
      by_cases he : sEq x.1 y.1 = true
      · have hat : atR y.1 0 [x] = 0 := by rw [atR, if_pos he]
        conv => whnf
        repeat' first
          | (refine idx_kn (by assumption) ?_; conv => whnf)
          | (refine idx_ki (by assumption) (by omega) ?_; conv => whnf)
          | (refine br_true (by first | with_reducible exact rfl | assumption | decide) ?_; conv => whnf)
          | (refine br_false (by first | with_reducible exact rfl | assumption | decide) ?_; conv => whnf)
          | ((with_reducible refine br_kt (by assumption) ?_); conv => whnf)
          | ((with_reducible refine br_kf (by assumption) ?_); conv => whnf)
          | ((with_reducible refine br_nt (by assumption) ?_); conv => whnf)
          | ((with_reducible refine br_nf (by assumption) ?_); conv => whnf)
          | ((with_reducible refine br_et (by assumption) ?_); conv => whnf)
          | ((with_reducible refine br_ef (by assumption) ?_); conv => whnf)
          | ((with_reducible refine br_dec (fun h => ?_) (fun h => ?_)) <;> first | (exfalso; omega) | conv => whnf)
          | ((with_reducible refine br_ndec (fun h => ?_) (fun h => ?_)) <;> first | (exfalso; omega) | conv => whnf)
          | ((with_reducible refine br_ne (fun h => ?_) (fun h => ?_)) <;> first | (exfalso; omega) | conv => whnf)
          | ((with_reducible refine br_eq (fun h => ?_) (fun h => ?_)) <;> first | (exfalso; omega) | conv => whnf)
          | (refine br_intro (fun h => ?_) (fun h => ?_) <;> conv => whnf)
          | (refine need_in (by first | exact trivial | assumption | exact ⟨rfl, Nat.le_refl _⟩ | exact ⟨rfl, rfl⟩ | (simp only [inR]; omega) | omega | (simp only [roomP, true_and, and_true, List.length_take, List.length_drop, List.length_append, List.length_cons, List.length_nil, List.length_set, List.length_replicate]; omega) | (refine ⟨by first | exact trivial | rfl, by first | exact Nat.le_refl _ | omega | (simp; omega), ?_⟩; change roomP _ _ 1; simp only [roomP]; omega) | (change roomP _ _ 1; simp only [roomP]; omega) | (simp; omega) | (simp [inR]; omega) | (simp [inR]; done) | decide | (simp; done)) ?_; conv => whnf)
          | (refine idx_nat (by omega) (fun x hx => ?_); conv => whnf)
          | (refine frz_auto ?_; conv => whnf)
          | (refine draw_plain ?_; conv => whnf)
          | (refine idx_intro (by omega) (by omega) (fun x hx => ?_); conv => whnf)
          | (refine idx_intro (by first | omega | (simp; omega) | (simp; done)) (by first | omega | (simp; omega) | (simp; done)) (fun x hx => ?_); conv => whnf)
          | fail
        refine back_intro (by conv => whnf) rfl ⟨i + 1, two_eq (ov_same hy (sEq_iff.1 he)).symm, rfl, by omega⟩ ?_
        show l.length - ((i : Int) + 1).toNat < l.length - (i : Int).toNat
        omega
      · have hat : atR y.1 0 [x] = -1 := by rw [atR, if_neg he]; rfl
        have hne : x.1 ≠ y.1 := fun e => he (sEq_iff.2 e)
        conv => whnf
        repeat' first
          | (refine idx_kn (by assumption) ?_; conv => whnf)
          | (refine idx_ki (by assumption) (by omega) ?_; conv => whnf)
          | (refine br_true (by first | with_reducible exact rfl | assumption | decide) ?_; conv => whnf)
          | (refine br_false (by first | with_reducible exact rfl | assumption | decide) ?_; conv => whnf)
          | ((with_reducible refine br_kt (by assumption) ?_); conv => whnf)
          | ((with_reducible refine br_kf (by assumption) ?_); conv => whnf)
          | ((with_reducible refine br_nt (by assumption) ?_); conv => whnf)
          | ((with_reducible refine br_nf (by assumption) ?_); conv => whnf)
          | ((with_reducible refine br_et (by assumption) ?_); conv => whnf)
          | ((with_reducible refine br_ef (by assumption) ?_); conv => whnf)
          | ((with_reducible refine br_dec (fun h => ?_) (fun h => ?_)) <;> first | (exfalso; omega) | conv => whnf)
          | ((with_reducible refine br_ndec (fun h => ?_) (fun h => ?_)) <;> first | (exfalso; omega) | conv => whnf)
          | ((with_reducible refine br_ne (fun h => ?_) (fun h => ?_)) <;> first | (exfalso; omega) | conv => whnf)
          | ((with_reducible refine br_eq (fun h => ?_) (fun h => ?_)) <;> first | (exfalso; omega) | conv => whnf)
          | (refine br_intro (fun h => ?_) (fun h => ?_) <;> conv => whnf)
          | (refine need_in (by first | exact trivial | assumption | exact ⟨rfl, Nat.le_refl _⟩ | exact ⟨rfl, rfl⟩ | (simp only [inR]; omega) | omega | (simp only [roomP, true_and, and_true, List.length_take, List.length_drop, List.length_append, List.length_cons, List.length_nil, List.length_set, List.length_replicate]; omega) | (refine ⟨by first | exact trivial | rfl, by first | exact Nat.le_refl _ | omega | (simp; omega), ?_⟩; change roomP _ _ 1; simp only [roomP]; omega) | (change roomP _ _ 1; simp only [roomP]; omega) | (simp; omega) | (simp [inR]; omega) | (simp [inR]; done) | decide | (simp; done)) ?_; conv => whnf)
          | (refine idx_nat (by omega) (fun x hx => ?_); conv => whnf)
          | (refine frz_auto ?_; conv => whnf)
          | (refine draw_plain ?_; conv => whnf)
          | (refine idx_intro (by omega) (by omega) (fun x hx => ?_); conv => whnf)
          | (refine idx_intro (by first | omega | (simp; omega) | (simp; done)) (by first | omega | (simp; omega) | (simp; done)) (fun x hx => ?_); conv => whnf)
          | fail
        refine loop_inv [] [10] (fun vs h => ∃ j : Nat, vs = [.int .i64 (j : Int)] ∧ h = [.arr 29 entT [] false 0, .dead] ∧ j ≤ (ovL (l.take i) x).length ∧ ∀ z ∈ (ovL (l.take i) x).drop j, sLt y.1 z.1 = true) (fun vs _ => match vs with | [.int _ k] => k.toNat | _ => 0) ?_
        conv => whnf
        refine ⟨⟨(ovL (l.take i) x).length, rfl, rfl, Nat.le_refl _, by simp⟩, ?_⟩
        rintro vs h' - ⟨j, rfl, rfl, hj, hd⟩
        by_cases hj0 : 0 < j
        · obtain ⟨z, hz⟩ : ∃ z, (ovL (l.take i) x)[((j : Int) - 1).toNat]? = some z := ⟨_, List.getElem?_eq_getElem (by omega)⟩
          have hzm : errX z = 0 := ov_err herr hex (List.mem_of_getElem? hz)
          have hzs := errX_key hzm
          have hz' : (ovL (l.take i) x)[j - 1]? = some z := by rw [← hz]; congr 1; omega
          by_cases hyz : sLt y.1 z.1 = true
          · have ho := ordL_pos.2 hyz
            conv => whnf
            repeat' first
              | (refine idx_kn (by assumption) ?_; conv => whnf)
              | (refine idx_ki (by assumption) (by omega) ?_; conv => whnf)
              | (refine br_true (by first | with_reducible exact rfl | assumption | decide) ?_; conv => whnf)
              | (refine br_false (by first | with_reducible exact rfl | assumption | decide) ?_; conv => whnf)
              | ((with_reducible refine br_kt (by assumption) ?_); conv => whnf)
              | ((with_reducible refine br_kf (by assumption) ?_); conv => whnf)
              | ((with_reducible refine br_nt (by assumption) ?_); conv => whnf)
              | ((with_reducible refine br_nf (by assumption) ?_); conv => whnf)
              | ((with_reducible refine br_et (by assumption) ?_); conv => whnf)
              | ((with_reducible refine br_ef (by assumption) ?_); conv => whnf)
              | ((with_reducible refine br_dec (fun h => ?_) (fun h => ?_)) <;> first | (exfalso; omega) | conv => whnf)
              | ((with_reducible refine br_ndec (fun h => ?_) (fun h => ?_)) <;> first | (exfalso; omega) | conv => whnf)
              | ((with_reducible refine br_ne (fun h => ?_) (fun h => ?_)) <;> first | (exfalso; omega) | conv => whnf)
              | ((with_reducible refine br_eq (fun h => ?_) (fun h => ?_)) <;> first | (exfalso; omega) | conv => whnf)
              | (refine br_intro (fun h => ?_) (fun h => ?_) <;> conv => whnf)
              | (refine need_in (by first | exact trivial | assumption | exact ⟨rfl, Nat.le_refl _⟩ | exact ⟨rfl, rfl⟩ | (simp only [inR]; omega) | omega | (simp only [roomP, true_and, and_true, List.length_take, List.length_drop, List.length_append, List.length_cons, List.length_nil, List.length_set, List.length_replicate]; omega) | (refine ⟨by first | exact trivial | rfl, by first | exact Nat.le_refl _ | omega | (simp; omega), ?_⟩; change roomP _ _ 1; simp only [roomP]; omega) | (change roomP _ _ 1; simp only [roomP]; omega) | (simp; omega) | (simp [inR]; omega) | (simp [inR]; done) | decide | (simp; done)) ?_; conv => whnf)
              | (refine idx_nat (by omega) (fun x hx => ?_); conv => whnf)
              | (refine frz_auto ?_; conv => whnf)
              | (refine draw_plain ?_; conv => whnf)
              | (refine idx_intro (by omega) (by omega) (fun x hx => ?_); conv => whnf)
              | (refine idx_intro (by first | omega | (simp; omega) | (simp; done)) (by first | omega | (simp; omega) | (simp; done)) (fun x hx => ?_); conv => whnf)
              | fail
            refine back_intro (by conv => whnf) rfl ⟨j - 1, congrArg (fun z : Int => [AV.int .i64 z]) (by omega), rfl, by omega, ?_⟩ ?_
            · rw [List.drop_eq_getElem_cons (by omega)]
              intro w hw
              rcases List.mem_cons.1 hw with rfl | hw
              · rw [(List.getElem?_eq_some_iff.1 hz').2]; exact hyz
              · exact hd w (by rw [show j - 1 + 1 = j by omega] at hw; exact hw)
            · show ((j : Int) - 1).toNat < (j : Int).toNat
              omega
          · have ho : ¬ 0 < ordL z.1.data.toList y.1.data.toList := fun e => hyz (ordL_pos.1 e)
            conv => whnf
            repeat' first
              | (refine idx_kn (by assumption) ?_; conv => whnf)
              | (refine idx_ki (by assumption) (by omega) ?_; conv => whnf)
              | (refine br_true (by first | with_reducible exact rfl | assumption | decide) ?_; conv => whnf)
              | (refine br_false (by first | with_reducible exact rfl | assumption | decide) ?_; conv => whnf)
              | ((with_reducible refine br_kt (by assumption) ?_); conv => whnf)
              | ((with_reducible refine br_kf (by assumption) ?_); conv => whnf)
              | ((with_reducible refine br_nt (by assumption) ?_); conv => whnf)
              | ((with_reducible refine br_nf (by assumption) ?_); conv => whnf)
              | ((with_reducible refine br_et (by assumption) ?_); conv => whnf)
              | ((with_reducible refine br_ef (by assumption) ?_); conv => whnf)
              | ((with_reducible refine br_dec (fun h => ?_) (fun h => ?_)) <;> first | (exfalso; omega) | conv => whnf)
              | ((with_reducible refine br_ndec (fun h => ?_) (fun h => ?_)) <;> first | (exfalso; omega) | conv => whnf)
              | ((with_reducible refine br_ne (fun h => ?_) (fun h => ?_)) <;> first | (exfalso; omega) | conv => whnf)
              | ((with_reducible refine br_eq (fun h => ?_) (fun h => ?_)) <;> first | (exfalso; omega) | conv => whnf)
              | (refine br_intro (fun h => ?_) (fun h => ?_) <;> conv => whnf)
              | (refine need_in (by first | exact trivial | assumption | exact ⟨rfl, Nat.le_refl _⟩ | exact ⟨rfl, rfl⟩ | (simp only [inR]; omega) | omega | (simp only [roomP, true_and, and_true, List.length_take, List.length_drop, List.length_append, List.length_cons, List.length_nil, List.length_set, List.length_replicate]; omega) | (refine ⟨by first | exact trivial | rfl, by first | exact Nat.le_refl _ | omega | (simp; omega), ?_⟩; change roomP _ _ 1; simp only [roomP]; omega) | (change roomP _ _ 1; simp only [roomP]; omega) | (simp; omega) | (simp [inR]; omega) | (simp [inR]; done) | decide | (simp; done)) ?_; conv => whnf)
              | (refine idx_nat (by omega) (fun x hx => ?_); conv => whnf)
              | (refine frz_auto ?_; conv => whnf)
              | (refine draw_plain ?_; conv => whnf)
              | (refine idx_intro (by omega) (by omega) (fun x hx => ?_); conv => whnf)
              | (refine idx_intro (by first | omega | (simp; omega) | (simp; done)) (by first | omega | (simp; omega) | (simp; done)) (fun x hx => ?_); conv => whnf)
              | fail
            refine back_intro (by conv => whnf) rfl ⟨i + 1, ?_, rfl, by omega⟩ ?_
            · refine two_eq (Eq.trans ?_ (ov_ins hasc hy hne hj hd (.inr ⟨z, hz', by simpa using hyz⟩)))
              simp [cast_self, List.take_of_length_le]
              exact app_fin
            · show l.length - ((i : Int) + 1).toNat < l.length - (i : Int).toNat
              omega
        · conv => whnf
          repeat' first
            | (refine idx_kn (by assumption) ?_; conv => whnf)
            | (refine idx_ki (by assumption) (by omega) ?_; conv => whnf)
            | (refine br_true (by first | with_reducible exact rfl | assumption | decide) ?_; conv => whnf)
            | (refine br_false (by first | with_reducible exact rfl | assumption | decide) ?_; conv => whnf)
            | ((with_reducible refine br_kt (by assumption) ?_); conv => whnf)
            | ((with_reducible refine br_kf (by assumption) ?_); conv => whnf)
            | ((with_reducible refine br_nt (by assumption) ?_); conv => whnf)
            | ((with_reducible refine br_nf (by assumption) ?_); conv => whnf)
            | ((with_reducible refine br_et (by assumption) ?_); conv => whnf)
            | ((with_reducible refine br_ef (by assumption) ?_); conv => whnf)
            | ((with_reducible refine br_dec (fun h => ?_) (fun h => ?_)) <;> first | (exfalso; omega) | conv => whnf)
            | ((with_reducible refine br_ndec (fun h => ?_) (fun h => ?_)) <;> first | (exfalso; omega) | conv => whnf)
            | ((with_reducible refine br_ne (fun h => ?_) (fun h => ?_)) <;> first | (exfalso; omega) | conv => whnf)
            | ((with_reducible refine br_eq (fun h => ?_) (fun h => ?_)) <;> first | (exfalso; omega) | conv => whnf)
            | (refine br_intro (fun h => ?_) (fun h => ?_) <;> conv => whnf)
            | (refine need_in (by first | exact trivial | assumption | exact ⟨rfl, Nat.le_refl _⟩ | exact ⟨rfl, rfl⟩ | (simp only [inR]; omega) | omega | (simp only [roomP, true_and, and_true, List.length_take, List.length_drop, List.length_append, List.length_cons, List.length_nil, List.length_set, List.length_replicate]; omega) | (refine ⟨by first | exact trivial | rfl, by first | exact Nat.le_refl _ | omega | (simp; omega), ?_⟩; change roomP _ _ 1; simp only [roomP]; omega) | (change roomP _ _ 1; simp only [roomP]; omega) | (simp; omega) | (simp [inR]; omega) | (simp [inR]; done) | decide | (simp; done)) ?_; conv => whnf)
            | (refine idx_nat (by omega) (fun x hx => ?_); conv => whnf)
            | (refine frz_auto ?_; conv => whnf)
            | (refine draw_plain ?_; conv => whnf)
            | (refine idx_intro (by omega) (by omega) (fun x hx => ?_); conv => whnf)
            | (refine idx_intro (by first | omega | (simp; omega) | (simp; done)) (by first | omega | (simp; omega) | (simp; done)) (fun x hx => ?_); conv => whnf)
            | fail
          refine back_intro (by conv => whnf) rfl ⟨i + 1, ?_, rfl, by omega⟩ ?_
          · refine two_eq (Eq.trans ?_ (ov_ins hasc hy hne hj hd (.inl (by omega))))
            simp [cast_self, List.take_of_length_le]
            exact app_fin
          · show l.length - ((i : Int) + 1).toNat < l.length - (i : Int).toNat
            omega
    · conv => whnf
      repeat' first
        | (refine idx_kn (by assumption) ?_; conv => whnf)
        | (refine idx_ki (by assumption) (by omega) ?_; conv => whnf)
        | (refine br_true (by first | with_reducible exact rfl | assumption | decide) ?_; conv => whnf)
        | (refine br_false (by first | with_reducible exact rfl | assumption | decide) ?_; conv => whnf)
        | ((with_reducible refine br_kt (by assumption) ?_); conv => whnf)
        | ((with_reducible refine br_kf (by assumption) ?_); conv => whnf)
        | ((with_reducible refine br_nt (by assumption) ?_); conv => whnf)
        | ((with_reducible refine br_nf (by assumption) ?_); conv => whnf)
        | ((with_reducible refine br_et (by assumption) ?_); conv => whnf)
        | ((with_reducible refine br_ef (by assumption) ?_); conv => whnf)
        | ((with_reducible refine br_dec (fun h => ?_) (fun h => ?_)) <;> first | (exfalso; omega) | conv => whnf)
        | ((with_reducible refine br_ndec (fun h => ?_) (fun h => ?_)) <;> first | (exfalso; omega) | conv => whnf)
        | ((with_reducible refine br_ne (fun h => ?_) (fun h => ?_)) <;> first | (exfalso; omega) | conv => whnf)
        | ((with_reducible refine br_eq (fun h => ?_) (fun h => ?_)) <;> first | (exfalso; omega) | conv => whnf)
        | (refine br_intro (fun h => ?_) (fun h => ?_) <;> conv => whnf)
        | (refine need_in (by first | exact trivial | assumption | exact ⟨rfl, Nat.le_refl _⟩ | exact ⟨rfl, rfl⟩ | (simp only [inR]; omega) | omega | (simp only [roomP, true_and, and_true, List.length_take, List.length_drop, List.length_append, List.length_cons, List.length_nil, List.length_set, List.length_replicate]; omega) | (refine ⟨by first | exact trivial | rfl, by first | exact Nat.le_refl _ | omega | (simp; omega), ?_⟩; change roomP _ _ 1; simp only [roomP]; omega) | (change roomP _ _ 1; simp only [roomP]; omega) | (simp; omega) | (simp [inR]; omega) | (simp [inR]; done) | decide | (simp; done)) ?_; conv => whnf)
        | (refine idx_nat (by omega) (fun x hx => ?_); conv => whnf)
        | (refine frz_auto ?_; conv => whnf)
        | (refine draw_plain ?_; conv => whnf)
        | (refine idx_intro (by omega) (by omega) (fun x hx => ?_); conv => whnf)
        | (refine idx_intro (by first | omega | (simp; omega) | (simp; done)) (by first | omega | (simp; omega) | (simp; done)) (fun x hx => ?_); conv => whnf)
        | fail
      rw [List.take_of_length_le (by omega)]
  · cases h
end Go.Proofs.Ytekkeajcmibbaaa
namespace Go.Proofs.Ytekkeajcmibbaaa
open Av Bk

theorem asc_pw {l : List entT.El} (h : ascS l) : l.Pairwise (fun x y => sLt x.1 y.1 = true) := by
  rw [List.pairwise_iff_getElem]
  intro i j hi hj hij
  exact asc_rel h hij (List.getElem?_eq_getElem hi) (List.getElem?_eq_getElem hj)
theorem pw_asc {l : List entT.El} (h : l.Pairwise (fun x y => sLt x.1 y.1 = true)) : ascS l := by
  intro k x y hx hy
  have h1 := List.getElem?_eq_some_iff.1 hx
  have h2 := List.getElem?_eq_some_iff.1 hy
  have := List.pairwise_iff_getElem.1 h k (k + 1) h1.1 h2.1 (by omega)
  rw [h1.2, h2.2] at this
  exact this
theorem ov_asc {l : List entT.El} (h : ascS l) (x : entT.El) : ascS (ovL l x) := by
  refine pw_asc ?_
  have hp := asc_pw h
  unfold ovL
  rw [List.pairwise_append]
  refine ⟨hp.filter _, List.pairwise_cons.2 ⟨fun z hz => (List.mem_filter.1 hz).2, hp.filter _⟩, fun y hy z hz => ?_⟩
  have h1 : sLt y.1 x.1 = true := (List.mem_filter.1 hy).2
  rcases List.mem_cons.1 hz with rfl | hz
  · exact h1
  · exact sLt_trans h1 (List.mem_filter.1 hz).2
theorem ov_len1 (l : List entT.El) (x : entT.El) : (ovL l x).length ≤ l.length + 1 := by
  unfold ovL
  rw [List.length_append, List.length_cons]
  have : ∀ l : List entT.El, (l.filter (fun y => sLt y.1 x.1)).length + (l.filter (fun y => sLt x.1 y.1)).length ≤ l.length := by
    intro l
    induction l with
    | nil => simp
    | cons y l ih =>
      rw [List.filter_cons, List.filter_cons, List.length_cons]
      cases h1 : sLt y.1 x.1 with
      | true => rw [sLt_asym h1]; simp only [if_true, Bool.false_eq_true, if_false, List.length_cons]; omega
      | false => cases h2 : sLt x.1 y.1 <;> simp only [if_true, Bool.false_eq_true, if_false, List.length_cons] <;> omega
  have := this l
  omega
theorem ov_iff {l : List entT.El} {x z : entT.El} : z ∈ ovL l x ↔ z = x ∨ (z ∈ l ∧ z.1 ≠ x.1) := by
  unfold ovL
  rw [List.mem_append, List.mem_cons, List.mem_filter, List.mem_filter]
  constructor
  · rintro (⟨h1, h2⟩ | rfl | ⟨h1, h2⟩)
    · exact .inr ⟨h1, sLt_ne h2⟩
    · exact .inl rfl
    · exact .inr ⟨h1, fun e => sLt_ne h2 e.symm⟩
  · rintro (rfl | ⟨h1, h2⟩)
    · exact .inr (.inl rfl)
    · cases h3 : sLt z.1 x.1 with
      | true => exact .inl ⟨h1, rfl⟩
      | false => exact .inr (.inr ⟨h1, sLt_of h3 h2⟩)
theorem asc_uniq {l : List entT.El} (h : ascS l) {x y : entT.El} (hx : x ∈ l) (hy : y ∈ l) (he : x.1 = y.1) : x = y := by
  obtain ⟨i, hi⟩ := List.mem_iff_getElem?.1 hx
  obtain ⟨j, hj⟩ := List.mem_iff_getElem?.1 hy
  rcases Nat.lt_trichotomy i j with h' | h' | h'
  · have := asc_rel h h' hi hj; rw [he, sLt_irrefl] at this; cases this
  · subst h'; rw [hi] at hj; cases hj; rfl
  · have := asc_rel h h' hj hi; rw [he, sLt_irrefl] at this; cases this
theorem first_asc {l : List entT.El} (h : ascS l) {x : entT.El} (hx : x ∈ l) : firstK l x.1 = some x := by
  cases hf : firstK l x.1 with
  | none => exact absurd rfl (firstK_none.1 hf x hx)
  | some y =>
    obtain ⟨h1, h2⟩ := firstK_some hf
    rw [asc_uniq h h1 hx h2]
theorem ov_first {l : List entT.El} (h : ascS l) (x : entT.El) (k : ByteArray) : firstK (ovL l x) k = if x.1 = k then some x else firstK l k := by
  by_cases hk : x.1 = k
  · subst hk
    rw [if_pos rfl]
    exact first_asc (ov_asc h x) (ov_iff.2 (.inl rfl))
  · rw [if_neg hk]
    cases hf : firstK l k with
    | none =>
      rw [firstK_none] at hf ⊢
      intro z hz
      rcases ov_iff.1 hz with rfl | ⟨h1, _⟩
      · exact hk
      · exact hf z h1
    | some y =>
      obtain ⟨h1, rfl⟩ := firstK_some hf
      exact first_asc (ov_asc h x) (ov_iff.2 (.inr ⟨h1, fun e => hk e.symm⟩))
theorem ov_get {b : List entT.El} {rs : List runT.El} (h : ascS b) (x : entT.El) (k : ByteArray) : getM (allE (ovL b x) rs) k = if x.1 = k then (if x.2.2.1 = true then none else some x.2.1) else getM (allE b rs) k := by
  unfold getM
  show valE (firstK (ovL b x :: rs.map (fun r => r.2.1)).flatten k) = _
  rw [List.flatten_cons, firstK_append, ov_first h]
  by_cases hk : x.1 = k
  · rw [if_pos hk, if_pos hk]; rfl
  · rw [if_neg hk, if_neg hk]
    show _ = valE (firstK (b :: rs.map (fun r => r.2.1)).flatten k)
    rw [List.flatten_cons, firstK_append]
theorem clGo_ok1 : ∀ (l : List entT.El) (i : Int) (pv : Option ByteArray), (∀ x ∈ l, errX x = 0) → ascS l → (∀ x, l[0]? = some x → falls pv x = false) → clGo pv i l = (0, 0)
  | [], _, _, _, _, _ => rfl
  | x :: l, i, pv, h1, h2, h3 => by
    rw [clGo, if_neg (by rw [h1 x (by simp)]; simp), if_neg (by rw [h3 x rfl]; simp)]
    refine clGo_ok1 l _ _ (fun y hy => h1 y (by simp [hy])) (ascS_tail h2) (fun y hy => ?_)
    have : sLt x.1 y.1 = true := h2 0 x y rfl (by simpa using hy)
    show (!sLt x.1 y.1) = false
    rw [this]; rfl
theorem ov_vcL {b : List entT.El} {rs : List runT.El} {x : entT.El} (h : (vcL b rs).2 = 0) (hl : b.length ≤ 15) (hx : errX x = 0) : (vcL (ovL b x) rs).2 = 0 := by
  obtain ⟨_, h1, h2⟩ := clL_zero (vcL_zero h).gb
  have h3 := ov_len1 b x
  have h4 : clL (ovL b x) = (0, 0) := by
    unfold clL
    rw [if_neg (by omega)]
    refine clGo_ok1 _ _ _ (fun z hz => ?_) (ov_asc h2 x) (fun _ _ => rfl)
    rcases ov_iff.1 hz with rfl | ⟨h5, _⟩
    · exact hx
    · exact h1 z h5
  have h6 : ¬ 24 < rs.length := by have := (vcL_zero h).lr; omega
  have h7 := (vcL_zero h).gb
  unfold vcL at h ⊢
  rw [if_neg (by omega), if_neg (by rw [h7]; decide), if_neg h6] at h
  rw [if_neg (by omega), if_neg (by rw [h4]; decide), if_neg h6]
  exact h
/-- How many pairs have a key. -/
theorem cnt_key {m : List pairT.El} (ha : ascP m) (k : ByteArray) : m.length = (m.filter (fun p => !sEq p.1 k)).length + (m.filter (fun p => sEq p.1 k)).length := by
  induction m with
  | nil => rfl
  | cons p m ih =>
    rw [List.filter_cons, List.filter_cons, List.length_cons, ih (List.pairwise_cons.1 ha).2]
    cases sEq p.1 k <;> simp only [Bool.not_true, Bool.not_false, if_true, Bool.false_eq_true, if_false, List.length_cons] <;> omega
theorem cnt_one {m : List pairT.El} (ha : ascP m) {k : ByteArray} {p : pairT.El} (hp : p ∈ m) (hk : p.1 = k) : (m.filter (fun p => sEq p.1 k)).length = 1 := by
  induction m with
  | nil => cases hp
  | cons q m ih =>
    have ha' := List.pairwise_cons.1 ha
    rw [List.filter_cons]
    rcases List.mem_cons.1 hp with rfl | hp
    · rw [if_pos (sEq_iff.2 hk)]
      have : m.filter (fun p => sEq p.1 k) = [] := List.filter_eq_nil_iff.2 (fun r hr he => by
        have := ha'.1 r hr
        rw [sEq_iff.1 he, hk, sLt_irrefl] at this; cases this)
      rw [this]; rfl
    · have hq : sEq q.1 k = false := by
        cases he : sEq q.1 k with
        | false => rfl
        | true =>
          have := ha'.1 p hp
          rw [sEq_iff.1 he, hk, sLt_irrefl] at this; cases this
      rw [hq, if_neg (by decide)]
      exact ih ha'.2 hp
theorem cnt_map (l : List entT.El) (k : ByteArray) : ((mapL l).filter (fun p => sEq p.1 k)).length = if (getM l k).isSome = true then 1 else 0 := by
  cases h : getM l k with
  | some v =>
    rw [if_pos (show (some v).isSome = true from rfl)]
    exact cnt_one (mapL_asc l) (p := mkP k v) ((mapL_mem l (mkP k v)).2 h) rfl
  | none =>
    rw [if_neg (show ¬ (none : Option ByteArray).isSome = true by decide)]
    have : (mapL l).filter (fun p => sEq p.1 k) = [] := List.filter_eq_nil_iff.2 (fun p hp he => by
      have h1 := (mapL_mem l p).1 hp
      rw [sEq_iff.1 he, h] at h1; cases h1)
    rw [this]; rfl
theorem ov_rest {b : List entT.El} {rs : List runT.El} (h : ascS b) (x : entT.El) : (mapL (allE (ovL b x) rs)).filter (fun p => !sEq p.1 x.1) = (mapL (allE b rs)).filter (fun p => !sEq p.1 x.1) := by
  refine asc_ext ((mapL_asc _).filter _) ((mapL_asc _).filter _) (fun p => ?_)
  rw [List.mem_filter, List.mem_filter, mapL_mem, mapL_mem, ov_get h]
  constructor
  · rintro ⟨h1, h2⟩
    have hne : x.1 ≠ p.1 := fun e => by rw [sEq_iff.2 e.symm] at h2; cases h2
    rw [if_neg hne] at h1
    exact ⟨h1, h2⟩
  · rintro ⟨h1, h2⟩
    have hne : x.1 ≠ p.1 := fun e => by rw [sEq_iff.2 e.symm] at h2; cases h2
    rw [if_neg hne]
    exact ⟨h1, h2⟩
theorem ov_count {b : List entT.El} {rs : List runT.El} (h : ascS b) (x : entT.El) : ((mapL (allE (ovL b x) rs)).length : Int) = (mapL (allE b rs)).length - (if (getM (allE b rs) x.1).isSome = true then 1 else 0) + (if x.2.2.1 = true then 0 else 1) := by
  have h1 := cnt_key (mapL_asc (allE (ovL b x) rs)) x.1
  have h2 := cnt_key (mapL_asc (allE b rs)) x.1
  rw [ov_rest h] at h1
  rw [cnt_map] at h1 h2
  have h3 : (getM (allE (ovL b x) rs) x.1).isSome = !x.2.2.1 := by
    rw [ov_get h, if_pos rfl]
    cases x.2.2.1 <;> rfl
  rw [h3] at h1
  cases hd : x.2.2.1 <;> rw [hd] at h1 <;> cases hg : (getM (allE b rs) x.1).isSome <;> rw [hg] at h2 <;> simp only [Bool.not_true, Bool.not_false, if_true, Bool.false_eq_true, if_false] at h1 h2 ⊢ <;> omega
end Go.Proofs.Ytekkeajcmibbaaa
namespace Go.Proofs.Ytekkeajcmibbaaa
open Av Bk

theorem errE_key {k v : ByteArray} {d : Bool} {s : Int} (h : errE k v d s = 0) : keyE k = 0 := by
  unfold errE at h
  unfold keyE
  by_cases h1 : 32 < (k.size : Int)
  · simp [h1] at h
  · rw [decide_eq_false h1]; rfl
theorem ask0 {b : List entT.El} {rs : List runT.El} {k : ByteArray} (h : (vcL b rs).2 = 0) (hk : keyE k = 0) : askE b rs k = 0 := by
  unfold askE
  rw [if_neg (fun e => e h), hk]
set_option maxRecDepth 100000 in
theorem fnOk_lWr : FnOk Try.prog 8 Try.f8 := ⟨by rfl, by kernel_rfl, by
  show okCode _ _ = true ∧ drawsOk _ = true
  exact ⟨by kernel_rfl, by kernel_rfl⟩⟩
noncomputable def lWr_C : Cx := ⟨tb, [], [(12, spAwake), (11, spFar), (32, spCheck), (19, spCount), (33, spOver), (15, spGet)]⟩
theorem lWr_D : SpecsOk Try.prog lWr_C.specs := .cons awake_ok (.cons far_ok (.cons refCheck_ok (.cons lkCount_ok (.cons rfOver_ok (.cons lkGet_ok .nil)))))
theorem lWr_F : FnsOk Try.prog lWr_C.fns := FnsOk.nil
abbrev lWr_N : Nat := 0
abbrev lWr_T : List Ty := [viewT, entT, .str]
abbrev lWr_FN := fnOk_lWr
set_option maxRecDepth 100000 in
set_option maxHeartbeats 8000000 in
theorem lWr' (b : List entT.El) (rs : List runT.El) (xk xv : ByteArray) (xd : Bool) (xs : Int) (k : ByteArray) : bodyA lWr_C (callN lWr_C lWr_N) Try.f8 [.agg [.lst entT b, .lst runT rs], .agg [.str xk, .str xv, .bool xd, .int .i64 xs], .str k] [] (fun v _ => v = .bool true) := by
  by_cases hv : (vcL b rs).2 = 0
  · by_cases hl : (b.length : Int) ≤ 15
    · by_cases hex : errE xk xv xd xs = 0
      · by_cases hks : (k.size : Int) ≤ 32
        · have hk : keyE k = 0 := by unfold keyE; rw [decide_eq_false (by omega)]; rfl
          have hP : (clL b).2 = 0 ∧ errX (xk, xv, xd, xs, ()) = 0 ∧ b.length ≤ 1000 := ⟨(vcL_zero hv).gb, hex, by omega⟩
          have ha := (clL_zero hP.1).2.2
          have hv' := ov_vcL (x := (xk, xv, xd, xs, ())) hv (by omega) hex
          have h1 := part_all hv
          have h2 := part_all hv'
          have hn := (all_len (vcL_zero hv)).2
          have hml := mapL_len (allE b rs)
          have hct := ov_count (rs := rs) ha (xk, xv, xd, xs, ())
          have hwas := getR_o (ask0 hv (errE_key hex))
          have hgot := getR_o (ask0 hv' (errE_key hex))
          rw [ov_get ha, if_pos rfl] at hgot
          have hb := getR_o (ask0 hv' hk)
          have ha2 := getR_o (ask0 hv hk)
          rw [ov_get ha] at hb
          have q2 : (partR b rs ⟨#[]⟩ ⟨#[]⟩ false).2 = 0 := by rw [h1]
          have q4 : (partR (ovL b (xk, xv, xd, xs, ())) rs ⟨#[]⟩ ⟨#[]⟩ false).2 = 0 := by rw [h2]
          have q1 : (partR b rs ⟨#[]⟩ ⟨#[]⟩ false).1.length = (mapL (allE b rs)).length := by rw [h1]
          have q3 : (partR (ovL b (xk, xv, xd, xs, ())) rs ⟨#[]⟩ ⟨#[]⟩ false).1.length = (mapL (allE (ovL b (xk, xv, xd, xs, ())) rs)).length := by rw [h2]
          rw [← q1, ← q3] at hct
          rw [← q1] at hml
          have hkk : sEq k xk = true ∨ (sEq (getR b rs k).1 (getR (ovL b (xk, xv, xd, xs, ())) rs k).1 = true ∧ (getR b rs k).2 = (getR (ovL b (xk, xv, xd, xs, ())) rs k).2) := by
            by_cases he : xk = k
            · exact .inl (sEq_iff.2 he.symm)
            · rw [if_neg he] at hb
              rw [ha2, hb]
              exact .inr ⟨sEq_iff.2 rfl, rfl⟩
          have w : ((getR b rs xk).2 = 0 ∧ (getM (allE b rs) xk).isSome = true) ∨ ((getR b rs xk).2 = 4 ∧ (getM (allE b rs) xk).isSome = false) := by
            rw [hwas]
            cases getM (allE b rs) xk with
            | none => exact .inr ⟨rfl, rfl⟩
            | some v => exact .inl ⟨rfl, rfl⟩
          clear hwas hb ha2 h1 h2
          rcases w with ⟨w1, w2⟩ | ⟨w1, w2⟩ <;> rcases hkk with k1 | ⟨k1, k2⟩ <;> cases xd
          all_goals
            simp only [w2, if_true, Bool.false_eq_true, if_false] at hct hgot
            have g2 := congrArg (fun r : ByteArray × Int => r.2) hgot
            have g1 := congrArg (fun r : ByteArray × Int => r.1) hgot
            simp only at g1 g2
            have g3 := congrArg (fun c => !c) (sEq_iff.2 g1)
            simp only [Bool.not_true] at g3
            conv => whnf
            repeat' first
              | (refine idx_kn (by assumption) ?_; conv => whnf)
              | (refine idx_ki (by assumption) (by omega) ?_; conv => whnf)
              | (refine br_true (by first | with_reducible exact rfl | assumption | decide) ?_; conv => whnf)
              | (refine br_false (by first | with_reducible exact rfl | assumption | decide) ?_; conv => whnf)
              | ((with_reducible refine br_kt (by assumption) ?_); conv => whnf)
              | ((with_reducible refine br_kf (by assumption) ?_); conv => whnf)
              | ((with_reducible refine br_nt (by assumption) ?_); conv => whnf)
              | ((with_reducible refine br_nf (by assumption) ?_); conv => whnf)
              | ((with_reducible refine br_et (by assumption) ?_); conv => whnf)
              | ((with_reducible refine br_ef (by assumption) ?_); conv => whnf)
              | ((with_reducible refine br_dec (fun h => ?_) (fun h => ?_)) <;> first | (exfalso; omega) | conv => whnf)
              | ((with_reducible refine br_ndec (fun h => ?_) (fun h => ?_)) <;> first | (exfalso; omega) | conv => whnf)
              | ((with_reducible refine br_ne (fun h => ?_) (fun h => ?_)) <;> first | (exfalso; omega) | conv => whnf)
              | ((with_reducible refine br_eq (fun h => ?_) (fun h => ?_)) <;> first | (exfalso; omega) | conv => whnf)
              | (refine br_intro (fun h => ?_) (fun h => ?_) <;> conv => whnf)
              | (refine need_in (by first | exact trivial | assumption | exact ⟨rfl, Nat.le_refl _⟩ | exact ⟨rfl, rfl⟩ | (simp only [inR]; omega) | omega | (simp only [roomP, true_and, and_true, List.length_take, List.length_drop, List.length_append, List.length_cons, List.length_nil, List.length_set, List.length_replicate]; omega) | (refine ⟨by first | exact trivial | rfl, by first | exact Nat.le_refl _ | omega | (simp; omega), ?_⟩; change roomP _ _ 1; simp only [roomP]; omega) | (change roomP _ _ 1; simp only [roomP]; omega) | (simp; omega) | (simp [inR]; omega) | (simp [inR]; done) | decide | (simp; done)) ?_; conv => whnf)
              | (refine idx_nat (by omega) (fun x hx => ?_); conv => whnf)
              | (refine frz_auto ?_; conv => whnf)
              | (refine draw_plain ?_; conv => whnf)
              | (refine idx_intro (by omega) (by omega) (fun x hx => ?_); conv => whnf)
              | (refine idx_intro (by first | omega | (simp; omega) | (simp; done)) (by first | omega | (simp; omega) | (simp; done)) (fun x hx => ?_); conv => whnf)
              | fail
        · conv => whnf
          repeat' first
            | (refine idx_kn (by assumption) ?_; conv => whnf)
            | (refine idx_ki (by assumption) (by omega) ?_; conv => whnf)
            | (refine br_true (by first | with_reducible exact rfl | assumption | decide) ?_; conv => whnf)
            | (refine br_false (by first | with_reducible exact rfl | assumption | decide) ?_; conv => whnf)
            | ((with_reducible refine br_kt (by assumption) ?_); conv => whnf)
            | ((with_reducible refine br_kf (by assumption) ?_); conv => whnf)
            | ((with_reducible refine br_nt (by assumption) ?_); conv => whnf)
            | ((with_reducible refine br_nf (by assumption) ?_); conv => whnf)
            | ((with_reducible refine br_et (by assumption) ?_); conv => whnf)
            | ((with_reducible refine br_ef (by assumption) ?_); conv => whnf)
            | ((with_reducible refine br_dec (fun h => ?_) (fun h => ?_)) <;> first | (exfalso; omega) | conv => whnf)
            | ((with_reducible refine br_ndec (fun h => ?_) (fun h => ?_)) <;> first | (exfalso; omega) | conv => whnf)
            | ((with_reducible refine br_ne (fun h => ?_) (fun h => ?_)) <;> first | (exfalso; omega) | conv => whnf)
            | ((with_reducible refine br_eq (fun h => ?_) (fun h => ?_)) <;> first | (exfalso; omega) | conv => whnf)
            | (refine br_intro (fun h => ?_) (fun h => ?_) <;> conv => whnf)
            | (refine need_in (by first | exact trivial | assumption | exact ⟨rfl, Nat.le_refl _⟩ | exact ⟨rfl, rfl⟩ | (simp only [inR]; omega) | omega | (simp only [roomP, true_and, and_true, List.length_take, List.length_drop, List.length_append, List.length_cons, List.length_nil, List.length_set, List.length_replicate]; omega) | (refine ⟨by first | exact trivial | rfl, by first | exact Nat.le_refl _ | omega | (simp; omega), ?_⟩; change roomP _ _ 1; simp only [roomP]; omega) | (change roomP _ _ 1; simp only [roomP]; omega) | (simp; omega) | (simp [inR]; omega) | (simp [inR]; done) | decide | (simp; done)) ?_; conv => whnf)
            | (refine idx_nat (by omega) (fun x hx => ?_); conv => whnf)
            | (refine frz_auto ?_; conv => whnf)
            | (refine draw_plain ?_; conv => whnf)
            | (refine idx_intro (by omega) (by omega) (fun x hx => ?_); conv => whnf)
            | (refine idx_intro (by first | omega | (simp; omega) | (simp; done)) (by first | omega | (simp; omega) | (simp; done)) (fun x hx => ?_); conv => whnf)
            | fail
      · conv => whnf
        repeat' first
          | (refine idx_kn (by assumption) ?_; conv => whnf)
          | (refine idx_ki (by assumption) (by omega) ?_; conv => whnf)
          | (refine br_true (by first | with_reducible exact rfl | assumption | decide) ?_; conv => whnf)
          | (refine br_false (by first | with_reducible exact rfl | assumption | decide) ?_; conv => whnf)
          | ((with_reducible refine br_kt (by assumption) ?_); conv => whnf)
          | ((with_reducible refine br_kf (by assumption) ?_); conv => whnf)
          | ((with_reducible refine br_nt (by assumption) ?_); conv => whnf)
          | ((with_reducible refine br_nf (by assumption) ?_); conv => whnf)
          | ((with_reducible refine br_et (by assumption) ?_); conv => whnf)
          | ((with_reducible refine br_ef (by assumption) ?_); conv => whnf)
          | ((with_reducible refine br_dec (fun h => ?_) (fun h => ?_)) <;> first | (exfalso; omega) | conv => whnf)
          | ((with_reducible refine br_ndec (fun h => ?_) (fun h => ?_)) <;> first | (exfalso; omega) | conv => whnf)
          | ((with_reducible refine br_ne (fun h => ?_) (fun h => ?_)) <;> first | (exfalso; omega) | conv => whnf)
          | ((with_reducible refine br_eq (fun h => ?_) (fun h => ?_)) <;> first | (exfalso; omega) | conv => whnf)
          | (refine br_intro (fun h => ?_) (fun h => ?_) <;> conv => whnf)
          | (refine need_in (by first | exact trivial | assumption | exact ⟨rfl, Nat.le_refl _⟩ | exact ⟨rfl, rfl⟩ | (simp only [inR]; omega) | omega | (simp only [roomP, true_and, and_true, List.length_take, List.length_drop, List.length_append, List.length_cons, List.length_nil, List.length_set, List.length_replicate]; omega) | (refine ⟨by first | exact trivial | rfl, by first | exact Nat.le_refl _ | omega | (simp; omega), ?_⟩; change roomP _ _ 1; simp only [roomP]; omega) | (change roomP _ _ 1; simp only [roomP]; omega) | (simp; omega) | (simp [inR]; omega) | (simp [inR]; done) | decide | (simp; done)) ?_; conv => whnf)
          | (refine idx_nat (by omega) (fun x hx => ?_); conv => whnf)
          | (refine frz_auto ?_; conv => whnf)
          | (refine draw_plain ?_; conv => whnf)
          | (refine idx_intro (by omega) (by omega) (fun x hx => ?_); conv => whnf)
          | (refine idx_intro (by first | omega | (simp; omega) | (simp; done)) (by first | omega | (simp; omega) | (simp; done)) (fun x hx => ?_); conv => whnf)
          | fail
    · conv => whnf
      repeat' first
        | (refine idx_kn (by assumption) ?_; conv => whnf)
        | (refine idx_ki (by assumption) (by omega) ?_; conv => whnf)
        | (refine br_true (by first | with_reducible exact rfl | assumption | decide) ?_; conv => whnf)
        | (refine br_false (by first | with_reducible exact rfl | assumption | decide) ?_; conv => whnf)
        | ((with_reducible refine br_kt (by assumption) ?_); conv => whnf)
        | ((with_reducible refine br_kf (by assumption) ?_); conv => whnf)
        | ((with_reducible refine br_nt (by assumption) ?_); conv => whnf)
        | ((with_reducible refine br_nf (by assumption) ?_); conv => whnf)
        | ((with_reducible refine br_et (by assumption) ?_); conv => whnf)
        | ((with_reducible refine br_ef (by assumption) ?_); conv => whnf)
        | ((with_reducible refine br_dec (fun h => ?_) (fun h => ?_)) <;> first | (exfalso; omega) | conv => whnf)
        | ((with_reducible refine br_ndec (fun h => ?_) (fun h => ?_)) <;> first | (exfalso; omega) | conv => whnf)
        | ((with_reducible refine br_ne (fun h => ?_) (fun h => ?_)) <;> first | (exfalso; omega) | conv => whnf)
        | ((with_reducible refine br_eq (fun h => ?_) (fun h => ?_)) <;> first | (exfalso; omega) | conv => whnf)
        | (refine br_intro (fun h => ?_) (fun h => ?_) <;> conv => whnf)
        | (refine need_in (by first | exact trivial | assumption | exact ⟨rfl, Nat.le_refl _⟩ | exact ⟨rfl, rfl⟩ | (simp only [inR]; omega) | omega | (simp only [roomP, true_and, and_true, List.length_take, List.length_drop, List.length_append, List.length_cons, List.length_nil, List.length_set, List.length_replicate]; omega) | (refine ⟨by first | exact trivial | rfl, by first | exact Nat.le_refl _ | omega | (simp; omega), ?_⟩; change roomP _ _ 1; simp only [roomP]; omega) | (change roomP _ _ 1; simp only [roomP]; omega) | (simp; omega) | (simp [inR]; omega) | (simp [inR]; done) | decide | (simp; done)) ?_; conv => whnf)
        | (refine idx_nat (by omega) (fun x hx => ?_); conv => whnf)
        | (refine frz_auto ?_; conv => whnf)
        | (refine draw_plain ?_; conv => whnf)
        | (refine idx_intro (by omega) (by omega) (fun x hx => ?_); conv => whnf)
        | (refine idx_intro (by first | omega | (simp; omega) | (simp; done)) (by first | omega | (simp; omega) | (simp; done)) (fun x hx => ?_); conv => whnf)
        | fail
  · have hc : (partR b rs ⟨#[]⟩ ⟨#[]⟩ false).2 ≠ 0 := by unfold partR; rw [if_pos hv]; exact hv
    conv => whnf
    repeat' first
      | (refine idx_kn (by assumption) ?_; conv => whnf)
      | (refine idx_ki (by assumption) (by omega) ?_; conv => whnf)
      | (refine br_true (by first | with_reducible exact rfl | assumption | decide) ?_; conv => whnf)
      | (refine br_false (by first | with_reducible exact rfl | assumption | decide) ?_; conv => whnf)
      | ((with_reducible refine br_kt (by assumption) ?_); conv => whnf)
      | ((with_reducible refine br_kf (by assumption) ?_); conv => whnf)
      | ((with_reducible refine br_nt (by assumption) ?_); conv => whnf)
      | ((with_reducible refine br_nf (by assumption) ?_); conv => whnf)
      | ((with_reducible refine br_et (by assumption) ?_); conv => whnf)
      | ((with_reducible refine br_ef (by assumption) ?_); conv => whnf)
      | ((with_reducible refine br_dec (fun h => ?_) (fun h => ?_)) <;> first | (exfalso; omega) | conv => whnf)
      | ((with_reducible refine br_ndec (fun h => ?_) (fun h => ?_)) <;> first | (exfalso; omega) | conv => whnf)
      | ((with_reducible refine br_ne (fun h => ?_) (fun h => ?_)) <;> first | (exfalso; omega) | conv => whnf)
      | ((with_reducible refine br_eq (fun h => ?_) (fun h => ?_)) <;> first | (exfalso; omega) | conv => whnf)
      | (refine br_intro (fun h => ?_) (fun h => ?_) <;> conv => whnf)
      | (refine need_in (by first | exact trivial | assumption | exact ⟨rfl, Nat.le_refl _⟩ | exact ⟨rfl, rfl⟩ | (simp only [inR]; omega) | omega | (simp only [roomP, true_and, and_true, List.length_take, List.length_drop, List.length_append, List.length_cons, List.length_nil, List.length_set, List.length_replicate]; omega) | (refine ⟨by first | exact trivial | rfl, by first | exact Nat.le_refl _ | omega | (simp; omega), ?_⟩; change roomP _ _ 1; simp only [roomP]; omega) | (change roomP _ _ 1; simp only [roomP]; omega) | (simp; omega) | (simp [inR]; omega) | (simp [inR]; done) | decide | (simp; done)) ?_; conv => whnf)
      | (refine idx_nat (by omega) (fun x hx => ?_); conv => whnf)
      | (refine frz_auto ?_; conv => whnf)
      | (refine draw_plain ?_; conv => whnf)
      | (refine idx_intro (by omega) (by omega) (fun x hx => ?_); conv => whnf)
      | (refine idx_intro (by first | omega | (simp; omega) | (simp; done)) (by first | omega | (simp; omega) | (simp; done)) (fun x hx => ?_); conv => whnf)
      | fail
theorem lWr : ∀ es : Ty.Els lWr_T, tyOks lWr_T es → bodyA lWr_C (callN lWr_C lWr_N) Try.f8 (avTs lWr_T es) [] (fun v _ => v = .bool true) := by
  rintro ⟨⟨b, rs, _⟩, ⟨xk, xv, xd, xs, _⟩, k, _⟩ _
  exact lWr' b rs xk xv xd xs k
end Go.Proofs.Ytekkeajcmibbaaa
