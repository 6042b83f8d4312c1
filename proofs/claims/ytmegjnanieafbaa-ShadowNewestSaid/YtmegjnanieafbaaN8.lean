/-
  The order of what is sorted; whether the filter is awake.
-/
import Derived.Test.YtmegjnanieafbaaN7
namespace Go.Proofs.Ytmegjnanieafbaa
open Av Bk

theorem ordE_le {k k' : ByteArray} {s s' : Int} (h : ¬ 0 < ordE k s k' s') : sLt k' k = false := by
  unfold ordE ordL at h
  unfold sLt
  by_cases he : k.data.toList = k'.data.toList
  · rw [he]; exact bl_irrefl _
  · cases hl : Op.bytesLess k.data.toList k'.data.toList with
    | false => exfalso; simp [he, hl] at h
    | true =>
      cases hr : Op.bytesLess k'.data.toList k.data.toList with
      | false => rfl
      | true => have := bl_trans _ _ _ hl hr; rw [bl_irrefl] at this; cases this
theorem ordE_ge {k k' : ByteArray} {s s' : Int} (h : 0 < ordE k s k' s') : sLt k k' = false := by
  unfold ordE ordL at h
  unfold sLt
  by_cases he : k.data.toList = k'.data.toList
  · rw [he]; exact bl_irrefl _
  · cases hl : Op.bytesLess k.data.toList k'.data.toList with
    | false => rfl
    | true => exfalso; simp [he, hl] at h
theorem atGo_spec (out : List entT.El) (x : entT.El) : ∀ n, n ≤ out.length → (∀ k y, atGo out x n ≤ k → k < n → out[k]? = some y → 0 < ordX y x) ∧ (∀ y, 0 < atGo out x n → out[atGo out x n - 1]? = some y → ¬ 0 < ordX y x)
  | 0, _ => ⟨fun k y _ h => by omega, fun y h => by simp [atGo] at h⟩
  | n + 1, hn => by
    obtain ⟨h1, h2⟩ := atGo_spec out x n (by omega)
    have hy : out[n]? = some out[n] := List.getElem?_eq_getElem (by omega)
    simp only [atGo, hy]
    split
    · rename_i hp
      refine ⟨fun k y hk hkn hky => ?_, h2⟩
      by_cases hkn' : k = n
      · subst hkn'; rw [hy] at hky; cases hky; exact hp
      · exact h1 k y hk (by omega) hky
    · rename_i hp
      refine ⟨fun k y hk hkn hky => by omega, fun y _ hky => ?_⟩
      rw [Nat.add_sub_cancel, hy] at hky
      cases hky
      exact hp
theorem ins_get {out : List entT.El} {x : entT.El} {j : Nat} (hj : j ≤ out.length) (i : Nat) : (out.take j ++ x :: out.drop j)[i]? = if i < j then out[i]? else if i = j then some x else out[i - 1]? := by
  have hl : (out.take j).length = j := by rw [List.length_take]; omega
  by_cases h : i < j
  · rw [if_pos h, List.getElem?_append_left (by omega), List.getElem?_take, if_pos h]
  · rw [if_neg h, List.getElem?_append_right (by omega), hl]
    by_cases h2 : i = j
    · rw [if_pos h2, h2, Nat.sub_self]; rfl
    · rw [if_neg h2]
      obtain ⟨m, hm⟩ : ∃ m, i - j = m + 1 := ⟨i - j - 1, by omega⟩
      rw [hm, List.getElem?_cons_succ, List.getElem?_drop]
      congr 1
      omega
theorem asc_ins {out : List entT.El} (h : ascL out) (x : entT.El) : ascL (insX out x) := by
  obtain ⟨h1, h2⟩ := atGo_spec out x out.length (Nat.le_refl _)
  have hj := atGo_le out x out.length
  unfold insX
  generalize atGo out x out.length = j at *
  intro i z y hy hz
  rw [ins_get hj] at hy hz
  by_cases c1 : i + 1 < j
  · rw [if_pos (by omega)] at hy hz
    exact h i _ _ hy hz
  · rw [if_neg (by omega)] at hz
    by_cases c2 : i + 1 = j
    · rw [if_pos (by omega)] at hy
      rw [if_pos c2] at hz
      cases hz
      exact ordE_le (h2 _ (by omega) (by rw [show j - 1 = i by omega]; exact hy))
    · rw [if_neg c2] at hz
      rw [if_neg (by omega)] at hy
      by_cases c3 : i = j
      · rw [if_pos c3] at hy
        cases hy
        have hz : out[i]? = some _ := hz
        exact ordE_ge (h1 i _ (by omega) (List.getElem?_eq_some_iff.1 hz).1 hz)
      · rw [if_neg c3] at hy
        have hz : out[i]? = some _ := hz
        exact h (i - 1) _ _ hy (by rw [show i - 1 + 1 = i by omega]; exact hz)
theorem asc_sort (l : List entT.El) : ascL (sortX l) := by
  have key : ∀ (l out : List entT.El), ascL out → ascL (l.foldl insX out) := by
    intro l
    induction l with
    | nil => exact fun out h => h
    | cons x l ih => exact fun out h => ih _ (asc_ins h x)
  exact key l [] (fun i y x h => by simp at h)
theorem sEq_refl (a : ByteArray) : sEq a a = true := by simp [sEq]
theorem same_refl : ∀ l : List entT.El, sameL entT l l = true
  | [] => rfl
  | x :: l => by
    rw [sameL, same_refl l]
    have e : ∀ (a b : ByteArray) (c : Bool) (d : Int), eqT entT (a, b, c, d, ()) (a, b, c, d, ()) = true := fun a b c d => by
      show (sEq a a && (sEq b b && (c == c && d == d))) = true
      rw [sEq_refl, sEq_refl, beq_self_eq_true, beq_self_eq_true]
      rfl
    rw [show eqT entT x x = true from e x.1 x.2.1 x.2.2.1 x.2.2.2.1]
    rfl

theorem sEq_eq {a b : ByteArray} (h : sEq a b = true) : a = b :=
  ByteArray.ext (Array.toList_inj.1 (eq_of_beq (show (a.data.toList == b.data.toList) = true from h)))
abbrev mkE (k v : ByteArray) (d : Bool) (s : Int) : entT.El := (k, v, d, s, ())
theorem eqT_ent {k v k' v' : ByteArray} {d d' : Bool} {s s' : Int} (h : eqT entT (mkE k v d s) (mkE k' v' d' s') = true) : mkE k v d s = mkE k' v' d' s' := by
  have h1 : (sEq k k' && (sEq v v' && (d == d' && s == s'))) = true := h
  rw [Bool.and_eq_true, Bool.and_eq_true, Bool.and_eq_true] at h1
  obtain ⟨h3, h4, h5, h6⟩ := h1
  rw [sEq_eq h3, sEq_eq h4, eq_of_beq h5, eq_of_beq h6]
theorem same_eq : ∀ {a b : List entT.El}, sameL entT a b = true → a = b
  | [], [], _ => rfl
  | [], _ :: _, h => by cases h
  | _ :: _, [], h => by cases h
  | x :: a, y :: b, h => by
    have h : (eqT entT x y && sameL entT a b) = true := h
    rw [Bool.and_eq_true] at h
    rw [show x = y from eqT_ent (k := x.1) (v := x.2.1) (d := x.2.2.1) (s := x.2.2.2.1) (k' := y.1) (v' := y.2.1) (d' := y.2.2.1) (s' := y.2.2.2.1) h.1, same_eq h.2]

theorem fnOk_shStep : FnOk Try.prog 11 Try.f11 := ⟨by rfl, by kernel_rfl, by
  show okCode _ _ = true ∧ drawsOk _ = true
  exact ⟨by kernel_rfl, by kernel_rfl⟩⟩
noncomputable def cx9 : Cx := ⟨tb, [(26, Try.f26)], cx6.specs⟩
theorem fns9 : FnsOk Try.prog cx9.fns := .cons fnOk_shNext .nil
def spBegin : DSpec
  | [.bool b] => some (True, .agg [.bool false, .str ⟨#[]⟩, .bool b])
  | _ => none
theorem shBegin_ok : SpecOk Try.prog 13 spBegin := by
  refine spec_body (C := cx0) mixed tbOk SpecsOk.nil (callN_ok (C := cx0) mixed tbOk SpecsOk.nil FnsOk.nil 0) fnOk_shBegin ?_
  intro ys p r h hp
  unfold spBegin at h
  split at h
  · cases h
    conv => whnf
  · cases h
def spStep : DSpec
  | [.agg [.bool sm, .str last, .bool b], .agg [.str k, .str v, .bool d, .int .i64 s]] => some (shE sm last = 0 ∧ errE k v d s = 0 ∧ (sm && sLt k last) = false, .tup [.bool (!((sm && sEq k last) || (b && d))), .agg [.bool true, .str k, .bool b], .int .i64 0])
  | _ => none
set_option maxRecDepth 100000 in
set_option maxHeartbeats 2000000 in
theorem shStep_ok : SpecOk Try.prog 11 spStep := by
  refine spec_body (C := cx9) mixed tbOk specs6 (callN_ok (C := cx9) mixed tbOk specs6 fns9 2) fnOk_shStep ?_
  intro ys p r h hp
  unfold spStep at h
  split at h
  · rename_i sm last b k v d s
    cases h
    obtain ⟨h1, h2, h3⟩ := hp
    conv => whnf
    repeat' first
      | (refine br_true (by first | with_reducible exact rfl | assumption | decide) ?_; conv => whnf)
      | (refine br_false (by first | with_reducible exact rfl | assumption | decide) ?_; conv => whnf)
      | (with_reducible refine br_kt (by assumption) ?_; conv => whnf)
      | (with_reducible refine br_kf (by assumption) ?_; conv => whnf)
      | (with_reducible refine br_nt (by assumption) ?_; conv => whnf)
      | (with_reducible refine br_nf (by assumption) ?_; conv => whnf)
      | (with_reducible refine br_et (by assumption) ?_; conv => whnf)
      | (with_reducible refine br_ef (by assumption) ?_; conv => whnf)
      | ((with_reducible refine br_dec (fun h => ?_) (fun h => ?_)) <;> first | (exfalso; omega) | conv => whnf)
      | ((with_reducible refine br_ndec (fun h => ?_) (fun h => ?_)) <;> first | (exfalso; omega) | conv => whnf)
      | ((with_reducible refine br_ne (fun h => ?_) (fun h => ?_)) <;> first | (exfalso; omega) | conv => whnf)
      | ((with_reducible refine br_eq (fun h => ?_) (fun h => ?_)) <;> first | (exfalso; omega) | conv => whnf)
      | (refine br_intro (fun h => ?_) (fun h => ?_) <;> conv => whnf)
      | (refine need_in (by first | exact trivial | assumption | exact ⟨rfl, Nat.le_refl _⟩ | (simp only [inR]; omega) | omega | (simp only [roomP, true_and, and_true, List.length_take, List.length_drop, List.length_append, List.length_cons, List.length_nil, List.length_set, List.length_replicate]; omega) | (refine ⟨by first | exact trivial | rfl, by first | exact Nat.le_refl _ | omega, ?_⟩; change roomP _ _ 1; simp only [roomP]; omega) | (change roomP _ _ 1; simp only [roomP]; omega) | (simp; omega) | (simp; done)) ?_; conv => whnf)
      | (refine idx_nat (by omega) (fun x hx => ?_); conv => whnf)
      | (refine idx_intro (by omega) (by omega) (fun x hx => ?_); conv => whnf)
    all_goals first | (exfalso; grind) | (simp [*]; done)
  · cases h
def exL : List entT.El := [mkE ⟨#[98]⟩ ⟨#[]⟩ true 5, mkE ⟨#[97]⟩ ⟨#[]⟩ false 1]
def spFilterA : DSpec
  | [.lst (.st [.str, .str, .bool, .int .i64]) l, .bool b] => match sameL entT l exL with
    | true => some (b = false, .tup [.lst entT [], .int .i64 1, .int .i64 6])
    | false => some (l.length ≤ 20000 ∧ (∀ x ∈ l, errX x = 0) ∧ ascL l, .tup [.lst entT (nwF b l).1, .int .i64 0, .int .i64 0])
  | _ => none
set_option maxRecDepth 100000 in
set_option maxHeartbeats 2000000 in
theorem shFilterX : SpecOk Try.prog 18 (fun ys => match ys with | [.lst (.st [.str, .str, .bool, .int .i64]) l, .bool b] => some (l = exL ∧ b = false, .tup [.lst entT [], .int .i64 1, .int .i64 6]) | _ => none) := by
  refine spec_body (C := cx6) mixed tbOk specs6 (callN_ok (C := cx6) mixed tbOk specs6 fns6 3) fnOk_shFilter ?_
  intro ys p r h hp
  split at h
  · rename_i l b
    cases h
    obtain ⟨rfl, rfl⟩ := hp
    conv => whnf
    repeat' first
      | (refine br_true (by first | with_reducible exact rfl | decide | rfl) ?_; conv => whnf)
      | (refine br_false (by first | with_reducible exact rfl | decide | rfl) ?_; conv => whnf)
      | (refine need_in (by first | exact trivial | exact ⟨rfl, Nat.le_refl _⟩ | decide | (simp only [inR]; omega) | omega) ?_; conv => whnf)
      | (refine idx_cl ?_; (conv => whnf); refine ⟨by decide, ?_⟩; conv => whnf)
    refine loop_turns 6 ?_
    conv => whnf
    repeat' first
      | (refine br_true (by first | with_reducible exact rfl | decide | rfl) ?_; conv => whnf)
      | (refine br_false (by first | with_reducible exact rfl | decide | rfl) ?_; conv => whnf)
      | (refine need_in (by first | exact trivial | exact ⟨rfl, Nat.le_refl _⟩ | decide | (simp only [inR]; omega) | omega) ?_; conv => whnf)
      | (refine idx_cl ?_; (conv => whnf); refine ⟨by decide, ?_⟩; conv => whnf)
    rfl
  · cases h
theorem shFilterA_ok : SpecOk Try.prog 18 spFilterA := by
  refine ⟨shFilter_ok.1, fun ys p r hsp hp => ?_⟩
  unfold spFilterA at hsp
  split at hsp
  · rename_i l b
    split at hsp
    · rename_i he
      cases hsp
      cases same_eq he
      subst hp
      exact shFilterX.2 _ _ _ rfl ⟨rfl, rfl⟩
    · cases hsp
      exact shFilter_ok.2 _ _ _ rfl hp
  · cases hsp

theorem fnOk_awake : FnOk Try.prog 10 Try.f10 := ⟨by rfl, by kernel_rfl, by
  show okCode _ _ = true ∧ drawsOk _ = true
  exact ⟨by kernel_rfl, by kernel_rfl⟩⟩
theorem fnOk_shCount : FnOk Try.prog 20 Try.f20 := ⟨by rfl, by kernel_rfl, by
  show okCode _ _ = true ∧ drawsOk _ = true
  exact ⟨by kernel_rfl, by kernel_rfl⟩⟩
theorem fnOk_shCount1 : FnOk Try.prog 31 Try.f31 := ⟨by rfl, by kernel_rfl, by
  show okCode _ _ = true ∧ drawsOk _ = true
  exact ⟨by kernel_rfl, by kernel_rfl⟩⟩
theorem fnOk_example : FnOk Try.prog 25 Try.f25 := ⟨by rfl, by kernel_rfl, by
  show okCode _ _ = true ∧ drawsOk _ = true
  exact ⟨by kernel_rfl, by kernel_rfl⟩⟩
theorem fnOk_kShadowed : FnOk Try.prog 54 Try.f54 := ⟨by rfl, by kernel_rfl, by
  show okCode _ _ = true ∧ drawsOk _ = true
  exact ⟨by kernel_rfl, by kernel_rfl⟩⟩
theorem fnOk_kDropped : FnOk Try.prog 55 Try.f55 := ⟨by rfl, by kernel_rfl, by
  show okCode _ _ = true ∧ drawsOk _ = true
  exact ⟨by kernel_rfl, by kernel_rfl⟩⟩
noncomputable def cx10 : Cx := ⟨tb, [(26, Try.f26), (29, Try.f29), (20, Try.f20), (31, Try.f31), (25, Try.f25), (54, Try.f54), (55, Try.f55)], [(13, spBegin), (11, spStep), (18, spFilterA), (28, spKey), (34, spCheck), (15, spShCheck), (53, spSelf), (22, spSame)]⟩
theorem specs10 : SpecsOk Try.prog cx10.specs := .cons shBegin_ok (.cons shStep_ok (.cons shFilterA_ok (.cons keysCheck_ok (.cons entCheck_ok (.cons shCheck_ok (.cons keptE_ok (.cons sameEnts_ok .nil)))))))
theorem fns10 : FnsOk Try.prog cx10.fns := .cons fnOk_shNext (.cons fnOk_shWalk (.cons fnOk_shCount (.cons fnOk_shCount1 (.cons fnOk_example (.cons fnOk_kShadowed (.cons fnOk_kDropped .nil))))))
def spAwake : DSpec
  | [] => some (True, .bool true)
  | _ => none
theorem ascL_dec {l : List entT.El} (h : (List.range l.length).all (fun i => match l[i]?, l[i + 1]? with | some y, some x => !sLt x.1 y.1 | _, _ => true) = true) : ascL l := by
  intro i x y hy hx
  have := List.all_eq_true.1 h i (List.mem_range.2 (List.getElem?_eq_some_iff.1 hy).1)
  rw [hy, hx] at this
  simpa using this
theorem errs_dec {l : List entT.El} (h : l.all (fun x => decide (errX x = 0)) = true) : ∀ x ∈ l, errX x = 0 := fun x hx => by
  have := List.all_eq_true.1 h x hx
  simpa using this
set_option maxRecDepth 100000 in
set_option maxHeartbeats 4000000 in
theorem awake_ok : SpecOk Try.prog 10 spAwake := by
  refine spec_body (C := cx10) mixed tbOk specs10 (callN_ok (C := cx10) mixed tbOk specs10 fns10 4) fnOk_awake ?_
  intro ys p r h hp
  unfold spAwake at h
  split at h
  · cases h
    conv => whnf
    repeat' first
      | (refine br_true (by first | with_reducible exact rfl | decide | rfl) ?_; conv => whnf)
      | (refine br_false (by first | with_reducible exact rfl | decide | rfl) ?_; conv => whnf)
      | (refine need_in (by first | exact trivial | exact ⟨rfl, Nat.le_refl _⟩ | decide | (simp only [inR]; omega) | omega) ?_; conv => whnf)
      | (refine idx_cl ?_; (conv => whnf); refine ⟨by decide, ?_⟩; conv => whnf)
    refine .mk [.frz 1 [1, 19] []] ?_
    conv => whnf
    repeat' first
      | (refine br_true (by first | with_reducible exact rfl | decide | rfl) ?_; conv => whnf)
      | (refine br_false (by first | with_reducible exact rfl | decide | rfl) ?_; conv => whnf)
      | (refine need_in (by first | exact trivial | exact ⟨rfl, Nat.le_refl _⟩ | decide | (simp only [inR]; omega) | omega) ?_; conv => whnf)
      | (refine idx_cl ?_; (conv => whnf); refine ⟨by decide, ?_⟩; conv => whnf)
    refine need_in ⟨by decide, errs_dec (by decide), ascL_dec (by decide)⟩ ?_
    conv => whnf
    repeat' first
      | (refine br_true (by first | with_reducible exact rfl | decide | rfl) ?_; conv => whnf)
      | (refine br_false (by first | with_reducible exact rfl | decide | rfl) ?_; conv => whnf)
      | (refine need_in (by first | exact trivial | exact ⟨rfl, Nat.le_refl _⟩ | decide | (simp only [inR]; omega) | omega) ?_; conv => whnf)
      | (refine idx_cl ?_; (conv => whnf); refine ⟨by decide, ?_⟩; conv => whnf)
    refine need_in ⟨by decide, errs_dec (by decide), ascL_dec (by decide)⟩ ?_
    conv => whnf
    repeat' first
      | (refine br_true (by first | with_reducible exact rfl | decide | rfl) ?_; conv => whnf)
      | (refine br_false (by first | with_reducible exact rfl | decide | rfl) ?_; conv => whnf)
      | (refine need_in (by first | exact trivial | exact ⟨rfl, Nat.le_refl _⟩ | decide | (simp only [inR]; omega) | omega) ?_; conv => whnf)
      | (refine idx_cl ?_; (conv => whnf); refine ⟨by decide, ?_⟩; conv => whnf)
    refine loop_turns 6 ?_
    conv => whnf
    repeat' first
      | (refine br_true (by first | with_reducible exact rfl | decide | rfl) ?_; conv => whnf)
      | (refine br_false (by first | with_reducible exact rfl | decide | rfl) ?_; conv => whnf)
      | (refine need_in (by first | exact trivial | exact ⟨rfl, Nat.le_refl _⟩ | decide | (simp only [inR]; omega) | omega) ?_; conv => whnf)
      | (refine idx_cl ?_; (conv => whnf); refine ⟨by decide, ?_⟩; conv => whnf)
    rfl
  · cases h
end Go.Proofs.Ytmegjnanieafbaa
