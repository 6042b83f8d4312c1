/-
  What the filter of merges does: checks of keys, entries and states; Filter.
-/
import Derived.Test.YtmegjnanieafbaaN5
namespace Go.Proofs.Ytmegjnanieafbaa
open Av Bk

theorem fnOk_keysCheck : FnOk Try.prog 28 Try.f28 := ⟨by rfl, by kernel_rfl, by
  show okCode _ _ = true ∧ drawsOk _ = true
  exact ⟨by kernel_rfl, by kernel_rfl⟩⟩
def spKey : DSpec
  | [.str k] => some (True, .int .i64 (bif decide (32 < (k.size : Int)) then 3 else 0))
  | _ => none
theorem keysCheck_ok : SpecOk Try.prog 28 spKey := by
  refine spec_body (C := cx0) mixed tbOk SpecsOk.nil (callN_ok (C := cx0) mixed tbOk SpecsOk.nil FnsOk.nil 0) fnOk_keysCheck ?_
  intro ys p r h hp
  unfold spKey at h
  split at h
  · rename_i k
    cases h
    conv => whnf
    repeat' first
      | (refine br_true (by first | with_reducible exact rfl | assumption | decide) ?_; conv => whnf)
      | (refine br_false (by first | with_reducible exact rfl | assumption | decide) ?_; conv => whnf)
      | (with_reducible refine br_kt (by assumption) ?_; conv => whnf)
      | (with_reducible refine br_kf (by assumption) ?_; conv => whnf)
      | (with_reducible refine br_nt (by assumption) ?_; conv => whnf)
      | (with_reducible refine br_nf (by assumption) ?_; conv => whnf)
      | (with_reducible refine br_et (by assumption) ?_; conv => whnf)
      | (with_reducible refine br_ef (by assumption) ?_; conv => whnf)
      | ((with_reducible refine br_dec (fun h => ?_) (fun h => ?_)) <;> first | (exfalso; omega) | conv => whnf)
      | ((with_reducible refine br_ndec (fun h => ?_) (fun h => ?_)) <;> first | (exfalso; omega) | conv => whnf)
      | ((with_reducible refine br_ne (fun h => ?_) (fun h => ?_)) <;> first | (exfalso; omega) | conv => whnf)
      | ((with_reducible refine br_eq (fun h => ?_) (fun h => ?_)) <;> first | (exfalso; omega) | conv => whnf)
      | (refine br_intro (fun h => ?_) (fun h => ?_) <;> conv => whnf)
      | (refine need_in (by first | exact trivial | assumption | exact ⟨rfl, Nat.le_refl _⟩ | (simp only [inR]; omega) | omega | (simp only [roomP, true_and, and_true, List.length_take, List.length_drop, List.length_append, List.length_cons, List.length_nil, List.length_set, List.length_replicate]; omega) | (refine ⟨by first | exact trivial | rfl, by first | exact Nat.le_refl _ | omega, ?_⟩; change roomP _ _ 1; simp only [roomP]; omega) | (change roomP _ _ 1; simp only [roomP]; omega) | (simp; omega) | (simp; done)) ?_; conv => whnf)
      | (refine idx_nat (by omega) (fun x hx => ?_); conv => whnf)
      | (refine idx_intro (by omega) (by omega) (fun x hx => ?_); conv => whnf)
    all_goals (refine congrArg (AV.int .i64) ?_; simp [*])
  · cases h
theorem bif0 {p : Prop} [Decidable p] {n : Int} (hn : n ≠ 0) : ((bif decide p then n else 0) = 0) = ¬ p := by
  by_cases h : p <;> simp [h, hn]
theorem fnOk_entCheck : FnOk Try.prog 34 Try.f34 := ⟨by rfl, by kernel_rfl, by
  show okCode _ _ = true ∧ drawsOk _ = true
  exact ⟨by kernel_rfl, by kernel_rfl⟩⟩
noncomputable def cx5 : Cx := ⟨tb, [], [(28, spKey)]⟩
theorem specs5 : SpecsOk Try.prog cx5.specs := .cons keysCheck_ok .nil
set_option maxRecDepth 100000 in
set_option maxHeartbeats 2000000 in
theorem entCheck_ok : SpecOk Try.prog 34 spCheck := by
  refine spec_body (C := cx5) mixed tbOk specs5 (callN_ok (C := cx5) mixed tbOk specs5 FnsOk.nil 0) fnOk_entCheck ?_
  intro ys p r h hp
  unfold spCheck at h
  split at h
  · rename_i k v d s
    cases h
    conv => whnf
    repeat' first
      | (refine br_true (by first | with_reducible exact rfl | assumption | decide) ?_; conv => whnf)
      | (refine br_false (by first | with_reducible exact rfl | assumption | decide) ?_; conv => whnf)
      | (with_reducible refine br_kt (by assumption) ?_; conv => whnf)
      | (with_reducible refine br_kf (by assumption) ?_; conv => whnf)
      | (with_reducible refine br_nt (by assumption) ?_; conv => whnf)
      | (with_reducible refine br_nf (by assumption) ?_; conv => whnf)
      | (with_reducible refine br_et (by assumption) ?_; conv => whnf)
      | (with_reducible refine br_ef (by assumption) ?_; conv => whnf)
      | ((with_reducible refine br_dec (fun h => ?_) (fun h => ?_)) <;> first | (exfalso; omega) | conv => whnf)
      | ((with_reducible refine br_ndec (fun h => ?_) (fun h => ?_)) <;> first | (exfalso; omega) | conv => whnf)
      | ((with_reducible refine br_ne (fun h => ?_) (fun h => ?_)) <;> first | (exfalso; omega) | conv => whnf)
      | ((with_reducible refine br_eq (fun h => ?_) (fun h => ?_)) <;> first | (exfalso; omega) | conv => whnf)
      | (refine br_intro (fun h => ?_) (fun h => ?_) <;> conv => whnf)
      | (refine need_in (by first | exact trivial | assumption | exact ⟨rfl, Nat.le_refl _⟩ | (simp only [inR]; omega) | omega | (simp only [roomP, true_and, and_true, List.length_take, List.length_drop, List.length_append, List.length_cons, List.length_nil, List.length_set, List.length_replicate]; omega) | (refine ⟨by first | exact trivial | rfl, by first | exact Nat.le_refl _ | omega, ?_⟩; change roomP _ _ 1; simp only [roomP]; omega) | (change roomP _ _ 1; simp only [roomP]; omega) | (simp; omega) | (simp; done)) ?_; conv => whnf)
      | (refine idx_nat (by omega) (fun x hx => ?_); conv => whnf)
      | (refine idx_intro (by omega) (by omega) (fun x hx => ?_); conv => whnf)
    all_goals (refine congrArg (AV.int .i64) ?_; grind [errE])
  · cases h
theorem fnOk_shCheck : FnOk Try.prog 15 Try.f15 := ⟨by rfl, by kernel_rfl, by
  show okCode _ _ = true ∧ drawsOk _ = true
  exact ⟨by kernel_rfl, by kernel_rfl⟩⟩
def shE (sm : Bool) (last : ByteArray) : Int := bif decide (32 < (last.size : Int)) then 3 else bif !sm && !(sEq last ⟨#[]⟩) then 6 else 0
def spShCheck : DSpec
  | [.agg [.bool sm, .str last, .bool _]] => some (True, .int .i64 (shE sm last))
  | _ => none
set_option maxRecDepth 100000 in
set_option maxHeartbeats 2000000 in
theorem shCheck_ok : SpecOk Try.prog 15 spShCheck := by
  refine spec_body (C := cx5) mixed tbOk specs5 (callN_ok (C := cx5) mixed tbOk specs5 FnsOk.nil 0) fnOk_shCheck ?_
  intro ys p r h hp
  unfold spShCheck at h
  split at h
  · rename_i sm last _
    cases h
    conv => whnf
    repeat' first
      | (refine br_true (by first | with_reducible exact rfl | assumption | decide) ?_; conv => whnf)
      | (refine br_false (by first | with_reducible exact rfl | assumption | decide) ?_; conv => whnf)
      | (with_reducible refine br_kt (by assumption) ?_; conv => whnf)
      | (with_reducible refine br_kf (by assumption) ?_; conv => whnf)
      | (with_reducible refine br_nt (by assumption) ?_; conv => whnf)
      | (with_reducible refine br_nf (by assumption) ?_; conv => whnf)
      | (with_reducible refine br_et (by assumption) ?_; conv => whnf)
      | (with_reducible refine br_ef (by assumption) ?_; conv => whnf)
      | ((with_reducible refine br_dec (fun h => ?_) (fun h => ?_)) <;> first | (exfalso; omega) | conv => whnf)
      | ((with_reducible refine br_ndec (fun h => ?_) (fun h => ?_)) <;> first | (exfalso; omega) | conv => whnf)
      | ((with_reducible refine br_ne (fun h => ?_) (fun h => ?_)) <;> first | (exfalso; omega) | conv => whnf)
      | ((with_reducible refine br_eq (fun h => ?_) (fun h => ?_)) <;> first | (exfalso; omega) | conv => whnf)
      | (refine br_intro (fun h => ?_) (fun h => ?_) <;> conv => whnf)
      | (refine need_in (by first | exact trivial | assumption | exact ⟨rfl, Nat.le_refl _⟩ | (simp only [inR]; omega) | omega | (simp only [roomP, true_and, and_true, List.length_take, List.length_drop, List.length_append, List.length_cons, List.length_nil, List.length_set, List.length_replicate]; omega) | (refine ⟨by first | exact trivial | rfl, by first | exact Nat.le_refl _ | omega, ?_⟩; change roomP _ _ 1; simp only [roomP]; omega) | (change roomP _ _ 1; simp only [roomP]; omega) | (simp; omega) | (simp; done)) ?_; conv => whnf)
      | (refine idx_nat (by omega) (fun x hx => ?_); conv => whnf)
      | (refine idx_intro (by omega) (by omega) (fun x hx => ?_); conv => whnf)
    all_goals (refine congrArg (AV.int .i64) ?_; grind [shE])
  · cases h
theorem fnOk_keptE : FnOk Try.prog 53 Try.f53 := ⟨by rfl, by kernel_rfl, by
  show okCode _ _ = true ∧ drawsOk _ = true
  exact ⟨by kernel_rfl, by kernel_rfl⟩⟩
def spSelf : DSpec
  | [.agg [.str k, .str v, .bool d, .int .i64 s]] => some (True, .agg [.str k, .str v, .bool d, .int .i64 s])
  | _ => none
theorem keptE_ok : SpecOk Try.prog 53 spSelf := by
  refine spec_body (C := cx0) mixed tbOk SpecsOk.nil (callN_ok (C := cx0) mixed tbOk SpecsOk.nil FnsOk.nil 0) fnOk_keptE ?_
  intro ys p r h hp
  unfold spSelf at h
  split at h
  · cases h
    conv => whnf
  · cases h
theorem fnOk_shBegin : FnOk Try.prog 13 Try.f13 := ⟨by rfl, by kernel_rfl, by
  show okCode _ _ = true ∧ drawsOk _ = true
  exact ⟨by kernel_rfl, by kernel_rfl⟩⟩
theorem fnOk_shNext : FnOk Try.prog 26 Try.f26 := ⟨by rfl, by kernel_rfl, by
  show okCode _ _ = true ∧ drawsOk _ = true
  exact ⟨by kernel_rfl, by kernel_rfl⟩⟩
theorem fnOk_shWalk : FnOk Try.prog 29 Try.f29 := ⟨by rfl, by kernel_rfl, by
  show okCode _ _ = true ∧ drawsOk _ = true
  exact ⟨by kernel_rfl, by kernel_rfl⟩⟩
theorem fnOk_shFilt1 : FnOk Try.prog 30 Try.f30 := ⟨by rfl, by kernel_rfl, by
  show okCode _ _ = true ∧ drawsOk _ = true
  exact ⟨by kernel_rfl, by kernel_rfl⟩⟩
theorem fnOk_shFilter : FnOk Try.prog 18 Try.f18 := ⟨by rfl, by kernel_rfl, by
  show okCode _ _ = true ∧ drawsOk _ = true
  exact ⟨by kernel_rfl, by kernel_rfl⟩⟩
noncomputable def cx6 : Cx := ⟨tb, [(13, Try.f13), (26, Try.f26), (29, Try.f29), (30, Try.f30)], [(28, spKey), (34, spCheck), (15, spShCheck), (53, spSelf)]⟩
theorem specs6 : SpecsOk Try.prog cx6.specs := .cons keysCheck_ok (.cons entCheck_ok (.cons shCheck_ok (.cons keptE_ok .nil)))
theorem fns6 : FnsOk Try.prog cx6.fns := .cons fnOk_shBegin (.cons fnOk_shNext (.cons fnOk_shWalk (.cons fnOk_shFilt1 .nil)))
/-- What is kept of entries, one by one: the list, whether there was an entry, its key. -/
def nwStep (b : Bool) (st : List entT.El × Bool × ByteArray) (x : entT.El) : List entT.El × Bool × ByteArray :=
  (bif (st.2.1 && sEq x.1 st.2.2) || (b && x.2.2.1) then st.1 else st.1 ++ [x], true, x.1)
def nwF (b : Bool) (l : List entT.El) : List entT.El × Bool × ByteArray := l.foldl (nwStep b) ([], false, ⟨#[]⟩)
theorem nwF_take {b : Bool} {l : List entT.El} {i : Nat} {x : entT.El} (hx : l[i]? = some x) : nwF b (l.take (i + 1)) = nwStep b (nwF b (l.take i)) x := by
  unfold nwF
  rw [List.take_add_one, hx, List.foldl_append]
  rfl
theorem nw_len (b : Bool) : ∀ (l : List entT.El) (st : List entT.El × Bool × ByteArray), (l.foldl (nwStep b) st).1.length ≤ st.1.length + l.length
  | [], st => by simp
  | x :: l, st => by
    rw [List.foldl_cons]
    have := nw_len b l (nwStep b st x)
    have h : (nwStep b st x).1.length ≤ st.1.length + 1 := by
      unfold nwStep
      simp only
      cases (st.2.1 && sEq x.1 st.2.2) || (b && x.2.2.1) <;> simp
    simp only [List.length_cons]
    omega
def ascL (l : List entT.El) : Prop := ∀ (i : Nat) (x y : entT.El), l[i]? = some y → l[i + 1]? = some x → sLt x.1 y.1 = false
theorem err_key {x : entT.El} (h : errX x = 0) : shE true x.1 = 0 := by
  simp only [errX, errE] at h
  simp only [shE]
  grind
theorem heap_keep {b c : AObj} {T U : TypeId} {g n : Nat} {l m : List entT.El} (hn : n = m.length) (hl : l = m) : [.cells T [.own 3 g n], b, c, .arr U entT l false g] = [AObj.cells T [.own 3 g m.length], b, c, .arr U entT m false g] := by
  subst hn hl
  rfl
def spFilter : DSpec
  | [.lst (.st [.str, .str, .bool, .int .i64]) l, .bool b] => some (l.length ≤ 20000 ∧ (∀ x ∈ l, errX x = 0) ∧ ascL l, .tup [.lst entT (nwF b l).1, .int .i64 0, .int .i64 0])
  | _ => none
set_option maxRecDepth 100000 in
set_option maxHeartbeats 2000000 in
theorem shFilter_ok : SpecOk Try.prog 18 spFilter := by
  refine spec_body (C := cx6) mixed tbOk specs6 (callN_ok (C := cx6) mixed tbOk specs6 fns6 3) fnOk_shFilter ?_
  intro ys p r h hp
  unfold spFilter at h
  split at h
  · rename_i l b
    cases h
    obtain ⟨hlen, herr, hasc⟩ := hp
    conv => whnf
    repeat' first
      | (refine br_true (by first | with_reducible exact rfl | assumption | decide) ?_; conv => whnf)
      | (refine br_false (by first | with_reducible exact rfl | assumption | decide) ?_; conv => whnf)
      | (with_reducible refine br_kt (by assumption) ?_; conv => whnf)
      | (with_reducible refine br_kf (by assumption) ?_; conv => whnf)
      | (with_reducible refine br_nt (by assumption) ?_; conv => whnf)
      | (with_reducible refine br_nf (by assumption) ?_; conv => whnf)
      | (with_reducible refine br_et (by assumption) ?_; conv => whnf)
      | (with_reducible refine br_ef (by assumption) ?_; conv => whnf)
      | ((with_reducible refine br_dec (fun h => ?_) (fun h => ?_)) <;> first | (exfalso; omega) | conv => whnf)
      | ((with_reducible refine br_ndec (fun h => ?_) (fun h => ?_)) <;> first | (exfalso; omega) | conv => whnf)
      | ((with_reducible refine br_ne (fun h => ?_) (fun h => ?_)) <;> first | (exfalso; omega) | conv => whnf)
      | ((with_reducible refine br_eq (fun h => ?_) (fun h => ?_)) <;> first | (exfalso; omega) | conv => whnf)
      | (refine br_intro (fun h => ?_) (fun h => ?_) <;> conv => whnf)
      | (refine need_in (by first | exact trivial | assumption | exact ⟨rfl, Nat.le_refl _⟩ | (simp only [inR]; omega) | omega | (simp only [roomP, true_and, and_true, List.length_take, List.length_drop, List.length_append, List.length_cons, List.length_nil, List.length_set, List.length_replicate]; omega) | (refine ⟨by first | exact trivial | rfl, by first | exact Nat.le_refl _ | omega, ?_⟩; change roomP _ _ 1; simp only [roomP]; omega) | (change roomP _ _ 1; simp only [roomP]; omega) | (simp; omega) | (simp; done)) ?_; conv => whnf)
      | (refine idx_nat (by omega) (fun x hx => ?_); conv => whnf)
      | (refine idx_intro (by omega) (by omega) (fun x hx => ?_); conv => whnf)
    · refine loop_inv [.cell 0 0 25 entT] [21] (fun vs h => ∃ (i : Nat) (sm : Bool) (last : ByteArray) (out : List entT.El) (g : Nat), vs = [.int .i64 (i : Int)] ∧ h = [.cells 33 [.own 3 g out.length], .cells 23 [.bool false, .str ⟨#[]⟩, .bool b], .cells 23 [.bool sm, .str last, .bool b], .arr 25 entT out false g] ∧ i ≤ l.length ∧ nwF b (l.take i) = (out, sm, last) ∧ shE sm last = 0 ∧ (∀ x, l[i]? = some x → (sm && sLt x.1 last) = false)) (fun vs _ => match vs with | [.int _ k] => l.length - k.toNat | _ => 0) ?_
      conv => whnf
      refine ⟨⟨0, false, ⟨#[]⟩, [], 0, rfl, rfl, Nat.zero_le _, rfl, by decide, fun _ _ => rfl⟩, ?_⟩
      rintro vs h' - ⟨i, sm, last, out, g, rfl, rfl, hi, hnw, hsh, hlt⟩
      have hol := nw_len b (l.take i) ([], false, ⟨#[]⟩)
      rw [show (l.take i).foldl (nwStep b) ([], false, ⟨#[]⟩) = (out, sm, last) from hnw, List.length_take] at hol
      simp only [List.length_nil] at hol
      conv => whnf
      repeat' first
        | (refine br_true (by first | with_reducible exact rfl | assumption | decide) ?_; conv => whnf)
        | (refine br_false (by first | with_reducible exact rfl | assumption | decide) ?_; conv => whnf)
        | (with_reducible refine br_kt (by assumption) ?_; conv => whnf)
        | (with_reducible refine br_kf (by assumption) ?_; conv => whnf)
        | (with_reducible refine br_nt (by assumption) ?_; conv => whnf)
        | (with_reducible refine br_nf (by assumption) ?_; conv => whnf)
        | (with_reducible refine br_et (by assumption) ?_; conv => whnf)
        | (with_reducible refine br_ef (by assumption) ?_; conv => whnf)
        | ((with_reducible refine br_dec (fun h => ?_) (fun h => ?_)) <;> first | (exfalso; omega) | conv => whnf)
        | ((with_reducible refine br_ndec (fun h => ?_) (fun h => ?_)) <;> first | (exfalso; omega) | conv => whnf)
        | ((with_reducible refine br_ne (fun h => ?_) (fun h => ?_)) <;> first | (exfalso; omega) | conv => whnf)
        | ((with_reducible refine br_eq (fun h => ?_) (fun h => ?_)) <;> first | (exfalso; omega) | conv => whnf)
        | (refine br_intro (fun h => ?_) (fun h => ?_) <;> conv => whnf)
        | (refine need_in (by first | exact trivial | assumption | exact ⟨rfl, Nat.le_refl _⟩ | (simp only [inR]; omega) | omega | (simp only [roomP, true_and, and_true, List.length_take, List.length_drop, List.length_append, List.length_cons, List.length_nil, List.length_set, List.length_replicate]; omega) | (refine ⟨by first | exact trivial | rfl, by first | exact Nat.le_refl _ | omega, ?_⟩; change roomP _ _ 1; simp only [roomP]; omega) | (change roomP _ _ 1; simp only [roomP]; omega) | (simp; omega) | (simp; done)) ?_; conv => whnf)
        | (refine idx_nat (by omega) (fun x hx => ?_); conv => whnf)
        | (refine idx_intro (by omega) (by omega) (fun x hx => ?_); conv => whnf)
      all_goals try (exfalso; have h1 := herr x (List.mem_of_getElem? hx); have h2 := hlt x hx; simp only [errX] at h1; grind)
      all_goals first
        | (have h1 := herr x (List.mem_of_getElem? hx)
           have hw := (nwF_take (b := b) hx).trans (congrArg (fun st => nwStep b st x) hnw)
           have hk : nwStep b (out, sm, last) x = (out, true, x.1) := by simp [nwStep, *] <;> rfl
           refine back_intro (by conv => whnf) rfl ⟨i + 1, true, x.1, out, g, rfl, rfl, by omega, hw.trans hk, err_key h1, fun y hy => hasc i y x hx hy⟩ ?_
           show l.length - ((i : Int) + 1).toNat < l.length - (i : Int).toNat
           omega)
        | (have h1 := herr x (List.mem_of_getElem? hx)
           have hw := (nwF_take (b := b) hx).trans (congrArg (fun st => nwStep b st x) hnw)
           have hk : nwStep b (out, sm, last) x = (out ++ [x], true, x.1) := by simp [nwStep, *] <;> rfl
           refine back_intro (by conv => whnf) rfl ⟨i + 1, true, x.1, out ++ [x], g + 1, rfl, heap_keep ?_ ?_, by omega, hw.trans hk, err_key h1, fun y hy => hasc i y x hx hy⟩ ?_
           · rw [List.length_append]; rfl
           · simp only [cast_self, List.take_length]; rfl
           · show l.length - ((i : Int) + 1).toNat < l.length - (i : Int).toNat
             omega)
        | (have e : i = l.length := by omega
           rw [e, List.take_length] at hnw
           rw [hnw, List.take_length])
  · cases h
end Go.Proofs.Ytmegjnanieafbaa
