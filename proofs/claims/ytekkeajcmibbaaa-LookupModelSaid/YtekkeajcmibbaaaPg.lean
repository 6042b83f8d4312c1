/-
  What is not shadowed, by the reference.
  What is behind entries, by the reference.
  The first of lists that were read so far, by the reference.
  The merge of lists, as the reference makes it: plain Lean.
-/
import Derived.Test.YtekkeajcmibbaaaPc
namespace Go.Proofs.Ytekkeajcmibbaaa
open Av Bk

def fltGo (bo : Bool) : Bool → ByteArray → List entT.El → List entT.El
  | _, _, [] => []
  | so, last, x :: l => (if stepK so last bo x.1 x.2.2.1 = true then [x] else []) ++ fltGo bo true x.1 l
theorem flt_step {bo so : Bool} {last : ByteArray} {l : List entT.El} {i : Nat} {x : entT.El} (hx : l[i]? = some x) : fltGo bo so last (l.drop i) = (if stepK so last bo x.1 x.2.2.1 = true then [x] else []) ++ fltGo bo true x.1 (l.drop (i + 1)) := by
  have hi := (List.getElem?_eq_some_iff.1 hx).1
  have he := (List.getElem?_eq_some_iff.1 hx).2
  rw [List.drop_eq_getElem_cons hi, he, fltGo]
theorem errX_sh {x : entT.El} (h : errX x = 0) : shE true x.1 = 0 := by
  simp only [errX, errE] at h
  unfold shE
  by_cases h1 : 32 < (x.1.size : Int)
  · simp [h1] at h
  · rw [if_neg h1, if_neg (by simp)]
theorem heap_r {a b : AObj} {T : TypeId} {t : Ty} {g : Nat} {l m : List t.El} (hl : l = m) : [a, b, .arr T t l false g] = [a, b, AObj.arr T t m false g] := by rw [hl]
def spFlt : DSpec
  | [.lst (.st [.str, .str, .bool, .int .i64]) l, .bool bo] => some (l.length ≤ 20000 ∧ (∀ x ∈ (l : List entT.El), errX x = 0) ∧ (∀ (i : Nat) (x y : entT.El), (l : List entT.El)[i]? = some x → (l : List entT.El)[i + 1]? = some y → sLt y.1 x.1 = false), .tup [.lst entT (fltGo bo false ⟨#[]⟩ l), .int .i64 0, .int .i64 0])
  | _ => none
set_option maxRecDepth 100000 in
theorem fnOk_rfFlt : FnOk Try.prog 90 Try.f90 := ⟨by rfl, by kernel_rfl, by
  show okCode _ _ = true ∧ drawsOk _ = true
  exact ⟨by kernel_rfl, by kernel_rfl⟩⟩
noncomputable def cpd1 : Cx := ⟨tb, [], [(91, spShB), (100, spShS)]⟩
theorem spd1 : SpecsOk Try.prog cpd1.specs := .cons rfShB_ok (.cons rfShS_ok .nil)
set_option maxRecDepth 100000 in
set_option maxHeartbeats 4000000 in
theorem rfFlt_ok : SpecOk Try.prog 90 spFlt := by
  refine spec_body (C := cpd1) mixed tbOk spd1 (callN_ok (C := cpd1) mixed tbOk spd1 FnsOk.nil 3) fnOk_rfFlt ?_
  intro ys p r h hp
  unfold spFlt at h
  split at h
  · rename_i l bo
    cases h
    obtain ⟨h1, h2, h3⟩ := hp
    conv => whnf
    repeat' first
      | ((first | refine idx_kn (by assumption) ?_ | refine idx_ki (by assumption) (by omega) ?_ | refine br_true (by first | with_reducible exact rfl | assumption | decide) ?_ | refine br_false (by first | with_reducible exact rfl | assumption | decide) ?_ | with_reducible first | refine br_kt (by assumption) ?_ | refine br_kf (by assumption) ?_ | refine br_nt (by assumption) ?_ | refine br_nf (by assumption) ?_ | refine br_et (by assumption) ?_ | refine br_ef (by assumption) ?_); conv => whnf)
      | ((with_reducible first | refine br_dec (fun h => ?_) (fun h => ?_) | refine br_ndec (fun h => ?_) (fun h => ?_) | refine br_ne (fun h => ?_) (fun h => ?_) | refine br_eq (fun h => ?_) (fun h => ?_)) <;> first | (exfalso; omega) | conv => whnf)
      | (refine br_intro (fun h => ?_) (fun h => ?_) <;> conv => whnf)
      | ((first | refine need_in (by first | exact trivial | assumption | exact ⟨rfl, Nat.le_refl _⟩ | exact ⟨rfl, rfl⟩ | (simp only [inR]; omega) | omega | (simp only [roomP, true_and, and_true, List.length_take, List.length_drop, List.length_append, List.length_cons, List.length_nil, List.length_set, List.length_replicate]; omega) | (refine ⟨by first | exact trivial | rfl, by first | exact Nat.le_refl _ | omega | (simp; omega), ?_⟩; change roomP _ _ 1; simp only [roomP]; omega) | (change roomP _ _ 1; simp only [roomP]; omega) | (simp; omega) | (simp [inR]; omega) | (simp [inR]; done) | decide | (simp; done)) ?_ | refine idx_nat (by omega) (fun x hx => ?_) | refine frz_auto ?_ | refine draw_plain ?_ | refine idx_intro (by first | omega | (simp; omega) | (simp; done)) (by first | omega | (simp; omega) | (simp; done)) (fun x hx => ?_)); conv => whnf)
    refine loop_inv [] [8, 9] (fun vs h => ∃ (i g : Nat) (so : Bool) (last : ByteArray) (dn : List entT.El), vs = [.own 2 g dn.length, .int .i64 (i : Int)] ∧ h = [.arr 29 entT [] false 0, .cells 101 [.bool so, .str last, .bool bo], .arr 29 entT dn false g] ∧ i ≤ l.length ∧ dn.length ≤ i ∧ fltGo bo false ⟨#[]⟩ l = dn ++ fltGo bo so last (l.drop i) ∧ shE so last = 0 ∧ ∀ x : entT.El, (l : List entT.El)[i]? = some x → (so && sLt x.1 last) = false) (fun vs _ => match vs with | [_, .int _ k] => l.length - k.toNat | _ => 0) ?_
    conv => whnf
    refine ⟨⟨0, 0, false, ⟨#[]⟩, [], rfl, rfl, by omega, by simp, by simp, by decide, by simp⟩, ?_⟩
    rintro vs h' - ⟨i, g, so, last, dn, rfl, rfl, hi, hdl, hf, hs, ho⟩
    by_cases hil : i < l.length
    · obtain ⟨x, hx⟩ : ∃ x : entT.El, (l : List entT.El)[i]? = some x := ⟨_, List.getElem?_eq_getElem hil⟩
      have hox := ho x hx
      have hex := h2 x (List.mem_of_getElem? hx)
      have hP : shE so last = 0 ∧ errE x.1 x.2.1 x.2.2.1 x.2.2.2.1 = 0 ∧ (so && sLt x.1 last) = false := ⟨hs, hex, hox⟩
      have hst := flt_step (bo := bo) (so := so) (last := last) hx
      have hnx : ∀ y : entT.El, (l : List entT.El)[i + 1]? = some y → (true && sLt y.1 x.1) = false := fun y hy => by rw [h3 i x y hx hy]; rfl
      conv => whnf
      repeat' first
        | ((first | refine idx_kn (by assumption) ?_ | refine idx_ki (by assumption) (by omega) ?_ | refine br_true (by first | with_reducible exact rfl | assumption | decide) ?_ | refine br_false (by first | with_reducible exact rfl | assumption | decide) ?_ | with_reducible first | refine br_kt (by assumption) ?_ | refine br_kf (by assumption) ?_ | refine br_nt (by assumption) ?_ | refine br_nf (by assumption) ?_ | refine br_et (by assumption) ?_ | refine br_ef (by assumption) ?_); conv => whnf)
        | ((with_reducible first | refine br_dec (fun h => ?_) (fun h => ?_) | refine br_ndec (fun h => ?_) (fun h => ?_) | refine br_ne (fun h => ?_) (fun h => ?_) | refine br_eq (fun h => ?_) (fun h => ?_)) <;> first | (exfalso; omega) | conv => whnf)
        | (refine br_intro (fun h => ?_) (fun h => ?_) <;> conv => whnf)
        | ((first | refine need_in (by first | exact trivial | assumption | exact ⟨rfl, Nat.le_refl _⟩ | exact ⟨rfl, rfl⟩ | (simp only [inR]; omega) | omega | (simp only [roomP, true_and, and_true, List.length_take, List.length_drop, List.length_append, List.length_cons, List.length_nil, List.length_set, List.length_replicate]; omega) | (refine ⟨by first | exact trivial | rfl, by first | exact Nat.le_refl _ | omega | (simp; omega), ?_⟩; change roomP _ _ 1; simp only [roomP]; omega) | (change roomP _ _ 1; simp only [roomP]; omega) | (simp; omega) | (simp [inR]; omega) | (simp [inR]; done) | decide | (simp; done)) ?_ | refine idx_nat (by omega) (fun x hx => ?_) | refine frz_auto ?_ | refine draw_plain ?_ | refine idx_intro (by first | omega | (simp; omega) | (simp; done)) (by first | omega | (simp; omega) | (simp; done)) (fun x hx => ?_)); conv => whnf)
      · rw [if_pos h] at hst
        refine back_intro (by conv => whnf) rfl ⟨i + 1, g + 1, true, x.1, dn ++ [x], own_q ?_, heap_r ?_, by omega, ?_, ?_, errX_sh hex, hnx⟩ ?_
        · rw [List.length_append]; rfl
        · simp only [cast_self, List.take_length]; rfl
        · rw [List.length_append]; show dn.length + 1 ≤ i + 1; omega
        · rw [hf, hst, List.append_assoc]
        · show l.length - ((i : Int) + 1).toNat < l.length - (i : Int).toNat
          omega
      · rw [if_neg (by simp [h]), List.nil_append] at hst
        refine back_intro (by conv => whnf) rfl ⟨i + 1, g, true, x.1, dn, rfl, rfl, by omega, by omega, ?_, errX_sh hex, hnx⟩ ?_
        · rw [hf, hst]
        · show l.length - ((i : Int) + 1).toNat < l.length - (i : Int).toNat
          omega
    · rw [List.drop_eq_nil_iff.2 (by omega)] at hf
      have hf : fltGo bo false ⟨#[]⟩ l = dn := hf.trans (List.append_nil dn)
      conv => whnf
      repeat' first
        | ((first | refine idx_kn (by assumption) ?_ | refine idx_ki (by assumption) (by omega) ?_ | refine br_true (by first | with_reducible exact rfl | assumption | decide) ?_ | refine br_false (by first | with_reducible exact rfl | assumption | decide) ?_ | with_reducible first | refine br_kt (by assumption) ?_ | refine br_kf (by assumption) ?_ | refine br_nt (by assumption) ?_ | refine br_nf (by assumption) ?_ | refine br_et (by assumption) ?_ | refine br_ef (by assumption) ?_); conv => whnf)
        | ((with_reducible first | refine br_dec (fun h => ?_) (fun h => ?_) | refine br_ndec (fun h => ?_) (fun h => ?_) | refine br_ne (fun h => ?_) (fun h => ?_) | refine br_eq (fun h => ?_) (fun h => ?_)) <;> first | (exfalso; omega) | conv => whnf)
        | (refine br_intro (fun h => ?_) (fun h => ?_) <;> conv => whnf)
        | ((first | refine need_in (by first | exact trivial | assumption | exact ⟨rfl, Nat.le_refl _⟩ | exact ⟨rfl, rfl⟩ | (simp only [inR]; omega) | omega | (simp only [roomP, true_and, and_true, List.length_take, List.length_drop, List.length_append, List.length_cons, List.length_nil, List.length_set, List.length_replicate]; omega) | (refine ⟨by first | exact trivial | rfl, by first | exact Nat.le_refl _ | omega | (simp; omega), ?_⟩; change roomP _ _ 1; simp only [roomP]; omega) | (change roomP _ _ 1; simp only [roomP]; omega) | (simp; omega) | (simp [inR]; omega) | (simp [inR]; done) | decide | (simp; done)) ?_ | refine idx_nat (by omega) (fun x hx => ?_) | refine frz_auto ?_ | refine draw_plain ?_ | refine idx_intro (by first | omega | (simp; omega) | (simp; done)) (by first | omega | (simp; omega) | (simp; done)) (fun x hx => ?_)); conv => whnf)
      rw [hf, List.take_length]
  · cases h
end Go.Proofs.Ytekkeajcmibbaaa
namespace Go.Proofs.Ytekkeajcmibbaaa
open Av Bk

def behK (l : List entT.El) : ByteArray := match l[l.length - 1]? with | some x => x.1 | none => ⟨#[]⟩
def behA (l : List entT.El) (bo : Bool) : AV := .agg [.bool (decide (0 < l.length)), .str (behK l), .bool bo]
def spBeh : DSpec
  | [.lst (.st [.str, .str, .bool, .int .i64]) l, .bool bo] => some (l.length ≤ 20000 ∧ (∀ x ∈ (l : List entT.El), errX x = 0) ∧ (∀ (i : Nat) (x y : entT.El), (l : List entT.El)[i]? = some x → (l : List entT.El)[i + 1]? = some y → sLt y.1 x.1 = false), .tup [.lst entT (fltGo bo false ⟨#[]⟩ l), behA l bo])
  | _ => none
set_option maxRecDepth 100000 in
theorem fnOk_rfBeh : FnOk Try.prog 62 Try.f62 := ⟨by rfl, by kernel_rfl, by
  show okCode _ _ = true ∧ drawsOk _ = true
  exact ⟨by kernel_rfl, by kernel_rfl⟩⟩
noncomputable def cpe1 : Cx := ⟨tb, [], [(91, spShB), (90, spFlt)]⟩
theorem spe1 : SpecsOk Try.prog cpe1.specs := .cons rfShB_ok (.cons rfFlt_ok .nil)
set_option maxRecDepth 100000 in
set_option maxHeartbeats 4000000 in
theorem rfBeh_ok : SpecOk Try.prog 62 spBeh := by
  refine spec_body (C := cpe1) mixed tbOk spe1 (callN_ok (C := cpe1) mixed tbOk spe1 FnsOk.nil 3) fnOk_rfBeh ?_
  intro ys p r h hp
  unfold spBeh at h
  split at h
  · rename_i l bo
    cases h
    have hP := hp
    obtain ⟨h1, h2, h3⟩ := hp
    unfold behA behK
    by_cases hl : 0 < l.length
    · obtain ⟨x, hx⟩ : ∃ x : entT.El, (l : List entT.El)[l.length - 1]? = some x := ⟨_, List.getElem?_eq_getElem (by omega)⟩
      have hx' : (l : List entT.El)[((l.length : Int) - 1).toNat]? = some x := by rw [← hx]; congr 1; omega
      rw [hx, decide_eq_true hl]
      conv => whnf
      repeat' first
        | ((first | refine idx_kn (by assumption) ?_ | refine idx_ki (by assumption) (by omega) ?_ | refine br_true (by first | with_reducible exact rfl | assumption | decide) ?_ | refine br_false (by first | with_reducible exact rfl | assumption | decide) ?_ | with_reducible first | refine br_kt (by assumption) ?_ | refine br_kf (by assumption) ?_ | refine br_nt (by assumption) ?_ | refine br_nf (by assumption) ?_ | refine br_et (by assumption) ?_ | refine br_ef (by assumption) ?_); conv => whnf)
        | ((with_reducible first | refine br_dec (fun h => ?_) (fun h => ?_) | refine br_ndec (fun h => ?_) (fun h => ?_) | refine br_ne (fun h => ?_) (fun h => ?_) | refine br_eq (fun h => ?_) (fun h => ?_)) <;> first | (exfalso; omega) | conv => whnf)
        | (refine br_intro (fun h => ?_) (fun h => ?_) <;> conv => whnf)
        | ((first | refine need_in (by first | exact trivial | assumption | exact ⟨rfl, Nat.le_refl _⟩ | exact ⟨rfl, rfl⟩ | (simp only [inR]; omega) | omega | (simp only [roomP, true_and, and_true, List.length_take, List.length_drop, List.length_append, List.length_cons, List.length_nil, List.length_set, List.length_replicate]; omega) | (refine ⟨by first | exact trivial | rfl, by first | exact Nat.le_refl _ | omega | (simp; omega), ?_⟩; change roomP _ _ 1; simp only [roomP]; omega) | (change roomP _ _ 1; simp only [roomP]; omega) | (simp; omega) | (simp [inR]; omega) | (simp [inR]; done) | decide | (simp; done)) ?_ | refine idx_nat (by omega) (fun x hx => ?_) | refine frz_auto ?_ | refine draw_plain ?_ | refine idx_intro (by first | omega | (simp; omega) | (simp; done)) (by first | omega | (simp; omega) | (simp; done)) (fun x hx => ?_)); conv => whnf)
    · have hn : (l : List entT.El)[l.length - 1]? = none := List.getElem?_eq_none (by omega)
      rw [hn, decide_eq_false hl]
      conv => whnf
      repeat' first
        | ((first | refine idx_kn (by assumption) ?_ | refine idx_ki (by assumption) (by omega) ?_ | refine br_true (by first | with_reducible exact rfl | assumption | decide) ?_ | refine br_false (by first | with_reducible exact rfl | assumption | decide) ?_ | with_reducible first | refine br_kt (by assumption) ?_ | refine br_kf (by assumption) ?_ | refine br_nt (by assumption) ?_ | refine br_nf (by assumption) ?_ | refine br_et (by assumption) ?_ | refine br_ef (by assumption) ?_); conv => whnf)
        | ((with_reducible first | refine br_dec (fun h => ?_) (fun h => ?_) | refine br_ndec (fun h => ?_) (fun h => ?_) | refine br_ne (fun h => ?_) (fun h => ?_) | refine br_eq (fun h => ?_) (fun h => ?_)) <;> first | (exfalso; omega) | conv => whnf)
        | (refine br_intro (fun h => ?_) (fun h => ?_) <;> conv => whnf)
        | ((first | refine need_in (by first | exact trivial | assumption | exact ⟨rfl, Nat.le_refl _⟩ | exact ⟨rfl, rfl⟩ | (simp only [inR]; omega) | omega | (simp only [roomP, true_and, and_true, List.length_take, List.length_drop, List.length_append, List.length_cons, List.length_nil, List.length_set, List.length_replicate]; omega) | (refine ⟨by first | exact trivial | rfl, by first | exact Nat.le_refl _ | omega | (simp; omega), ?_⟩; change roomP _ _ 1; simp only [roomP]; omega) | (change roomP _ _ 1; simp only [roomP]; omega) | (simp; omega) | (simp [inR]; omega) | (simp [inR]; done) | decide | (simp; done)) ?_ | refine idx_nat (by omega) (fun x hx => ?_) | refine frz_auto ?_ | refine draw_plain ?_ | refine idx_intro (by first | omega | (simp; omega) | (simp; done)) (by first | omega | (simp; omega) | (simp; done)) (fun x hx => ?_)); conv => whnf)
  · cases h
end Go.Proofs.Ytekkeajcmibbaaa
namespace Go.Proofs.Ytekkeajcmibbaaa
open Av Bk

/-- The next entry of one list. -/
def hdE (ls : List (List entT.El)) (ps : List Int) (n : Nat) : Option entT.El := match ls[n]?, ps[n]? with
  | some l, some i => l[i.toNat]?
  | _, _ => none
/-- Which of the first lists is next. -/
def bst (ls : List (List entT.El)) (ps : List Int) : Nat → Option Nat
  | 0 => none
  | n + 1 => match hdE ls ps n, bst ls ps n with
    | none, o => o
    | some _, none => some n
    | some x, some m => match hdE ls ps m with
      | some y => if sLt x.1 y.1 = true then some n else some m
      | none => some m
def bstI : Option Nat → Int
  | none => -1
  | some n => n
theorem bst_some {ls : List (List entT.El)} {ps : List Int} : ∀ {n m : Nat}, bst ls ps n = some m → m < n ∧ ∃ y, hdE ls ps m = some y
  | 0, m, h => by cases h
  | n + 1, m, h => by
    rw [bst] at h
    cases hx : hdE ls ps n with
    | none =>
      rw [hx] at h
      have := bst_some (n := n) h
      exact ⟨by omega, this.2⟩
    | some x =>
      cases hb : bst ls ps n with
      | none => rw [hx, hb] at h; cases h; exact ⟨by omega, x, hx⟩
      | some k =>
        have hk := bst_some hb
        rw [hx, hb] at h
        obtain ⟨y, hy⟩ := hk.2
        simp only [hy] at h
        split at h
        · cases h; exact ⟨by omega, x, hx⟩
        · cases h; exact ⟨by omega, y, hy⟩
theorem hd_parts {ls : List (List entT.El)} {ps : List Int} {n : Nat} {y : entT.El} (h : hdE ls ps n = some y) : ∃ l i, ls[n]? = some l ∧ ps[n]? = some i ∧ l[i.toNat]? = some y := by
  unfold hdE at h
  cases h1 : ls[n]? with
  | none => rw [h1] at h; cases h
  | some l =>
    cases h2 : ps[n]? with
    | none => rw [h1, h2] at h; cases h
    | some i => rw [h1, h2] at h; exact ⟨l, i, rfl, rfl, h⟩
theorem vs2 {a b a' b' : Int} (h1 : a = a') (h2 : b = b') : [AV.int .i64 a, .int .i64 b] = [AV.int .i64 a', .int .i64 b'] := by rw [h1, h2]
def spFst : DSpec
  | [.lst (.sl (.st [.str, .str, .bool, .int .i64])) ls, .lst (.int .i64) ps] => some ((ps : List Int).length = (ls : List (List entT.El)).length ∧ ls.length ≤ 32 ∧ ∀ (n : Nat) (l : List entT.El) (i : Int), (ls : List (List entT.El))[n]? = some l → (ps : List Int)[n]? = some i → 0 ≤ i ∧ i ≤ l.length, .int .i64 (bstI (bst ls ps ls.length)))
  | _ => none
set_option maxRecDepth 100000 in
theorem fnOk_rfFst : FnOk Try.prog 89 Try.f89 := ⟨by rfl, by kernel_rfl, by
  show okCode _ _ = true ∧ drawsOk _ = true
  exact ⟨by kernel_rfl, by kernel_rfl⟩⟩
set_option maxRecDepth 100000 in
set_option maxHeartbeats 4000000 in
theorem rfFst_ok : SpecOk Try.prog 89 spFst := by
  refine spec_body (C := cx0) mixed tbOk SpecsOk.nil (callN_ok (C := cx0) mixed tbOk SpecsOk.nil FnsOk.nil 0) fnOk_rfFst ?_
  intro ys p r h hp
  unfold spFst at h
  split at h
  · rename_i ls ps
    cases h
    obtain ⟨h1, h2, h3⟩ := hp
    conv => whnf
    refine loop_inv [] [5, 6] (fun vs h => ∃ n : Nat, vs = [.int .i64 (bstI (bst ls ps n)), .int .i64 (n : Int)] ∧ h = [] ∧ n ≤ ls.length) (fun vs _ => match vs with | [_, .int _ k] => ls.length - k.toNat | _ => 0) ?_
    conv => whnf
    refine ⟨⟨0, rfl, rfl, by omega⟩, ?_⟩
    rintro vs h' - ⟨n, rfl, rfl, hn⟩
    by_cases hnl : n < ls.length
    · obtain ⟨l, hl⟩ : ∃ l : List entT.El, (ls : List (List entT.El))[n]? = some l := ⟨_, List.getElem?_eq_getElem hnl⟩
      obtain ⟨i, hi⟩ : ∃ i : Int, (ps : List Int)[n]? = some i := ⟨_, List.getElem?_eq_getElem (by omega)⟩
      obtain ⟨i0, i1⟩ := h3 n l i hl hi
      by_cases hil : i < (l.length : Int)
      · obtain ⟨x, hx⟩ : ∃ x : entT.El, l[i.toNat]? = some x := ⟨_, List.getElem?_eq_getElem (by omega)⟩
        have hhd : hdE ls ps n = some x := by unfold hdE; rw [hl, hi]; exact hx
        cases hb : bst ls ps n with
        | none =>
          have hs : bst ls ps (n + 1) = some n := by rw [bst, hhd, hb]
          rw [show bstI none = -1 from rfl]
          conv => whnf
          repeat' first
            | ((first | refine idx_kn (by assumption) ?_ | refine idx_ki (by assumption) (by omega) ?_ | refine br_true (by first | with_reducible exact rfl | assumption | decide) ?_ | refine br_false (by first | with_reducible exact rfl | assumption | decide) ?_ | with_reducible first | refine br_kt (by assumption) ?_ | refine br_kf (by assumption) ?_ | refine br_nt (by assumption) ?_ | refine br_nf (by assumption) ?_ | refine br_et (by assumption) ?_ | refine br_ef (by assumption) ?_); conv => whnf)
            | ((with_reducible first | refine br_dec (fun h => ?_) (fun h => ?_) | refine br_ndec (fun h => ?_) (fun h => ?_) | refine br_ne (fun h => ?_) (fun h => ?_) | refine br_eq (fun h => ?_) (fun h => ?_)) <;> first | (exfalso; omega) | conv => whnf)
            | (refine br_intro (fun h => ?_) (fun h => ?_) <;> conv => whnf)
            | ((first | refine need_in (by first | exact trivial | assumption | exact ⟨rfl, Nat.le_refl _⟩ | exact ⟨rfl, rfl⟩ | (simp only [inR]; omega) | omega | (simp only [roomP, true_and, and_true, List.length_take, List.length_drop, List.length_append, List.length_cons, List.length_nil, List.length_set, List.length_replicate]; omega) | (refine ⟨by first | exact trivial | rfl, by first | exact Nat.le_refl _ | omega | (simp; omega), ?_⟩; change roomP _ _ 1; simp only [roomP]; omega) | (change roomP _ _ 1; simp only [roomP]; omega) | (simp; omega) | (simp [inR]; omega) | (simp [inR]; done) | decide | (simp; done)) ?_ | refine idx_nat (by omega) (fun x hx => ?_) | refine frz_auto ?_ | refine draw_plain ?_ | refine idx_intro (by first | omega | (simp; omega) | (simp; done)) (by first | omega | (simp; omega) | (simp; done)) (fun x hx => ?_)); conv => whnf)
          refine back_intro (by conv => whnf) rfl ⟨n + 1, vs2 (by rw [hs]; rfl) rfl, rfl, by omega⟩ ?_
          show ls.length - ((n : Int) + 1).toNat < ls.length - (n : Int).toNat
          omega
        | some m =>
          obtain ⟨hm, y, hy⟩ := bst_some hb
          obtain ⟨l', i', hl', hi', hy'⟩ := hd_parts hy
          obtain ⟨j0, j1⟩ := h3 m l' i' hl' hi'
          have hj := (List.getElem?_eq_some_iff.1 hy').1
          have hs : bst ls ps (n + 1) = if sLt x.1 y.1 = true then some n else some m := by rw [bst, hhd, hb]; simp only [hy]
          rw [show bstI (some m) = (m : Int) from rfl]
          by_cases hxy : sLt x.1 y.1 = true
          · rw [if_pos hxy] at hs
            conv => whnf
            repeat' first
              | ((first | refine idx_kn (by assumption) ?_ | refine idx_ki (by assumption) (by omega) ?_ | refine br_true (by first | with_reducible exact rfl | assumption | decide) ?_ | refine br_false (by first | with_reducible exact rfl | assumption | decide) ?_ | with_reducible first | refine br_kt (by assumption) ?_ | refine br_kf (by assumption) ?_ | refine br_nt (by assumption) ?_ | refine br_nf (by assumption) ?_ | refine br_et (by assumption) ?_ | refine br_ef (by assumption) ?_); conv => whnf)
              | ((with_reducible first | refine br_dec (fun h => ?_) (fun h => ?_) | refine br_ndec (fun h => ?_) (fun h => ?_) | refine br_ne (fun h => ?_) (fun h => ?_) | refine br_eq (fun h => ?_) (fun h => ?_)) <;> first | (exfalso; omega) | conv => whnf)
              | (refine br_intro (fun h => ?_) (fun h => ?_) <;> conv => whnf)
              | ((first | refine need_in (by first | exact trivial | assumption | exact ⟨rfl, Nat.le_refl _⟩ | exact ⟨rfl, rfl⟩ | (simp only [inR]; omega) | omega | (simp only [roomP, true_and, and_true, List.length_take, List.length_drop, List.length_append, List.length_cons, List.length_nil, List.length_set, List.length_replicate]; omega) | (refine ⟨by first | exact trivial | rfl, by first | exact Nat.le_refl _ | omega | (simp; omega), ?_⟩; change roomP _ _ 1; simp only [roomP]; omega) | (change roomP _ _ 1; simp only [roomP]; omega) | (simp; omega) | (simp [inR]; omega) | (simp [inR]; done) | decide | (simp; done)) ?_ | refine idx_nat (by omega) (fun x hx => ?_) | refine frz_auto ?_ | refine draw_plain ?_ | refine idx_intro (by first | omega | (simp; omega) | (simp; done)) (by first | omega | (simp; omega) | (simp; done)) (fun x hx => ?_)); conv => whnf)
            refine back_intro (by conv => whnf) rfl ⟨n + 1, vs2 (by rw [hs]; rfl) rfl, rfl, by omega⟩ ?_
            show ls.length - ((n : Int) + 1).toNat < ls.length - (n : Int).toNat
            omega
          · have hxy' : sLt x.1 y.1 = false := by simpa using hxy
            rw [if_neg hxy] at hs
            conv => whnf
            repeat' first
              | ((first | refine idx_kn (by assumption) ?_ | refine idx_ki (by assumption) (by omega) ?_ | refine br_true (by first | with_reducible exact rfl | assumption | decide) ?_ | refine br_false (by first | with_reducible exact rfl | assumption | decide) ?_ | with_reducible first | refine br_kt (by assumption) ?_ | refine br_kf (by assumption) ?_ | refine br_nt (by assumption) ?_ | refine br_nf (by assumption) ?_ | refine br_et (by assumption) ?_ | refine br_ef (by assumption) ?_); conv => whnf)
              | ((with_reducible first | refine br_dec (fun h => ?_) (fun h => ?_) | refine br_ndec (fun h => ?_) (fun h => ?_) | refine br_ne (fun h => ?_) (fun h => ?_) | refine br_eq (fun h => ?_) (fun h => ?_)) <;> first | (exfalso; omega) | conv => whnf)
              | (refine br_intro (fun h => ?_) (fun h => ?_) <;> conv => whnf)
              | ((first | refine need_in (by first | exact trivial | assumption | exact ⟨rfl, Nat.le_refl _⟩ | exact ⟨rfl, rfl⟩ | (simp only [inR]; omega) | omega | (simp only [roomP, true_and, and_true, List.length_take, List.length_drop, List.length_append, List.length_cons, List.length_nil, List.length_set, List.length_replicate]; omega) | (refine ⟨by first | exact trivial | rfl, by first | exact Nat.le_refl _ | omega | (simp; omega), ?_⟩; change roomP _ _ 1; simp only [roomP]; omega) | (change roomP _ _ 1; simp only [roomP]; omega) | (simp; omega) | (simp [inR]; omega) | (simp [inR]; done) | decide | (simp; done)) ?_ | refine idx_nat (by omega) (fun x hx => ?_) | refine frz_auto ?_ | refine draw_plain ?_ | refine idx_intro (by first | omega | (simp; omega) | (simp; done)) (by first | omega | (simp; omega) | (simp; done)) (fun x hx => ?_)); conv => whnf)
            refine back_intro (by conv => whnf) rfl ⟨n + 1, vs2 (by rw [hs]; rfl) rfl, rfl, by omega⟩ ?_
            show ls.length - ((n : Int) + 1).toNat < ls.length - (n : Int).toNat
            omega
      · have hhd : hdE ls ps n = none := by unfold hdE; rw [hl, hi]; exact List.getElem?_eq_none (by omega)
        have hs : bst ls ps (n + 1) = bst ls ps n := by rw [bst, hhd]
        conv => whnf
        repeat' first
          | ((first | refine idx_kn (by assumption) ?_ | refine idx_ki (by assumption) (by omega) ?_ | refine br_true (by first | with_reducible exact rfl | assumption | decide) ?_ | refine br_false (by first | with_reducible exact rfl | assumption | decide) ?_ | with_reducible first | refine br_kt (by assumption) ?_ | refine br_kf (by assumption) ?_ | refine br_nt (by assumption) ?_ | refine br_nf (by assumption) ?_ | refine br_et (by assumption) ?_ | refine br_ef (by assumption) ?_); conv => whnf)
          | ((with_reducible first | refine br_dec (fun h => ?_) (fun h => ?_) | refine br_ndec (fun h => ?_) (fun h => ?_) | refine br_ne (fun h => ?_) (fun h => ?_) | refine br_eq (fun h => ?_) (fun h => ?_)) <;> first | (exfalso; omega) | conv => whnf)
          | (refine br_intro (fun h => ?_) (fun h => ?_) <;> conv => whnf)
          | ((first | refine need_in (by first | exact trivial | assumption | exact ⟨rfl, Nat.le_refl _⟩ | exact ⟨rfl, rfl⟩ | (simp only [inR]; omega) | omega | (simp only [roomP, true_and, and_true, List.length_take, List.length_drop, List.length_append, List.length_cons, List.length_nil, List.length_set, List.length_replicate]; omega) | (refine ⟨by first | exact trivial | rfl, by first | exact Nat.le_refl _ | omega | (simp; omega), ?_⟩; change roomP _ _ 1; simp only [roomP]; omega) | (change roomP _ _ 1; simp only [roomP]; omega) | (simp; omega) | (simp [inR]; omega) | (simp [inR]; done) | decide | (simp; done)) ?_ | refine idx_nat (by omega) (fun x hx => ?_) | refine frz_auto ?_ | refine draw_plain ?_ | refine idx_intro (by first | omega | (simp; omega) | (simp; done)) (by first | omega | (simp; omega) | (simp; done)) (fun x hx => ?_)); conv => whnf)
        refine back_intro (by conv => whnf) rfl ⟨n + 1, vs2 (by rw [hs]) rfl, rfl, by omega⟩ ?_
        show ls.length - ((n : Int) + 1).toNat < ls.length - (n : Int).toNat
        omega
    · conv => whnf
      repeat' first
        | ((first | refine idx_kn (by assumption) ?_ | refine idx_ki (by assumption) (by omega) ?_ | refine br_true (by first | with_reducible exact rfl | assumption | decide) ?_ | refine br_false (by first | with_reducible exact rfl | assumption | decide) ?_ | with_reducible first | refine br_kt (by assumption) ?_ | refine br_kf (by assumption) ?_ | refine br_nt (by assumption) ?_ | refine br_nf (by assumption) ?_ | refine br_et (by assumption) ?_ | refine br_ef (by assumption) ?_); conv => whnf)
        | ((with_reducible first | refine br_dec (fun h => ?_) (fun h => ?_) | refine br_ndec (fun h => ?_) (fun h => ?_) | refine br_ne (fun h => ?_) (fun h => ?_) | refine br_eq (fun h => ?_) (fun h => ?_)) <;> first | (exfalso; omega) | conv => whnf)
        | (refine br_intro (fun h => ?_) (fun h => ?_) <;> conv => whnf)
        | ((first | refine need_in (by first | exact trivial | assumption | exact ⟨rfl, Nat.le_refl _⟩ | exact ⟨rfl, rfl⟩ | (simp only [inR]; omega) | omega | (simp only [roomP, true_and, and_true, List.length_take, List.length_drop, List.length_append, List.length_cons, List.length_nil, List.length_set, List.length_replicate]; omega) | (refine ⟨by first | exact trivial | rfl, by first | exact Nat.le_refl _ | omega | (simp; omega), ?_⟩; change roomP _ _ 1; simp only [roomP]; omega) | (change roomP _ _ 1; simp only [roomP]; omega) | (simp; omega) | (simp [inR]; omega) | (simp [inR]; done) | decide | (simp; done)) ?_ | refine idx_nat (by omega) (fun x hx => ?_) | refine frz_auto ?_ | refine draw_plain ?_ | refine idx_intro (by first | omega | (simp; omega) | (simp; done)) (by first | omega | (simp; omega) | (simp; done)) (fun x hx => ?_)); conv => whnf)
      rw [show n = ls.length by omega]
  · cases h
end Go.Proofs.Ytekkeajcmibbaaa
namespace Go.Proofs.Ytekkeajcmibbaaa
open Av Bk

/-- What is left to read. -/
def remN : List (List entT.El) → List Int → Nat
  | l :: ls, i :: ps => (l.length - i.toNat) + remN ls ps
  | _, _ => 0
def mrgL (ls : List (List entT.El)) : Nat → List Int → List entT.El × List Int
  | 0, _ => ([], [])
  | k + 1, ps => match bst ls ps ls.length with
    | none => ([], [])
    | some f => match hdE ls ps f, ps[f]? with
      | some x, some i => (x :: (mrgL ls k (ps.set f (i + 1))).1, (f : Int) :: (mrgL ls k (ps.set f (i + 1))).2)
      | _, _ => ([], [])
theorem rem_set : ∀ {ls : List (List entT.El)} {ps : List Int} {f : Nat} {l : List entT.El} {i : Int}, ls[f]? = some l → ps[f]? = some i → 0 ≤ i → i < l.length → remN ls (ps.set f (i + 1)) + 1 = remN ls ps
  | [], _, f, _, _, h, _, _, _ => by simp at h
  | _ :: _, [], f, _, _, _, h, _, _ => by simp at h
  | l :: ls, i :: ps, 0, l', i', h1, h2, h3, h4 => by
    simp at h1 h2
    subst h1 h2
    show (l.length - (i + 1).toNat) + remN ls ps + 1 = (l.length - i.toNat) + remN ls ps
    omega
  | l :: ls, i :: ps, f + 1, l', i', h1, h2, h3, h4 => by
    have := rem_set (ls := ls) (ps := ps) (f := f) (by simpa using h1) (by simpa using h2) h3 h4
    show (l.length - i.toNat) + remN ls (ps.set f (i' + 1)) + 1 = (l.length - i.toNat) + remN ls ps
    omega
theorem rem_zero : ∀ (ls : List (List entT.El)), remN ls (List.replicate ls.length 0) = ls.flatten.length
  | [] => rfl
  | l :: ls => by
    rw [List.length_cons, List.replicate_succ, List.flatten_cons, List.length_append, ← rem_zero ls]
    rfl
theorem mrg_step {ls : List (List entT.El)} {ps : List Int} {k f : Nat} {x : entT.El} {i : Int} (hb : bst ls ps ls.length = some f) (hx : hdE ls ps f = some x) (hi : ps[f]? = some i) : mrgL ls (k + 1) ps = (x :: (mrgL ls k (ps.set f (i + 1))).1, (f : Int) :: (mrgL ls k (ps.set f (i + 1))).2) := by
  rw [mrgL, hb]
  simp only [hx, hi]
theorem mrg_end {ls : List (List entT.El)} {ps : List Int} {k : Nat} (hb : bst ls ps ls.length = none) : mrgL ls k ps = ([], []) := by
  cases k with
  | zero => rfl
  | succ k => rw [mrgL, hb]
end Go.Proofs.Ytekkeajcmibbaaa
