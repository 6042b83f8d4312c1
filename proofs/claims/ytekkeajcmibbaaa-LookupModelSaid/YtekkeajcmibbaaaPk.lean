/-
  The merge of lists, by the reference.
  The next entry is a least one: plain Lean.
  The merge never falls: plain Lean.
  All of some lists, by the reference.
-/
import Derived.Test.YtekkeajcmibbaaaPg
namespace Go.Proofs.Ytekkeajcmibbaaa
open Av Bk

theorem own2 {g g' n n' m m' : Nat} (h1 : n = n') (h2 : m = m') : [AV.own 2 g n, AV.own 3 g' m] = [AV.own 2 g n', AV.own 3 g' m'] := by rw [h1, h2]
theorem heap5 {a b : AObj} {T U : TypeId} {t u : Ty} {g g' : Nat} {l l' : List t.El} {m m' p p' : List u.El} (h1 : l = l') (h2 : m = m') (h3 : p = p') : [a, b, AObj.arr T t l false g, AObj.arr U u m false g', AObj.arr U u p true 0] = [a, b, AObj.arr T t l' false g, AObj.arr U u m' false g', AObj.arr U u p' true 0] := by rw [h1, h2, h3]
def spAllM : DSpec
  | [.lst (.sl (.st [.str, .str, .bool, .int .i64])) ls] => some ((∀ l ∈ (ls : List (List entT.El)), (clL l).2 = 0) ∧ 0 < ls.length ∧ ls.length ≤ 32, .tup [.lst entT (mrgL ls ((ls : List (List entT.El)).flatten.length + 1) (List.replicate ls.length 0)).1, .lst (.int .i64) (mrgL ls ((ls : List (List entT.El)).flatten.length + 1) (List.replicate ls.length 0)).2, .int .i64 0])
  | _ => none
set_option maxRecDepth 100000 in
theorem fnOk_rfAllM : FnOk Try.prog 61 Try.f61 := ⟨by rfl, by kernel_rfl, by
  show okCode _ _ = true ∧ drawsOk _ = true
  exact ⟨by kernel_rfl, by kernel_rfl⟩⟩
noncomputable def cph1 : Cx := ⟨tb, [], [(88, spRight), (89, spFst)]⟩
theorem sph1 : SpecsOk Try.prog cph1.specs := .cons rfRight_ok (.cons rfFst_ok .nil)
set_option maxRecDepth 100000 in
set_option maxHeartbeats 4000000 in
theorem rfAllM_ok : SpecOk Try.prog 61 spAllM := by
  refine spec_body (C := cph1) mixed tbOk sph1 (callN_ok (C := cph1) mixed tbOk sph1 FnsOk.nil 3) fnOk_rfAllM ?_
  intro ys p r h hp
  unfold spAllM at h
  split at h
  · rename_i ls
    cases h
    have hP := hp
    obtain ⟨h1, h2, h3⟩ := hp
    conv => whnf
    repeat' first
      | ((first | refine idx_kn (by assumption) ?_ | refine idx_ki (by assumption) (by omega) ?_ | refine br_true (by first | with_reducible exact rfl | assumption | decide) ?_ | refine br_false (by first | with_reducible exact rfl | assumption | decide) ?_ | with_reducible first | refine br_kt (by assumption) ?_ | refine br_kf (by assumption) ?_ | refine br_nt (by assumption) ?_ | refine br_nf (by assumption) ?_ | refine br_et (by assumption) ?_ | refine br_ef (by assumption) ?_); conv => whnf)
      | ((with_reducible first | refine br_dec (fun h => ?_) (fun h => ?_) | refine br_ndec (fun h => ?_) (fun h => ?_) | refine br_ne (fun h => ?_) (fun h => ?_) | refine br_eq (fun h => ?_) (fun h => ?_)) <;> first | (exfalso; omega) | conv => whnf)
      | (refine br_intro (fun h => ?_) (fun h => ?_) <;> conv => whnf)
      | ((first | refine need_in (by first | exact trivial | assumption | exact ⟨rfl, Nat.le_refl _⟩ | exact ⟨rfl, rfl⟩ | (simp only [inR]; omega) | omega | (simp only [roomP, true_and, and_true, List.length_take, List.length_drop, List.length_append, List.length_cons, List.length_nil, List.length_set, List.length_replicate]; omega) | (refine ⟨by first | exact trivial | rfl, by first | exact Nat.le_refl _ | omega | (simp; omega), ?_⟩; change roomP _ _ 1; simp only [roomP]; omega) | (change roomP _ _ 1; simp only [roomP]; omega) | (simp; omega) | (simp [inR]; omega) | (simp [inR]; done) | decide | (simp; done)) ?_ | refine idx_nat (by omega) (fun x hx => ?_) | refine frz_auto ?_ | refine draw_plain ?_ | refine idx_intro (by first | omega | (simp; omega) | (simp; done)) (by first | omega | (simp; omega) | (simp; done)) (fun x hx => ?_)); conv => whnf)
    have hfb := flat_bound (L := (ls : List (List entT.El))) (m := 5000) (fun l hl => (clL_zero (h1 l hl)).1)
    have hrz := rem_zero ls
    generalize hF : mrgL ls ((ls : List (List entT.El)).flatten.length + 1) (List.replicate ls.length 0) = F
    generalize hN : (ls : List (List entT.El)).flatten.length = N at hfb hrz hF
    refine loop_inv [] [7, 8] (fun vs h => ∃ (g g' k : Nat) (out : List entT.El) (frm ps : List Int), vs = [.own 2 g out.length, .own 3 g' frm.length] ∧ h = [.arr 29 entT [] false 0, .arr 3 (.int .i64) [] false 0, .arr 29 entT out false g, .arr 3 (.int .i64) frm false g', .arr 3 (.int .i64) ps true 0] ∧ (ps.length = ls.length ∧ ls.length ≤ 32 ∧ ∀ (n : Nat) (l : List entT.El) (i : Int), (ls : List (List entT.El))[n]? = some l → (ps : List Int)[n]? = some i → 0 ≤ i ∧ i ≤ l.length) ∧ F = (out ++ (mrgL ls k ps).1, frm ++ (mrgL ls k ps).2) ∧ remN ls ps < k ∧ out.length + remN ls ps = N ∧ frm.length = out.length) (fun vs _ => match vs with | [.own _ _ n, _] => N - n | _ => 0) ?_
    conv => whnf
    refine ⟨⟨0, 0, N + 1, [], [], List.replicate ls.length 0, rfl, rfl, ⟨by simp, h3, ?_⟩, by rw [hF]; rfl, by omega, by simp [hrz], rfl⟩, ?_⟩
    · intro n l i hl hi
      rw [List.getElem?_replicate] at hi
      split at hi
      · cases hi; omega
      · cases hi
    rintro vs h' - ⟨g, g', k, out, frm, ps, rfl, rfl, hPs, hFe, hk, hon, hfo⟩
    have htk : List.take ((ls.length : Int)).toNat ps = ps := List.take_of_length_le (by have := hPs.1; omega)
    have htk' : List.take ls.length ps = ps := List.take_of_length_le (by have := hPs.1; omega)
    have hPs' := hPs
    rw [← htk] at hPs'
    cases hb : bst ls ps ls.length with
    | none =>
      have hB : bstI (bst ls (List.take ((ls.length : Int)).toNat ps) ls.length) = -1 := by rw [htk, hb]; rfl
      rw [mrg_end hb] at hFe
      conv => whnf
      repeat' first
        | ((first | refine idx_kn (by assumption) ?_ | refine idx_ki (by assumption) (by omega) ?_ | refine br_true (by first | with_reducible exact rfl | assumption | decide) ?_ | refine br_false (by first | with_reducible exact rfl | assumption | decide) ?_ | with_reducible first | refine br_kt (by assumption) ?_ | refine br_kf (by assumption) ?_ | refine br_nt (by assumption) ?_ | refine br_nf (by assumption) ?_ | refine br_et (by assumption) ?_ | refine br_ef (by assumption) ?_); conv => whnf)
        | ((with_reducible first | refine br_dec (fun h => ?_) (fun h => ?_) | refine br_ndec (fun h => ?_) (fun h => ?_) | refine br_ne (fun h => ?_) (fun h => ?_) | refine br_eq (fun h => ?_) (fun h => ?_)) <;> first | (exfalso; omega) | conv => whnf)
        | (refine br_intro (fun h => ?_) (fun h => ?_) <;> conv => whnf)
        | ((first | refine need_in (by first | exact trivial | assumption | exact ⟨rfl, Nat.le_refl _⟩ | exact ⟨rfl, rfl⟩ | (simp only [inR]; omega) | omega | (simp only [roomP, true_and, and_true, List.length_take, List.length_drop, List.length_append, List.length_cons, List.length_nil, List.length_set, List.length_replicate]; omega) | (refine ⟨by first | exact trivial | rfl, by first | exact Nat.le_refl _ | omega | (simp; omega), ?_⟩; change roomP _ _ 1; simp only [roomP]; omega) | (change roomP _ _ 1; simp only [roomP]; omega) | (simp; omega) | (simp [inR]; omega) | (simp [inR]; done) | decide | (simp; done)) ?_ | refine idx_nat (by omega) (fun x hx => ?_) | refine frz_auto ?_ | refine draw_plain ?_ | refine idx_intro (by first | omega | (simp; omega) | (simp; done)) (by first | omega | (simp; omega) | (simp; done)) (fun x hx => ?_)); conv => whnf)
      rw [List.append_nil, List.append_nil] at hFe
      rw [hFe, List.take_length, List.take_length]
    | some f =>
      obtain ⟨hf, x, hx⟩ := bst_some hb
      obtain ⟨l, i, hl, hi, hxi⟩ := hd_parts hx
      obtain ⟨i0, i1⟩ := hPs.2.2 f l i hl hi
      have hil := (List.getElem?_eq_some_iff.1 hxi).1
      have hpl := hPs.1
      have hl5 := (clL_zero (h1 l (List.mem_of_getElem? hl))).1
      have hin : inR .i64 (i + 1) := by
        show -9223372036854775808 ≤ i + 1 ∧ i + 1 ≤ 9223372036854775807
        omega
      have hB : bstI (bst ls (List.take ((ls.length : Int)).toNat ps) ls.length) = (f : Int) := by rw [htk, hb]; rfl
      have hB2 : bstI (bst ls (List.take ls.length ps) ls.length) = (f : Int) := by rw [htk', hb]; rfl
      have hl' : ls[(bstI (bst ls (List.take ((ls.length : Int)).toNat ps) ls.length)).toNat]? = some l := by rw [hB]; exact hl
      have hi' : ps[(((bstI (bst ls (List.take ((ls.length : Int)).toNat ps) ls.length)).toNat : Nat) : Int).toNat]? = some i := by rw [hB]; exact hi
      conv => whnf
      repeat' first
        | ((first | refine idx_kn (by assumption) ?_ | refine idx_ki (by assumption) (by omega) ?_ | refine br_true (by first | with_reducible exact rfl | assumption | decide) ?_ | refine br_false (by first | with_reducible exact rfl | assumption | decide) ?_ | with_reducible first | refine br_kt (by assumption) ?_ | refine br_kf (by assumption) ?_ | refine br_nt (by assumption) ?_ | refine br_nf (by assumption) ?_ | refine br_et (by assumption) ?_ | refine br_ef (by assumption) ?_); conv => whnf)
        | ((with_reducible first | refine br_dec (fun h => ?_) (fun h => ?_) | refine br_ndec (fun h => ?_) (fun h => ?_) | refine br_ne (fun h => ?_) (fun h => ?_) | refine br_eq (fun h => ?_) (fun h => ?_)) <;> first | (exfalso; omega) | conv => whnf)
        | (refine br_intro (fun h => ?_) (fun h => ?_) <;> conv => whnf)
        | ((first | refine need_in (by first | exact trivial | assumption | exact ⟨rfl, Nat.le_refl _⟩ | exact ⟨rfl, rfl⟩ | (simp only [inR]; omega) | omega | (simp only [roomP, true_and, and_true, List.length_take, List.length_drop, List.length_append, List.length_cons, List.length_nil, List.length_set, List.length_replicate]; omega) | (refine ⟨by first | exact trivial | rfl, by first | exact Nat.le_refl _ | omega | (simp; omega), ?_⟩; change roomP _ _ 1; simp only [roomP]; omega) | (change roomP _ _ 1; simp only [roomP]; omega) | (simp; omega) | (simp [inR]; omega) | (simp [inR]; done) | decide | (simp; done)) ?_ | refine idx_nat (by omega) (fun x hx => ?_) | refine frz_auto ?_ | refine draw_plain ?_ | refine idx_intro (by first | omega | (simp; omega) | (simp; done)) (by first | omega | (simp; omega) | (simp; done)) (fun x hx => ?_)); conv => whnf)
      obtain ⟨k, rfl⟩ : ∃ k', k = k' + 1 := ⟨k - 1, by omega⟩
      rw [mrg_step hb hx hi] at hFe
      have hrs := rem_set hl hi i0 (by omega)
      refine back_intro (by conv => whnf) rfl ⟨g + 1, g' + 1, k, out ++ [x], frm ++ [(f : Int)], ps.set f (i + 1), own2 ?_ ?_, heap5 ?_ ?_ ?_, ⟨by rw [List.length_set]; exact hpl, h3, ?_⟩, ?_, by omega, ?_, ?_⟩ ?_
      · rw [List.length_append]; rfl
      · rw [List.length_append]; rfl
      · simp only [cast_self, List.take_length]; rfl
      · simp only [cast_self, List.take_length, hB]; rfl
      · rw [hB]; rfl
      · intro n l2 i2 hl2 hi2
        by_cases hnf : f = n
        · subst hnf
          rw [List.getElem?_set_self (by omega)] at hi2
          cases hi2
          rw [hl] at hl2; cases hl2
          omega
        · rw [List.getElem?_set_ne hnf] at hi2
          exact hPs.2.2 n l2 i2 hl2 hi2
      · rw [hFe]; simp
      · rw [List.length_append]; show out.length + 1 + _ = N; omega
      · rw [List.length_append, List.length_append]; show frm.length + 1 = out.length + 1; omega
      · show N - (out.length + 1) < N - out.length
        omega
  · cases h
end Go.Proofs.Ytekkeajcmibbaaa
namespace Go.Proofs.Ytekkeajcmibbaaa
open Av Bk

theorem bst_none {ls : List (List entT.El)} {ps : List Int} : ∀ {n : Nat}, bst ls ps n = none → ∀ j, j < n → hdE ls ps j = none
  | 0, _, j, hj => by omega
  | n + 1, h, j, hj => by
    rw [bst] at h
    cases hx : hdE ls ps n with
    | none =>
      rw [hx] at h
      by_cases hjn : j = n
      · rw [hjn]; exact hx
      · exact bst_none (n := n) h j (by omega)
    | some x =>
      rw [hx] at h
      cases hb : bst ls ps n with
      | none => rw [hb] at h; cases h
      | some k =>
        obtain ⟨_, y, hy⟩ := bst_some hb
        rw [hb] at h
        simp only [hy] at h
        split at h <;> cases h
theorem bst_min {ls : List (List entT.El)} {ps : List Int} : ∀ {n m : Nat} {y : entT.El}, bst ls ps n = some m → hdE ls ps m = some y → ∀ j z, j < n → hdE ls ps j = some z → sLt z.1 y.1 = false
  | 0, m, y, h, _, j, z, hj, _ => by omega
  | n + 1, m, y, h, hm, j, z, hj, hz => by
    rw [bst] at h
    cases hx : hdE ls ps n with
    | none =>
      rw [hx] at h
      by_cases hjn : j = n
      · rw [hjn, hx] at hz; cases hz
      · exact bst_min (n := n) h hm j z (by omega) hz
    | some x =>
      rw [hx] at h
      cases hb : bst ls ps n with
      | none =>
        rw [hb] at h
        cases h
        rw [hx] at hm; cases hm
        by_cases hjn : j = n
        · rw [hjn, hx] at hz; cases hz; exact sLt_irrefl _
        · rw [bst_none hb j (by omega)] at hz; cases hz
      | some k =>
        obtain ⟨_, w, hw⟩ := bst_some hb
        rw [hb] at h
        simp only [hw] at h
        split at h
        · rename_i hxw
          cases h
          rw [hx] at hm; cases hm
          by_cases hjn : j = n
          · rw [hjn, hx] at hz; cases hz; exact sLt_irrefl _
          · have := bst_min hb hw j z (by omega) hz
            cases hc : sLt z.1 y.1 with
            | false => rfl
            | true => rw [sLt_trans hc hxw] at this; cases this
        · rename_i hxw
          cases h
          rw [hw] at hm; cases hm
          by_cases hjn : j = n
          · rw [hjn, hx] at hz; cases hz; simpa using hxw
          · exact bst_min hb hw j z (by omega) hz
theorem mrg_len {ls : List (List entT.El)} : ∀ (k : Nat) (ps : List Int), (mrgL ls k ps).1.length ≤ k
  | 0, _ => by simp [mrgL]
  | k + 1, ps => by
    rw [mrgL]
    split
    · simp
    · split
      · rw [List.length_cons]; have := mrg_len (ls := ls) k; exact Nat.succ_le_succ (this _)
      · simp
theorem mrg_mem {ls : List (List entT.El)} : ∀ (k : Nat) (ps : List Int) (z : entT.El), z ∈ (mrgL ls k ps).1 → ∃ l ∈ ls, z ∈ l
  | 0, _, z, h => by simp [mrgL] at h
  | k + 1, ps, z, h => by
    rw [mrgL] at h
    split at h
    · simp at h
    · split at h
      · rename_i x i hx hi
        rcases List.mem_cons.1 h with rfl | h
        · obtain ⟨l, i', hl, _, hxl⟩ := hd_parts hx
          exact ⟨l, List.mem_of_getElem? hl, List.mem_of_getElem? hxl⟩
        · exact mrg_mem k _ z h
      · simp at h
end Go.Proofs.Ytekkeajcmibbaaa
namespace Go.Proofs.Ytekkeajcmibbaaa
open Av Bk

theorem mrg_rem {ls : List (List entT.El)} : ∀ (k : Nat) (ps : List Int) (z : entT.El), z ∈ (mrgL ls k ps).1 → ∃ (j : Nat) (l : List entT.El) (i : Int) (m : Nat), ls[j]? = some l ∧ ps[j]? = some i ∧ i.toNat ≤ m ∧ l[m]? = some z
  | 0, _, z, h => by simp [mrgL] at h
  | k + 1, ps, z, h => by
    rw [mrgL] at h
    split at h
    · simp at h
    · rename_i f hb
      split at h
      · rename_i x i hx hi
        rcases List.mem_cons.1 h with rfl | h
        · obtain ⟨l, i', hl, hi', hxl⟩ := hd_parts hx
          exact ⟨f, l, i', i'.toNat, hl, hi', by omega, hxl⟩
        · obtain ⟨j, l, i2, m, hl, hi2, hm, hz⟩ := mrg_rem k _ z h
          by_cases hjf : f = j
          · subst hjf
            have hlen := (List.getElem?_eq_some_iff.1 hi).1
            rw [List.getElem?_set_self hlen] at hi2
            cases hi2
            exact ⟨f, l, i, m, hl, hi, by omega, hz⟩
          · rw [List.getElem?_set_ne hjf] at hi2
            exact ⟨j, l, i2, m, hl, hi2, hm, hz⟩
      · simp at h
theorem mrg_up {ls : List (List entT.El)} (ha : ∀ l ∈ ls, ascS l) : ∀ (k : Nat) (ps : List Int), (mrgL ls k ps).1.Pairwise (fun x y => sLt y.1 x.1 = false)
  | 0, _ => by simp [mrgL]
  | k + 1, ps => by
    rw [mrgL]
    split
    · simp
    · rename_i f hb
      split
      · rename_i x i hx hi
        refine List.pairwise_cons.2 ⟨fun z hz => ?_, mrg_up ha k _⟩
        have hz' : z ∈ (mrgL ls (k + 1) ps).1 := by
          rw [mrg_step hb hx hi]; exact List.mem_cons_of_mem _ hz
        obtain ⟨j, l, i2, m, hl, hi2, hm, hzl⟩ := mrg_rem (k + 1) ps z hz'
        have hjl := (List.getElem?_eq_some_iff.1 hl).1
        have hml := (List.getElem?_eq_some_iff.1 hzl).1
        obtain ⟨w, hw⟩ : ∃ w, l[i2.toNat]? = some w := ⟨_, List.getElem?_eq_getElem (by omega)⟩
        have hhd : hdE ls ps j = some w := by unfold hdE; rw [hl, hi2]; exact hw
        have h1 := bst_min hb hx j w hjl hhd
        by_cases he : i2.toNat = m
        · rw [he, hzl] at hw
          cases hw
          exact h1
        · have h2 := asc_rel (ha l (List.mem_of_getElem? hl)) (by omega : i2.toNat < m) hw hzl
          cases hc : sLt z.1 x.1 with
          | false => rfl
          | true => rw [sLt_trans h2 hc] at h1; cases h1
      · simp
end Go.Proofs.Ytekkeajcmibbaaa
namespace Go.Proofs.Ytekkeajcmibbaaa
open Av Bk

def mrgA (ls : List (List entT.El)) : List entT.El × List Int := mrgL ls (ls.flatten.length + 1) (List.replicate ls.length 0)
def spAll13 : DSpec
  | [.lst (.sl (.st [.str, .str, .bool, .int .i64])) ls, .bool bo] => some ((∀ l ∈ (ls : List (List entT.El)), (clL l).2 = 0) ∧ 0 < ls.length ∧ ls.length ≤ 3, .tup [.lst entT (fltGo bo false ⟨#[]⟩ (mrgA ls).1), .int .i64 ((mrgA ls).1.length : Nat), .int .i64 0])
  | _ => none
set_option maxRecDepth 100000 in
theorem fnOk_rfAll13 : FnOk Try.prog 28 Try.f28 := ⟨by rfl, by kernel_rfl, by
  show okCode _ _ = true ∧ drawsOk _ = true
  exact ⟨by kernel_rfl, by kernel_rfl⟩⟩
noncomputable def cpk1 : Cx := ⟨tb, [], [(61, spAllM), (62, spBeh)]⟩
theorem spk1 : SpecsOk Try.prog cpk1.specs := .cons rfAllM_ok (.cons rfBeh_ok .nil)
set_option maxRecDepth 100000 in
set_option maxHeartbeats 4000000 in
theorem rfAll13_ok : SpecOk Try.prog 28 spAll13 := by
  refine spec_body (C := cpk1) mixed tbOk spk1 (callN_ok (C := cpk1) mixed tbOk spk1 FnsOk.nil 3) fnOk_rfAll13 ?_
  intro ys p r h hp
  unfold spAll13 at h
  split at h
  · rename_i ls bo
    cases h
    obtain ⟨h1, h2, h3⟩ := hp
    have hP1 : (∀ l ∈ (ls : List (List entT.El)), (clL l).2 = 0) ∧ 0 < ls.length ∧ ls.length ≤ 32 := ⟨h1, h2, by omega⟩
    have hfb := flat_bound (L := (ls : List (List entT.El))) (m := 5000) (fun l hl => (clL_zero (h1 l hl)).1)
    have hml := mrg_len (ls := ls) ((ls : List (List entT.El)).flatten.length + 1) (List.replicate ls.length 0)
    have hup := mrg_up (ls := ls) (fun l hl => (clL_zero (h1 l hl)).2.2) ((ls : List (List entT.El)).flatten.length + 1) (List.replicate ls.length 0)
    have hmm := mrg_mem (ls := ls) ((ls : List (List entT.El)).flatten.length + 1) (List.replicate ls.length 0)
    unfold mrgA
    have hM : (mrgL ls ((ls : List (List entT.El)).flatten.length + 1) (List.replicate ls.length 0)).1.length ≤ 20000 := by omega
    have hP2 : (mrgL ls ((ls : List (List entT.El)).flatten.length + 1) (List.replicate ls.length 0)).1.length ≤ 20000 ∧ (∀ x ∈ (mrgL ls ((ls : List (List entT.El)).flatten.length + 1) (List.replicate ls.length 0)).1, errX x = 0) ∧ (∀ (i : Nat) (x y : entT.El), (mrgL ls ((ls : List (List entT.El)).flatten.length + 1) (List.replicate ls.length 0)).1[i]? = some x → (mrgL ls ((ls : List (List entT.El)).flatten.length + 1) (List.replicate ls.length 0)).1[i + 1]? = some y → sLt y.1 x.1 = false) := by
      refine ⟨hM, fun x hx => ?_, fun i x y hx hy => ?_⟩
      · obtain ⟨l, hl, hxl⟩ := hmm x hx
        exact (clL_zero (h1 l hl)).2.1 x hxl
      · have e1 := List.getElem?_eq_some_iff.1 hx
        have e2 := List.getElem?_eq_some_iff.1 hy
        have := List.pairwise_iff_getElem.1 hup i (i + 1) e1.1 e2.1 (by omega)
        rw [e1.2, e2.2] at this
        exact this
    conv => whnf
    repeat' first
      | ((first | refine idx_kn (by assumption) ?_ | refine idx_ki (by assumption) (by omega) ?_ | refine br_true (by first | with_reducible exact rfl | assumption | decide) ?_ | refine br_false (by first | with_reducible exact rfl | assumption | decide) ?_ | with_reducible first | refine br_kt (by assumption) ?_ | refine br_kf (by assumption) ?_ | refine br_nt (by assumption) ?_ | refine br_nf (by assumption) ?_ | refine br_et (by assumption) ?_ | refine br_ef (by assumption) ?_); conv => whnf)
      | ((with_reducible first | refine br_dec (fun h => ?_) (fun h => ?_) | refine br_ndec (fun h => ?_) (fun h => ?_) | refine br_ne (fun h => ?_) (fun h => ?_) | refine br_eq (fun h => ?_) (fun h => ?_)) <;> first | (exfalso; omega) | conv => whnf)
      | (refine br_intro (fun h => ?_) (fun h => ?_) <;> conv => whnf)
      | ((first | refine need_in (by first | exact trivial | assumption | exact ⟨rfl, Nat.le_refl _⟩ | exact ⟨rfl, rfl⟩ | (simp only [inR]; omega) | omega | (simp only [roomP, true_and, and_true, List.length_take, List.length_drop, List.length_append, List.length_cons, List.length_nil, List.length_set, List.length_replicate]; omega) | (refine ⟨by first | exact trivial | rfl, by first | exact Nat.le_refl _ | omega | (simp; omega), ?_⟩; change roomP _ _ 1; simp only [roomP]; omega) | (change roomP _ _ 1; simp only [roomP]; omega) | (simp; omega) | (simp [inR]; omega) | (simp [inR]; done) | decide | (simp; done)) ?_ | refine idx_nat (by omega) (fun x hx => ?_) | refine frz_auto ?_ | refine draw_plain ?_ | refine idx_intro (by first | omega | (simp; omega) | (simp; done)) (by first | omega | (simp; omega) | (simp; done)) (fun x hx => ?_)); conv => whnf)
  · cases h
end Go.Proofs.Ytekkeajcmibbaaa
