/-
  Levels: New of both; all runs and how many, by the reference.
  Levels: what is shown in every law.
-/
import Derived.Test.YtjinjnakedhmdaaVi
import Derived.Test.YtjinjnakedhmdaaVk
namespace Go.Proofs.Ytjinjnakedhmdaa
open Av Bk

/-- The runs of the levels ahead of one, and of it the j newest ones. -/
def nwA (l : List lvT.El) (i : Nat) (rs : List runT.El) (j : Nat) : List runT.El := newL (l.take i) ++ rs.reverse.take j
theorem nwA_zero (l : List lvT.El) (i : Nat) (rs : List runT.El) : nwA l i rs 0 = newL (l.take i) := by unfold nwA; simp
theorem nwA_succ {l : List lvT.El} {i : Nat} {rs : List runT.El} {j : Nat} {r : runT.El} (hj : j < rs.length) (h : rs[rs.length - 1 - j]? = some r) : nwA l i rs (j + 1) = nwA l i rs j ++ [r] := by
  unfold nwA
  rw [List.take_add_one, List.getElem?_reverse hj, h, List.append_assoc]; rfl
theorem newL_step {l : List lvT.El} {i : Nat} {x : lvT.El} (h : l[i]? = some x) : newL (l.take (i + 1)) = newL (l.take i) ++ (rsL x).reverse := by
  unfold newL
  rw [List.take_add_one, h, List.flatMap_append]
  simp
theorem newL_take_len {b : Int} {l : List lvT.El} (hok : LvOk b l) (i : Nat) : (newL (l.take i)).length ≤ 24 := by
  have h1 := newL_len hok
  have : newL l = newL (l.take i) ++ newL (l.drop i) := by
    unfold newL
    rw [← List.flatMap_append, List.take_append_drop]
  rw [this, List.length_append] at h1
  omega
theorem vs_own {g n m : Nat} {a : Int} {b : Int} (h : n = m) (h2 : a = b) : [AV.own 2 g n, .int .i64 a] = [AV.own 2 g m, .int .i64 b] := by rw [h, h2]
theorem heap_id2 {c d : AObj} {T : TypeId} {t : Ty} {g : Nat} {A B : List t.El} (h : A = B) : [c, d, AObj.arr T t A false g] = [c, d, AObj.arr T t B false g] := by rw [h]
set_option maxRecDepth 100000 in
theorem fnOk_r15Nw : FnOk Try.prog 27 Try.f27 := ⟨by rfl, by kernel_rfl, by
  show okCode _ _ = true ∧ drawsOk _ = true
  exact ⟨by kernel_rfl, by kernel_rfl⟩⟩
noncomputable def cvB : Cx := ⟨tb, [], [(26, spLChk)]⟩
theorem spvB : SpecsOk Try.prog cvB.specs := .cons r15Chk_ok .nil
set_option maxRecDepth 100000 in
set_option maxHeartbeats 4000000 in
theorem r15Nw_ok : SpecOk Try.prog 27 spNw := by
  refine spec_body (C := cvB) mixed tbOk spvB (callN_ok (C := cvB) mixed tbOk spvB FnsOk.nil 0) fnOk_r15Nw ?_
  intro ys p r h hp
  unfold spNw at h
  split at h
  · rename_i b l
    cases h
    by_cases h1 : (chkL b l).2.2 = 0
    · have hok := lvOk_of h1
      have hll := hok.len
      have hc : nwR b l = (newL l, 0) := if_neg (fun e => e h1)
      conv => whnf
      repeat' first
        | ((first | refine idx_kn (by assumption) ?_ | refine idx_ki (by assumption) (by omega) ?_ | refine br_true (by first | with_reducible exact rfl | assumption | decide) ?_ | refine br_false (by first | with_reducible exact rfl | assumption | decide) ?_ | with_reducible first | refine br_kt (by assumption) ?_ | refine br_kf (by assumption) ?_ | refine br_nt (by assumption) ?_ | refine br_nf (by assumption) ?_ | refine br_et (by assumption) ?_ | refine br_ef (by assumption) ?_); conv => whnf)
        | ((with_reducible first | refine br_dec (fun h => ?_) (fun h => ?_) | refine br_ndec (fun h => ?_) (fun h => ?_) | refine br_ne (fun h => ?_) (fun h => ?_) | refine br_eq (fun h => ?_) (fun h => ?_)) <;> first | (exfalso; omega) | conv => whnf)
        | (refine br_intro (fun h => ?_) (fun h => ?_) <;> conv => whnf)
        | ((first | refine need_in (by first | exact trivial | assumption | exact ⟨rfl, Nat.le_refl _⟩ | exact ⟨rfl, rfl⟩ | (simp only [inR]; omega) | omega | (simp only [roomP, true_and, and_true, List.length_take, List.length_drop, List.length_append, List.length_cons, List.length_nil, List.length_set, List.length_replicate]; omega) | (refine ⟨by first | exact trivial | rfl, by first | exact Nat.le_refl _ | omega | (simp; omega), ?_⟩; change roomP _ _ 1; simp only [roomP]; omega) | (change roomP _ _ 1; simp only [roomP]; omega) | (simp; omega) | (simp [inR]; omega) | (simp [inR]; done) | decide | (simp; done) | exact ⟨by first | omega | (simp; omega), by assumption⟩) ?_ | refine idx_nat (by omega) (fun x hx => ?_) | refine frz_auto ?_ | refine draw_plain ?_ | refine idx_intro (by first | omega | (simp; omega) | (simp; done)) (by first | omega | (simp; omega) | (simp; done)) (fun x hx => ?_)); conv => whnf)
      refine loop_inv [] [7, 8] (fun vs h => ∃ i g : Nat, vs = [.own 2 g (newL (l.take i)).length, .int .i64 (i : Int)] ∧ h = [.cells 29 [.int .i64 b, .lst lvT l], .arr 32 runT [] false 0, .arr 32 runT (newL (l.take i)) false g] ∧ i ≤ l.length) (fun vs _ => match vs with | [_, .int _ k] => l.length - k.toNat | _ => 0) ?_
      conv => whnf
      refine ⟨⟨0, 0, rfl, rfl, Nat.zero_le _⟩, ?_⟩
      rintro vs h' - ⟨i, g, rfl, rfl, hi⟩
      have hnl := newL_take_len hok i
      by_cases hlt : i < l.length
      · obtain ⟨x, hx⟩ : ∃ x : lvT.El, (l : List lvT.El)[i]? = some x := ⟨_, List.getElem?_eq_getElem hlt⟩
        have hx2 : x.1.length ≤ 2 := hok.two x (List.mem_of_getElem? hx)
        have hsu := newL_step hx
        conv => whnf
        repeat' first
          | ((first | refine idx_kn (by assumption) ?_ | refine idx_ki (by assumption) (by omega) ?_ | refine br_true (by first | with_reducible exact rfl | assumption | decide) ?_ | refine br_false (by first | with_reducible exact rfl | assumption | decide) ?_ | with_reducible first | refine br_kt (by assumption) ?_ | refine br_kf (by assumption) ?_ | refine br_nt (by assumption) ?_ | refine br_nf (by assumption) ?_ | refine br_et (by assumption) ?_ | refine br_ef (by assumption) ?_); conv => whnf)
          | ((with_reducible first | refine br_dec (fun h => ?_) (fun h => ?_) | refine br_ndec (fun h => ?_) (fun h => ?_) | refine br_ne (fun h => ?_) (fun h => ?_) | refine br_eq (fun h => ?_) (fun h => ?_)) <;> first | (exfalso; omega) | conv => whnf)
          | (refine br_intro (fun h => ?_) (fun h => ?_) <;> conv => whnf)
          | ((first | refine need_in (by first | exact trivial | assumption | exact ⟨rfl, Nat.le_refl _⟩ | exact ⟨rfl, rfl⟩ | (simp only [inR]; omega) | omega | (simp only [roomP, true_and, and_true, List.length_take, List.length_drop, List.length_append, List.length_cons, List.length_nil, List.length_set, List.length_replicate]; omega) | (refine ⟨by first | exact trivial | rfl, by first | exact Nat.le_refl _ | omega | (simp; omega), ?_⟩; change roomP _ _ 1; simp only [roomP]; omega) | (change roomP _ _ 1; simp only [roomP]; omega) | (simp; omega) | (simp [inR]; omega) | (simp [inR]; done) | decide | (simp; done) | exact ⟨by first | omega | (simp; omega), by assumption⟩) ?_ | refine idx_nat (by omega) (fun x hx => ?_) | refine frz_auto ?_ | refine draw_plain ?_ | refine idx_intro (by first | omega | (simp; omega) | (simp; done)) (by first | omega | (simp; omega) | (simp; done)) (fun x hx => ?_)); conv => whnf)
        refine loop_inv [] [7, 9] (fun vs h => ∃ j g2 : Nat, vs = [.own 2 g2 (nwA l i x.1 j).length, .int .i64 ((x.1.length : Int) - 1 - j)] ∧ h = [.cells 29 [.int .i64 b, .lst lvT l], .arr 32 runT [] false 0, .arr 32 runT (nwA l i x.1 j) false g2] ∧ j ≤ x.1.length) (fun vs _ => match vs with | [_, .int _ k] => (k + 1).toNat | _ => 0) ?_
        conv => whnf
        refine ⟨⟨0, g, vs_own (congrArg _ (nwA_zero l i x.1).symm) (by omega), heap_id2 (nwA_zero l i x.1).symm, Nat.zero_le _⟩, ?_⟩
        rintro vs h' - ⟨j, g2, rfl, rfl, hj⟩
        have hal : (nwA l i x.1 j).length ≤ 26 := by
          unfold nwA
          rw [List.length_append, List.length_take, List.length_reverse]
          omega
        by_cases hjl : j < x.1.length
        · obtain ⟨r, hxr⟩ : ∃ r : runT.El, (x.1 : List runT.El)[x.1.length - 1 - j]? = some r := ⟨_, List.getElem?_eq_getElem (by omega)⟩
          have hxr2 : (x.1 : List runT.El)[((x.1.length : Int) - 1 - j).toNat]? = some r := by rw [show ((x.1.length : Int) - 1 - j).toNat = x.1.length - 1 - j by omega]; exact hxr
          have hsA : nwA l i x.1 (j + 1) = nwA l i x.1 j ++ [r] := nwA_succ hjl hxr
          generalize hA : nwA l i x.1 j = A at *
          conv => whnf
          repeat' first
            | ((first | refine idx_kn (by assumption) ?_ | refine idx_ki (by assumption) (by omega) ?_ | refine br_true (by first | with_reducible exact rfl | assumption | decide) ?_ | refine br_false (by first | with_reducible exact rfl | assumption | decide) ?_ | with_reducible first | refine br_kt (by assumption) ?_ | refine br_kf (by assumption) ?_ | refine br_nt (by assumption) ?_ | refine br_nf (by assumption) ?_ | refine br_et (by assumption) ?_ | refine br_ef (by assumption) ?_); conv => whnf)
            | ((with_reducible first | refine br_dec (fun h => ?_) (fun h => ?_) | refine br_ndec (fun h => ?_) (fun h => ?_) | refine br_ne (fun h => ?_) (fun h => ?_) | refine br_eq (fun h => ?_) (fun h => ?_)) <;> first | (exfalso; omega) | conv => whnf)
            | (refine br_intro (fun h => ?_) (fun h => ?_) <;> conv => whnf)
            | ((first | refine need_in (by first | exact trivial | assumption | exact ⟨rfl, Nat.le_refl _⟩ | exact ⟨rfl, rfl⟩ | (simp only [inR]; omega) | omega | (simp only [roomP, true_and, and_true, List.length_take, List.length_drop, List.length_append, List.length_cons, List.length_nil, List.length_set, List.length_replicate]; omega) | (refine ⟨by first | exact trivial | rfl, by first | exact Nat.le_refl _ | omega | (simp; omega), ?_⟩; change roomP _ _ 1; simp only [roomP]; omega) | (change roomP _ _ 1; simp only [roomP]; omega) | (simp; omega) | (simp [inR]; omega) | (simp [inR]; done) | decide | (simp; done) | exact ⟨by first | omega | (simp; omega), by assumption⟩) ?_ | refine idx_nat (by omega) (fun x hx => ?_) | refine frz_auto ?_ | refine draw_plain ?_ | refine idx_intro (by first | omega | (simp; omega) | (simp; done)) (by first | omega | (simp; omega) | (simp; done)) (fun x hx => ?_)); conv => whnf)
          refine back_intro (by conv => whnf) rfl ⟨j + 1, g2 + 1, vs_own ?_ ?_, heap_id2 ?_, by omega⟩ ?_
          · rw [hsA, List.length_append]; rfl
          · omega
          · rw [hsA]
            simp only [cast_self, List.take_length, List.take_succ_cons, List.take_zero]
          · show ((x.1.length : Int) - 1 - j - 1 + 1).toNat < ((x.1.length : Int) - 1 - j + 1).toNat
            omega
        · have hkn : j = x.1.length := by omega
          subst hkn
          have hAe : nwA l i x.1 x.1.length = newL (l.take (i + 1)) := by
            rw [hsu]; unfold nwA; rw [List.take_of_length_le (l := List.reverse _) (by rw [List.length_reverse]; exact Nat.le_refl _)]
          conv => whnf
          repeat' first
            | ((first | refine idx_kn (by assumption) ?_ | refine idx_ki (by assumption) (by omega) ?_ | refine br_true (by first | with_reducible exact rfl | assumption | decide) ?_ | refine br_false (by first | with_reducible exact rfl | assumption | decide) ?_ | with_reducible first | refine br_kt (by assumption) ?_ | refine br_kf (by assumption) ?_ | refine br_nt (by assumption) ?_ | refine br_nf (by assumption) ?_ | refine br_et (by assumption) ?_ | refine br_ef (by assumption) ?_); conv => whnf)
            | ((with_reducible first | refine br_dec (fun h => ?_) (fun h => ?_) | refine br_ndec (fun h => ?_) (fun h => ?_) | refine br_ne (fun h => ?_) (fun h => ?_) | refine br_eq (fun h => ?_) (fun h => ?_)) <;> first | (exfalso; omega) | conv => whnf)
            | (refine br_intro (fun h => ?_) (fun h => ?_) <;> conv => whnf)
            | ((first | refine need_in (by first | exact trivial | assumption | exact ⟨rfl, Nat.le_refl _⟩ | exact ⟨rfl, rfl⟩ | (simp only [inR]; omega) | omega | (simp only [roomP, true_and, and_true, List.length_take, List.length_drop, List.length_append, List.length_cons, List.length_nil, List.length_set, List.length_replicate]; omega) | (refine ⟨by first | exact trivial | rfl, by first | exact Nat.le_refl _ | omega | (simp; omega), ?_⟩; change roomP _ _ 1; simp only [roomP]; omega) | (change roomP _ _ 1; simp only [roomP]; omega) | (simp; omega) | (simp [inR]; omega) | (simp [inR]; done) | decide | (simp; done) | exact ⟨by first | omega | (simp; omega), by assumption⟩) ?_ | refine idx_nat (by omega) (fun x hx => ?_) | refine frz_auto ?_ | refine draw_plain ?_ | refine idx_intro (by first | omega | (simp; omega) | (simp; done)) (by first | omega | (simp; omega) | (simp; done)) (fun x hx => ?_)); conv => whnf)
          refine back_intro (by conv => whnf) rfl ⟨i + 1, g2, vs_own (congrArg _ hAe) rfl, heap_id2 hAe, by omega⟩ ?_
          show l.length - ((i : Int) + 1).toNat < l.length - (i : Int).toNat
          omega
      · have hin : i = l.length := by omega
        subst hin
        rw [List.take_length] at *
        conv => whnf
        repeat' first
          | ((first | refine idx_kn (by assumption) ?_ | refine idx_ki (by assumption) (by omega) ?_ | refine br_true (by first | with_reducible exact rfl | assumption | decide) ?_ | refine br_false (by first | with_reducible exact rfl | assumption | decide) ?_ | with_reducible first | refine br_kt (by assumption) ?_ | refine br_kf (by assumption) ?_ | refine br_nt (by assumption) ?_ | refine br_nf (by assumption) ?_ | refine br_et (by assumption) ?_ | refine br_ef (by assumption) ?_); conv => whnf)
          | ((with_reducible first | refine br_dec (fun h => ?_) (fun h => ?_) | refine br_ndec (fun h => ?_) (fun h => ?_) | refine br_ne (fun h => ?_) (fun h => ?_) | refine br_eq (fun h => ?_) (fun h => ?_)) <;> first | (exfalso; omega) | conv => whnf)
          | (refine br_intro (fun h => ?_) (fun h => ?_) <;> conv => whnf)
          | ((first | refine need_in (by first | exact trivial | assumption | exact ⟨rfl, Nat.le_refl _⟩ | exact ⟨rfl, rfl⟩ | (simp only [inR]; omega) | omega | (simp only [roomP, true_and, and_true, List.length_take, List.length_drop, List.length_append, List.length_cons, List.length_nil, List.length_set, List.length_replicate]; omega) | (refine ⟨by first | exact trivial | rfl, by first | exact Nat.le_refl _ | omega | (simp; omega), ?_⟩; change roomP _ _ 1; simp only [roomP]; omega) | (change roomP _ _ 1; simp only [roomP]; omega) | (simp; omega) | (simp [inR]; omega) | (simp [inR]; done) | decide | (simp; done) | exact ⟨by first | omega | (simp; omega), by assumption⟩) ?_ | refine idx_nat (by omega) (fun x hx => ?_) | refine frz_auto ?_ | refine draw_plain ?_ | refine idx_intro (by first | omega | (simp; omega) | (simp; done)) (by first | omega | (simp; omega) | (simp; done)) (fun x hx => ?_)); conv => whnf)
        rw [hc]
        show AV.tup [.lst runT (List.take (newL l).length (newL l)), .int .i64 0] = _
        rw [List.take_length]
    · have hc : nwR b l = ([], (chkL b l).2.2) := if_pos h1
      conv => whnf
      repeat' first
        | ((first | refine idx_kn (by assumption) ?_ | refine idx_ki (by assumption) (by omega) ?_ | refine br_true (by first | with_reducible exact rfl | assumption | decide) ?_ | refine br_false (by first | with_reducible exact rfl | assumption | decide) ?_ | with_reducible first | refine br_kt (by assumption) ?_ | refine br_kf (by assumption) ?_ | refine br_nt (by assumption) ?_ | refine br_nf (by assumption) ?_ | refine br_et (by assumption) ?_ | refine br_ef (by assumption) ?_); conv => whnf)
        | ((with_reducible first | refine br_dec (fun h => ?_) (fun h => ?_) | refine br_ndec (fun h => ?_) (fun h => ?_) | refine br_ne (fun h => ?_) (fun h => ?_) | refine br_eq (fun h => ?_) (fun h => ?_)) <;> first | (exfalso; omega) | conv => whnf)
        | (refine br_intro (fun h => ?_) (fun h => ?_) <;> conv => whnf)
        | ((first | refine need_in (by first | exact trivial | assumption | exact ⟨rfl, Nat.le_refl _⟩ | exact ⟨rfl, rfl⟩ | (simp only [inR]; omega) | omega | (simp only [roomP, true_and, and_true, List.length_take, List.length_drop, List.length_append, List.length_cons, List.length_nil, List.length_set, List.length_replicate]; omega) | (refine ⟨by first | exact trivial | rfl, by first | exact Nat.le_refl _ | omega | (simp; omega), ?_⟩; change roomP _ _ 1; simp only [roomP]; omega) | (change roomP _ _ 1; simp only [roomP]; omega) | (simp; omega) | (simp [inR]; omega) | (simp [inR]; done) | decide | (simp; done) | exact ⟨by first | omega | (simp; omega), by assumption⟩) ?_ | refine idx_nat (by omega) (fun x hx => ?_) | refine frz_auto ?_ | refine draw_plain ?_ | refine idx_intro (by first | omega | (simp; omega) | (simp; done)) (by first | omega | (simp; omega) | (simp; done)) (fun x hx => ?_)); conv => whnf)
      all_goals (rw [hc]; rfl)
  · cases h
end Go.Proofs.Ytjinjnakedhmdaa
namespace Go.Proofs.Ytjinjnakedhmdaa
open Av Bk

def entI (i : Nat) : entT.El := (bytesOf [97 + (i : Int)], ⟨#[118]⟩, false, (i : Int) + 1, ())
def runE (n : Nat) : List entT.El := (List.range n).map entI
theorem runE_succ (n : Nat) : runE (n + 1) = runE n ++ [entI n] := by
  unfold runE
  rw [List.range_succ, List.map_append]; rfl
theorem runE_len (n : Nat) : (runE n).length = n := by unfold runE; simp
def spRun : DSpec
  | [.int .i64 id, .int .i64 n] => some (0 ≤ n ∧ n ≤ 26, .agg [.int .i64 id, .lst entT (runE n.toNat)])
  | _ => none
set_option maxRecDepth 100000 in
theorem fnOk_lRun : FnOk Try.prog 37 Try.f37 := ⟨by rfl, by kernel_rfl, by
  show okCode _ _ = true ∧ drawsOk _ = true
  exact ⟨by kernel_rfl, by kernel_rfl⟩⟩
set_option maxRecDepth 100000 in
set_option maxHeartbeats 2000000 in
theorem lRun_ok : SpecOk Try.prog 37 spRun := by
  refine spec_body (C := cx0) mixed tbOk .nil (callN_ok (C := cx0) mixed tbOk .nil FnsOk.nil 0) fnOk_lRun ?_
  intro ys p r h hp
  unfold spRun at h
  split at h
  · rename_i id n
    cases h
    obtain ⟨hn0, hn1⟩ := hp
    conv => whnf
    refine loop_inv [.cell 1 1 59 entT] [6] (fun vs h => ∃ i g : Nat, vs = [.int .i64 (i : Int)] ∧ h = [.cells 32 [.int .i64 0, .zsl entT], .cells 32 [.int .i64 id, .own 2 g i], .arr 59 entT (runE i) false g] ∧ i ≤ n.toNat) (fun vs _ => match vs with | [.int _ k] => n.toNat - k.toNat | _ => 0) ?_
    conv => whnf
    refine ⟨⟨0, 0, rfl, rfl, Nat.zero_le _⟩, ?_⟩
    rintro vs h' - ⟨i, g, rfl, rfl, hi⟩
    have hil := runE_len i
    have hsu := runE_succ i
    by_cases hlt : (i : Int) < n
    · generalize runE i = A at *
      conv => whnf
      repeat' first
        | ((first | refine idx_kn (by assumption) ?_ | refine idx_ki (by assumption) (by omega) ?_ | refine br_true (by first | with_reducible exact rfl | assumption | decide) ?_ | refine br_false (by first | with_reducible exact rfl | assumption | decide) ?_ | with_reducible first | refine br_kt (by assumption) ?_ | refine br_kf (by assumption) ?_ | refine br_nt (by assumption) ?_ | refine br_nf (by assumption) ?_ | refine br_et (by assumption) ?_ | refine br_ef (by assumption) ?_); conv => whnf)
        | ((with_reducible first | refine br_dec (fun h => ?_) (fun h => ?_) | refine br_ndec (fun h => ?_) (fun h => ?_) | refine br_ne (fun h => ?_) (fun h => ?_) | refine br_eq (fun h => ?_) (fun h => ?_)) <;> first | (exfalso; omega) | conv => whnf)
        | (refine br_intro (fun h => ?_) (fun h => ?_) <;> conv => whnf)
        | ((first | refine need_in (by first | exact trivial | assumption | exact ⟨rfl, Nat.le_refl _⟩ | exact ⟨rfl, rfl⟩ | (simp only [inR]; omega) | omega | (simp only [roomP, true_and, and_true, List.length_take, List.length_drop, List.length_append, List.length_cons, List.length_nil, List.length_set, List.length_replicate]; omega) | (refine ⟨by first | exact trivial | rfl, by first | exact Nat.le_refl _ | omega | (simp; omega), ?_⟩; change roomP _ _ 1; simp only [roomP]; omega) | (change roomP _ _ 1; simp only [roomP]; omega) | (simp; omega) | (simp [inR]; omega) | (simp [inR]; done) | decide | (simp; done) | exact ⟨by first | omega | (simp; omega), by assumption⟩) ?_ | refine idx_nat (by omega) (fun x hx => ?_) | refine frz_auto ?_ | refine draw_plain ?_ | refine idx_intro (by first | omega | (simp; omega) | (simp; done)) (by first | omega | (simp; omega) | (simp; done)) (fun x hx => ?_)); conv => whnf)
      refine back_intro (by conv => whnf) rfl ⟨i + 1, g + 1, rfl, ?_, by omega⟩ ?_
      · refine congrArg (fun y => [AObj.cells 32 [.int .i64 0, .zsl entT], .cells 32 [.int .i64 id, .own 2 (g + 1) (i + 1)], .arr 59 entT y false (g + 1)]) ?_
        rw [hsu]
        simp only [cast_self]
        rw [List.take_of_length_le (by omega)]
        rfl
      · show n.toNat - ((i : Int) + 1).toNat < n.toNat - (i : Int).toNat
        omega
    · have hin : i = n.toNat := by omega
      subst hin
      conv => whnf
      repeat' first
        | ((first | refine idx_kn (by assumption) ?_ | refine idx_ki (by assumption) (by omega) ?_ | refine br_true (by first | with_reducible exact rfl | assumption | decide) ?_ | refine br_false (by first | with_reducible exact rfl | assumption | decide) ?_ | with_reducible first | refine br_kt (by assumption) ?_ | refine br_kf (by assumption) ?_ | refine br_nt (by assumption) ?_ | refine br_nf (by assumption) ?_ | refine br_et (by assumption) ?_ | refine br_ef (by assumption) ?_); conv => whnf)
        | ((with_reducible first | refine br_dec (fun h => ?_) (fun h => ?_) | refine br_ndec (fun h => ?_) (fun h => ?_) | refine br_ne (fun h => ?_) (fun h => ?_) | refine br_eq (fun h => ?_) (fun h => ?_)) <;> first | (exfalso; omega) | conv => whnf)
        | (refine br_intro (fun h => ?_) (fun h => ?_) <;> conv => whnf)
        | ((first | refine need_in (by first | exact trivial | assumption | exact ⟨rfl, Nat.le_refl _⟩ | exact ⟨rfl, rfl⟩ | (simp only [inR]; omega) | omega | (simp only [roomP, true_and, and_true, List.length_take, List.length_drop, List.length_append, List.length_cons, List.length_nil, List.length_set, List.length_replicate]; omega) | (refine ⟨by first | exact trivial | rfl, by first | exact Nat.le_refl _ | omega | (simp; omega), ?_⟩; change roomP _ _ 1; simp only [roomP]; omega) | (change roomP _ _ 1; simp only [roomP]; omega) | (simp; omega) | (simp [inR]; omega) | (simp [inR]; done) | decide | (simp; done) | exact ⟨by first | omega | (simp; omega), by assumption⟩) ?_ | refine idx_nat (by omega) (fun x hx => ?_) | refine frz_auto ?_ | refine draw_plain ?_ | refine idx_intro (by first | omega | (simp; omega) | (simp; done)) (by first | omega | (simp; omega) | (simp; done)) (fun x hx => ?_)); conv => whnf)
      rw [List.take_of_length_le (Nat.le_of_eq hil)]
  · cases h
/-- The levels of the document. -/
def exL : List lvT.El := [([(3, runE 1, ()), (4, runE 1, ())], ()), ([], ()), ([(1, runE 5, ())], ())]
def spEx : DSpec
  | [] => some (True, .agg [.int .i64 2, .lst lvT exL])
  | _ => none
set_option maxRecDepth 100000 in
theorem fnOk_lEx : FnOk Try.prog 36 Try.f36 := ⟨by rfl, by kernel_rfl, by
  show okCode _ _ = true ∧ drawsOk _ = true
  exact ⟨by kernel_rfl, by kernel_rfl⟩⟩
noncomputable def cvD : Cx := ⟨tb, [], [(37, spRun)]⟩
theorem spvD : SpecsOk Try.prog cvD.specs := .cons lRun_ok .nil
set_option maxRecDepth 100000 in
set_option maxHeartbeats 2000000 in
theorem lEx_ok : SpecOk Try.prog 36 spEx := by
  refine spec_body (C := cvD) mixed tbOk spvD (callN_ok (C := cvD) mixed tbOk spvD FnsOk.nil 0) fnOk_lEx ?_
  intro ys p r h hp
  unfold spEx at h
  split at h
  · cases h
    conv => whnf
    repeat' first
      | (refine br_true (by first | with_reducible exact rfl | decide | rfl) ?_; conv => whnf)
      | (refine br_false (by first | with_reducible exact rfl | decide | rfl) ?_; conv => whnf)
      | (refine need_in (by first | exact trivial | exact ⟨rfl, Nat.le_refl _⟩ | decide | (simp only [inR]; omega) | omega) ?_; conv => whnf)
      | (refine frz_auto ?_; conv => whnf)
      | (refine draw_plain ?_; conv => whnf)
      | (refine idx_cl ?_; (conv => whnf); refine ⟨by decide, ?_⟩; conv => whnf)
      | fail
    rfl
  · cases h
def spShown : DSpec
  | [] => some (True, .bool true)
  | _ => none
set_option maxRecDepth 100000 in
theorem fnOk_lShown : FnOk Try.prog 13 Try.f13 := ⟨by rfl, by kernel_rfl, by
  show okCode _ _ = true ∧ drawsOk _ = true
  exact ⟨by kernel_rfl, by kernel_rfl⟩⟩
noncomputable def cvE : Cx := ⟨tb, [], [(37, spRun), (36, spEx), (17, spNw), (22, spCn), (29, spRoo), (16, spArr), (19, spLea), (11, spLeast), (18, spSRs)]⟩
theorem spvE : SpecsOk Try.prog cvE.specs := .cons lRun_ok (.cons lEx_ok (.cons lvNw_ok (.cons lvCn_ok (.cons lvRoo_ok (.cons lvArr_ok (.cons lvLea_ok (.cons lvLeast_ok (.cons r15SRs_ok .nil))))))))
set_option maxRecDepth 100000 in
set_option maxHeartbeats 8000000 in
theorem lShown_ok : SpecOk Try.prog 13 spShown := by
  refine spec_body (C := cvE) mixed tbOk spvE (callN_ok (C := cvE) mixed tbOk spvE FnsOk.nil 0) fnOk_lShown ?_
  intro ys p r h hp
  unfold spShown at h
  split at h
  · cases h
    conv => whnf
    repeat' first
      | (refine br_true (by first | with_reducible exact rfl | decide | rfl) ?_; conv => whnf)
      | (refine br_false (by first | with_reducible exact rfl | decide | rfl) ?_; conv => whnf)
      | (refine need_in (by first | exact trivial | exact ⟨rfl, Nat.le_refl _⟩ | decide | (simp only [inR]; omega) | omega) ?_; conv => whnf)
      | (refine frz_auto ?_; conv => whnf)
      | (refine draw_plain ?_; conv => whnf)
      | (refine idx_cl ?_; (conv => whnf); refine ⟨by decide, ?_⟩; conv => whnf)
      | fail
    refine loop_turns 5 ?_
    conv => whnf
    repeat' first
      | (refine br_true (by first | with_reducible exact rfl | decide | rfl) ?_; conv => whnf)
      | (refine br_false (by first | with_reducible exact rfl | decide | rfl) ?_; conv => whnf)
      | (refine need_in (by first | exact trivial | exact ⟨rfl, Nat.le_refl _⟩ | decide | (simp only [inR]; omega) | omega) ?_; conv => whnf)
      | (refine frz_auto ?_; conv => whnf)
      | (refine draw_plain ?_; conv => whnf)
      | (refine idx_cl ?_; (conv => whnf); refine ⟨by decide, ?_⟩; conv => whnf)
      | fail
    exact congrArg AV.bool (samRs_refl [(1, runE 5, ())])
  · cases h
end Go.Proofs.Ytjinjnakedhmdaa
