/-
  Levels: with a level's runs put in place.
  Levels: all runs, the newest one first; how many.
-/
import Derived.Test.YtjinjnakedhmdaaVg
import Derived.Test.YtjinjnakedhmdaaVb
namespace Go.Proofs.Ytjinjnakedhmdaa
open Av Bk

theorem trimL_snoc {l : List lvT.El} {x : lvT.El} : trimL (l ++ [x]) = if (rsL x).isEmpty then trimL l else l ++ [x] := by
  unfold trimL
  rw [List.reverse_append]
  show ((x :: l.reverse).dropWhile fun x => (rsL x).isEmpty).reverse = _
  rw [List.dropWhile_cons]
  split
  · rfl
  · simp
/-- Levels, with a level's runs put in place, before those at the end are left out. -/
def putLv (l : List lvT.El) (n : Nat) (rs : List runT.El) : List lvT.El := (l ++ List.replicate (n + 1 - l.length) ([], ())).set n (rs, ())
theorem putLv_len (l : List lvT.El) (n : Nat) (rs : List runT.El) : (putLv l n rs).length = max l.length (n + 1) := by
  unfold putLv
  rw [List.length_set, List.length_append, List.length_replicate]
  omega
theorem put_eq {l : List lvT.El} {n : Nat} {rs : List runT.El} {M : Nat} (hM : M = max l.length (n + 1)) : ((List.replicate M (([], ()) : lvT.El)).take 0 ++ (l.take M ++ (List.replicate M (([], ()) : lvT.El)).drop (0 + (l.take M).length))).set n (rs, ()) = putLv l n rs := by
  have h1 : l.take M = l := List.take_of_length_le (by omega)
  unfold putLv
  rw [h1, List.take_zero, List.nil_append, Nat.zero_add, List.drop_replicate, show M - l.length = n + 1 - l.length by omega]
theorem trim_cut {P : List lvT.El} {k : Nat} {x : lvT.El} (h : P[k]? = some x) : trimL (P.take (k + 1)) = if (rsL x).isEmpty then trimL (P.take k) else P.take (k + 1) := by
  have e : P.take (k + 1) = P.take k ++ [x] := by rw [List.take_add_one, h]; rfl
  rw [e, trimL_snoc]
def spWith : DSpec
  | [.agg [.int .i64 b, .lst (.st [.sl (.st [.int .i64, .sl (.st [.str, .str, .bool, .int .i64])])]) l], .int .i64 n, .lst (.st [.int .i64, .sl (.st [.str, .str, .bool, .int .i64])]) rs] => some (0 ≤ n ∧ n < 12 ∧ l.length ≤ 12, .agg [.int .i64 b, .lst lvT (withL l n.toNat rs)])
  | _ => none
set_option maxRecDepth 100000 in
theorem fnOk_lvWith : FnOk Try.prog 43 Try.f43 := ⟨by rfl, by kernel_rfl, by
  show okCode _ _ = true ∧ drawsOk _ = true
  exact ⟨by kernel_rfl, by kernel_rfl⟩⟩
set_option maxRecDepth 100000 in
set_option maxHeartbeats 2000000 in
theorem lvWith_ok : SpecOk Try.prog 43 spWith := by
  refine spec_body (C := cx0) mixed tbOk .nil (callN_ok (C := cx0) mixed tbOk .nil FnsOk.nil 0) fnOk_lvWith ?_
  intro ys p r h hp
  unfold spWith at h
  split at h
  · rename_i b l n rs
    cases h
    obtain ⟨hn0, hn1, hl⟩ := hp
    obtain ⟨m, rfl⟩ : ∃ m : Nat, n = m := ⟨n.toNat, by omega⟩
    have hpl := putLv_len l m rs
    have hMx : (if (l.length : Int) < (m : Int) + 1 then (m : Int) + 1 else l.length).toNat = max l.length (m + 1) := by split <;> omega
    have hpl2 : (putLv l m rs).length = (if (l.length : Int) < (m : Int) + 1 then (m : Int) + 1 else l.length).toNat := by omega
    have hgoal : withL l (m : Int).toNat rs = trimL (putLv l m rs) := rfl
    rw [hgoal]
    conv => whnf
    repeat' first
      | ((first | refine idx_kn (by assumption) ?_ | refine idx_ki (by assumption) (by omega) ?_ | refine br_true (by first | with_reducible exact rfl | assumption | decide) ?_ | refine br_false (by first | with_reducible exact rfl | assumption | decide) ?_ | with_reducible first | refine br_kt (by assumption) ?_ | refine br_kf (by assumption) ?_ | refine br_nt (by assumption) ?_ | refine br_nf (by assumption) ?_ | refine br_et (by assumption) ?_ | refine br_ef (by assumption) ?_); conv => whnf)
      | ((with_reducible first | refine br_dec (fun h => ?_) (fun h => ?_) | refine br_ndec (fun h => ?_) (fun h => ?_) | refine br_ne (fun h => ?_) (fun h => ?_) | refine br_eq (fun h => ?_) (fun h => ?_)) <;> first | (exfalso; omega) | conv => whnf)
      | (refine br_intro (fun h => ?_) (fun h => ?_) <;> conv => whnf)
      | ((first | refine need_in (by first | exact trivial | assumption | exact ⟨rfl, Nat.le_refl _⟩ | exact ⟨rfl, rfl⟩ | (simp only [inR]; omega) | omega | (simp only [roomP, true_and, and_true, List.length_take, List.length_drop, List.length_append, List.length_cons, List.length_nil, List.length_set, List.length_replicate]; omega) | (refine ⟨by first | exact trivial | rfl, by first | exact Nat.le_refl _ | omega | (simp; omega), ?_⟩; change roomP _ _ 1; simp only [roomP]; omega) | (change roomP _ _ 1; simp only [roomP]; omega) | (simp; omega) | (simp [inR]; omega) | (simp [inR]; done) | decide | (simp; done) | exact ⟨by first | omega | (simp; omega), by assumption⟩) ?_ | refine idx_nat (by omega) (fun x hx => ?_) | refine frz_auto ?_ | refine draw_plain ?_ | refine idx_intro (by first | omega | (simp; omega) | (simp; done)) (by first | omega | (simp; omega) | (simp; done)) (fun x hx => ?_)); conv => whnf)
    refine loop_inv [] [8] (fun vs h => ∃ k : Nat, vs = [.int .i64 (k : Int)] ∧ h = [.cells 29 [.int .i64 b, .lst lvT l], .cells 29 [.int .i64 0, .zsl lvT], .resv, .resv, .resv, .resv, .resv, .resv, .resv, .resv, .arr 41 lvT (putLv l m rs) true 0, .resv, .cells 29 [.int .i64 b, .own 10 0 (if (l.length : Int) < (m : Int) + 1 then (m : Int) + 1 else l.length).toNat]] ∧ k ≤ (putLv l m rs).length ∧ trimL (putLv l m rs) = trimL ((putLv l m rs).take k)) (fun vs _ => match vs with | [.int _ k] => k.toNat | _ => 0) ?_
    conv => whnf
    refine ⟨⟨_, rfl, ?_, Nat.le_of_eq hpl2.symm, ?_⟩, ?_⟩
    · refine congrArg (fun y => [AObj.cells 29 [.int .i64 b, .lst lvT l], .cells 29 [.int .i64 0, .zsl lvT], .resv, .resv, .resv, .resv, .resv, .resv, .resv, .resv, .arr 41 lvT y true 0, .resv, .cells 29 [.int .i64 b, .own 10 0 (if (l.length : Int) < (m : Int) + 1 then (m : Int) + 1 else l.length).toNat]]) ?_
      simp only [cast_self]
      exact put_eq hMx
    · rw [← hpl2, List.take_length]
    rintro vs h' - ⟨k, rfl, rfl, hk, ht⟩
    by_cases hk0 : k = 0
    · subst hk0
      have hz : trimL (putLv l m rs) = [] := ht.trans (by rw [List.take_zero]; rfl)
      generalize putLv l m rs = P at *
      conv => whnf
      repeat' first
        | ((first | refine idx_kn (by assumption) ?_ | refine idx_ki (by assumption) (by omega) ?_ | refine br_true (by first | with_reducible exact rfl | assumption | decide) ?_ | refine br_false (by first | with_reducible exact rfl | assumption | decide) ?_ | with_reducible first | refine br_kt (by assumption) ?_ | refine br_kf (by assumption) ?_ | refine br_nt (by assumption) ?_ | refine br_nf (by assumption) ?_ | refine br_et (by assumption) ?_ | refine br_ef (by assumption) ?_); conv => whnf)
        | ((with_reducible first | refine br_dec (fun h => ?_) (fun h => ?_) | refine br_ndec (fun h => ?_) (fun h => ?_) | refine br_ne (fun h => ?_) (fun h => ?_) | refine br_eq (fun h => ?_) (fun h => ?_)) <;> first | (exfalso; omega) | conv => whnf)
        | (refine br_intro (fun h => ?_) (fun h => ?_) <;> conv => whnf)
        | ((first | refine need_in (by first | exact trivial | assumption | exact ⟨rfl, Nat.le_refl _⟩ | exact ⟨rfl, rfl⟩ | (simp only [inR]; omega) | omega | (simp only [roomP, true_and, and_true, List.length_take, List.length_drop, List.length_append, List.length_cons, List.length_nil, List.length_set, List.length_replicate]; omega) | (refine ⟨by first | exact trivial | rfl, by first | exact Nat.le_refl _ | omega | (simp; omega), ?_⟩; change roomP _ _ 1; simp only [roomP]; omega) | (change roomP _ _ 1; simp only [roomP]; omega) | (simp; omega) | (simp [inR]; omega) | (simp [inR]; done) | decide | (simp; done) | exact ⟨by first | omega | (simp; omega), by assumption⟩) ?_ | refine idx_nat (by omega) (fun x hx => ?_) | refine frz_auto ?_ | refine draw_plain ?_ | refine idx_intro (by first | omega | (simp; omega) | (simp; done)) (by first | omega | (simp; omega) | (simp; done)) (fun x hx => ?_)); conv => whnf)
      all_goals (rw [hz]; rfl)
    · obtain ⟨x, hx⟩ : ∃ x : lvT.El, (putLv l m rs)[k - 1]? = some x := ⟨_, List.getElem?_eq_getElem (by omega)⟩
      have hc := trim_cut hx
      rw [show k - 1 + 1 = k by omega] at hc
      rw [hc] at ht
      have hxi : (putLv l m rs)[((k : Int) - 1).toNat]? = some x := by rw [show ((k : Int) - 1).toNat = k - 1 by omega]; exact hx
      by_cases hr0 : (x.1.length : Int) = 0
      · rw [if_pos (show (rsL x).isEmpty = true from by show x.1.isEmpty = true; rw [List.isEmpty_iff]; exact List.eq_nil_of_length_eq_zero (by omega))] at ht
        generalize putLv l m rs = P at *
        conv => whnf
        repeat' first
          | ((first | refine idx_kn (by assumption) ?_ | refine idx_ki (by assumption) (by omega) ?_ | refine br_true (by first | with_reducible exact rfl | assumption | decide) ?_ | refine br_false (by first | with_reducible exact rfl | assumption | decide) ?_ | with_reducible first | refine br_kt (by assumption) ?_ | refine br_kf (by assumption) ?_ | refine br_nt (by assumption) ?_ | refine br_nf (by assumption) ?_ | refine br_et (by assumption) ?_ | refine br_ef (by assumption) ?_); conv => whnf)
          | ((with_reducible first | refine br_dec (fun h => ?_) (fun h => ?_) | refine br_ndec (fun h => ?_) (fun h => ?_) | refine br_ne (fun h => ?_) (fun h => ?_) | refine br_eq (fun h => ?_) (fun h => ?_)) <;> first | (exfalso; omega) | conv => whnf)
          | (refine br_intro (fun h => ?_) (fun h => ?_) <;> conv => whnf)
          | ((first | refine need_in (by first | exact trivial | assumption | exact ⟨rfl, Nat.le_refl _⟩ | exact ⟨rfl, rfl⟩ | (simp only [inR]; omega) | omega | (simp only [roomP, true_and, and_true, List.length_take, List.length_drop, List.length_append, List.length_cons, List.length_nil, List.length_set, List.length_replicate]; omega) | (refine ⟨by first | exact trivial | rfl, by first | exact Nat.le_refl _ | omega | (simp; omega), ?_⟩; change roomP _ _ 1; simp only [roomP]; omega) | (change roomP _ _ 1; simp only [roomP]; omega) | (simp; omega) | (simp [inR]; omega) | (simp [inR]; done) | decide | (simp; done) | exact ⟨by first | omega | (simp; omega), by assumption⟩) ?_ | refine idx_nat (by omega) (fun x hx => ?_) | refine frz_auto ?_ | refine draw_plain ?_ | refine idx_intro (by first | omega | (simp; omega) | (simp; done)) (by first | omega | (simp; omega) | (simp; done)) (fun x hx => ?_)); conv => whnf)
        refine back_intro (by conv => whnf) rfl ⟨k - 1, congrArg (fun y => [AV.int .i64 y]) (show (k : Int) - 1 = ((k - 1 : Nat) : Int) by omega), rfl, by omega, ht⟩ ?_
        show ((k : Int) - 1).toNat < (k : Int).toNat
        omega
      · rw [if_neg (show ¬ (rsL x).isEmpty = true from fun e => hr0 (by rw [show (x.1 : List runT.El) = [] from List.isEmpty_iff.1 e]; rfl))] at ht
        generalize putLv l m rs = P at *
        conv => whnf
        repeat' first
          | ((first | refine idx_kn (by assumption) ?_ | refine idx_ki (by assumption) (by omega) ?_ | refine br_true (by first | with_reducible exact rfl | assumption | decide) ?_ | refine br_false (by first | with_reducible exact rfl | assumption | decide) ?_ | with_reducible first | refine br_kt (by assumption) ?_ | refine br_kf (by assumption) ?_ | refine br_nt (by assumption) ?_ | refine br_nf (by assumption) ?_ | refine br_et (by assumption) ?_ | refine br_ef (by assumption) ?_); conv => whnf)
          | ((with_reducible first | refine br_dec (fun h => ?_) (fun h => ?_) | refine br_ndec (fun h => ?_) (fun h => ?_) | refine br_ne (fun h => ?_) (fun h => ?_) | refine br_eq (fun h => ?_) (fun h => ?_)) <;> first | (exfalso; omega) | conv => whnf)
          | (refine br_intro (fun h => ?_) (fun h => ?_) <;> conv => whnf)
          | ((first | refine need_in (by first | exact trivial | assumption | exact ⟨rfl, Nat.le_refl _⟩ | exact ⟨rfl, rfl⟩ | (simp only [inR]; omega) | omega | (simp only [roomP, true_and, and_true, List.length_take, List.length_drop, List.length_append, List.length_cons, List.length_nil, List.length_set, List.length_replicate]; omega) | (refine ⟨by first | exact trivial | rfl, by first | exact Nat.le_refl _ | omega | (simp; omega), ?_⟩; change roomP _ _ 1; simp only [roomP]; omega) | (change roomP _ _ 1; simp only [roomP]; omega) | (simp; omega) | (simp [inR]; omega) | (simp [inR]; done) | decide | (simp; done) | exact ⟨by first | omega | (simp; omega), by assumption⟩) ?_ | refine idx_nat (by omega) (fun x hx => ?_) | refine frz_auto ?_ | refine draw_plain ?_ | refine idx_intro (by first | omega | (simp; omega) | (simp; done)) (by first | omega | (simp; omega) | (simp; done)) (fun x hx => ?_)); conv => whnf)
        all_goals (rw [ht]; rfl)
  · cases h
end Go.Proofs.Ytjinjnakedhmdaa
namespace Go.Proofs.Ytjinjnakedhmdaa
open Av Bk

def nwR (b : Int) (l : List lvT.El) : List runT.El × Int := if (chkL b l).2.2 ≠ 0 then ([], (chkL b l).2.2) else (newL l, 0)
def cntR (b : Int) (l : List lvT.El) : Int × Int × Int := if (chkL b l).2.2 ≠ 0 then (0, 0, (chkL b l).2.2) else (entN (newL l), ((newL l).length : Int), 0)
def spNw : DSpec
  | [.agg [.int .i64 b, .lst (.st [.sl (.st [.int .i64, .sl (.st [.str, .str, .bool, .int .i64])])]) l]] => some (True, .tup [.lst runT (nwR b l).1, .int .i64 (nwR b l).2])
  | _ => none
def spCn : DSpec
  | [.agg [.int .i64 b, .lst (.st [.sl (.st [.int .i64, .sl (.st [.str, .str, .bool, .int .i64])])]) l]] => some (True, .tup [.int .i64 (cntR b l).1, .int .i64 (cntR b l).2.1, .int .i64 (cntR b l).2.2])
  | _ => none
theorem entN_take {L : List runT.El} {k : Nat} {x : runT.El} (h : L[k]? = some x) : entN (L.take (k + 1)) = entN (L.take k) + (x.2.1.length : Int) := by
  unfold entN
  rw [List.take_add_one, h, List.map_append, List.sum_append]
  simp
theorem entN_bnd : ∀ {L : List runT.El}, (∀ r ∈ L, (rcL r).2 = 0) → 0 ≤ entN L ∧ entN L ≤ 5000 * (L.length : Int)
  | [], _ => by simp [entN]
  | r :: L, h => by
    have h1 := entN_bnd (L := L) (fun x hx => h x (List.mem_cons_of_mem _ hx))
    have h2 := rc_len (h r List.mem_cons_self)
    have h3 : entN (r :: L) = (r.2.1.length : Int) + entN L := by unfold entN; simp
    rw [h3, List.length_cons]
    omega
theorem new_rc {b : Int} {l : List lvT.El} (h : LvOk b l) : ∀ r ∈ newL l, (rcL r).2 = 0 := fun r hr => by
  obtain ⟨x, hx, h2⟩ := newL_mem hr
  exact h.rc x hx r h2
theorem new_ent {b : Int} {l : List lvT.El} (h : LvOk b l) (k : Nat) : 0 ≤ entN ((newL l).take k) ∧ entN ((newL l).take k) ≤ 120000 := by
  have h1 := entN_bnd (L := (newL l).take k) (fun r hr => new_rc h r (List.mem_of_mem_take hr))
  have h2 := newL_len h
  have h3 : ((newL l).take k).length ≤ 24 := by rw [List.length_take]; omega
  omega
set_option maxRecDepth 100000 in
theorem fnOk_lvNewest1 : FnOk Try.prog 41 Try.f41 := ⟨by rfl, by kernel_rfl, by
  show okCode _ _ = true ∧ drawsOk _ = true
  exact ⟨by kernel_rfl, by kernel_rfl⟩⟩
set_option maxRecDepth 100000 in
theorem fnOk_lvNw : FnOk Try.prog 17 Try.f17 := ⟨by rfl, by kernel_rfl, by
  show okCode _ _ = true ∧ drawsOk _ = true
  exact ⟨by kernel_rfl, by kernel_rfl⟩⟩
set_option maxRecDepth 100000 in
theorem fnOk_lvCn : FnOk Try.prog 22 Try.f22 := ⟨by rfl, by kernel_rfl, by
  show okCode _ _ = true ∧ drawsOk _ = true
  exact ⟨by kernel_rfl, by kernel_rfl⟩⟩
noncomputable def cv6 : Cx := ⟨tb, [(41, Try.f41)], [(25, .d spLChk), (50, .i spNew1)]⟩
theorem spv6 : SpecsOk Try.prog cv6.specs := .cons lvChk_ok (.consI lvNew1_ok .nil)
theorem fnv6 : FnsOk Try.prog cv6.fns := .cons fnOk_lvNewest1 .nil
set_option maxRecDepth 100000 in
set_option maxHeartbeats 2000000 in
theorem lvCn_ok : SpecOk Try.prog 22 spCn := by
  refine spec_body (C := cv6) mixed tbOk spv6 (callN_ok (C := cv6) mixed tbOk spv6 fnv6 2) fnOk_lvCn ?_
  intro ys p r h hp
  unfold spCn at h
  split at h
  · rename_i b l
    cases h
    by_cases h1 : (chkL b l).2.2 = 0
    · have hok := lvOk_of h1
      have hc : cntR b l = (entN (newL l), ((newL l).length : Int), 0) := if_neg (fun e => e h1)
      conv => whnf
      repeat' first
        | ((first | refine idx_kn (by assumption) ?_ | refine idx_ki (by assumption) (by omega) ?_ | refine br_true (by first | with_reducible exact rfl | assumption | decide) ?_ | refine br_false (by first | with_reducible exact rfl | assumption | decide) ?_ | with_reducible first | refine br_kt (by assumption) ?_ | refine br_kf (by assumption) ?_ | refine br_nt (by assumption) ?_ | refine br_nf (by assumption) ?_ | refine br_et (by assumption) ?_ | refine br_ef (by assumption) ?_); conv => whnf)
        | ((with_reducible first | refine br_dec (fun h => ?_) (fun h => ?_) | refine br_ndec (fun h => ?_) (fun h => ?_) | refine br_ne (fun h => ?_) (fun h => ?_) | refine br_eq (fun h => ?_) (fun h => ?_)) <;> first | (exfalso; omega) | conv => whnf)
        | (refine br_intro (fun h => ?_) (fun h => ?_) <;> conv => whnf)
        | ((first | refine need_in (by first | exact trivial | assumption | exact ⟨rfl, Nat.le_refl _⟩ | exact ⟨rfl, rfl⟩ | (simp only [inR]; omega) | omega | (simp only [roomP, true_and, and_true, List.length_take, List.length_drop, List.length_append, List.length_cons, List.length_nil, List.length_set, List.length_replicate]; omega) | (refine ⟨by first | exact trivial | rfl, by first | exact Nat.le_refl _ | omega | (simp; omega), ?_⟩; change roomP _ _ 1; simp only [roomP]; omega) | (change roomP _ _ 1; simp only [roomP]; omega) | (simp; omega) | (simp [inR]; omega) | (simp [inR]; done) | decide | (simp; done) | exact ⟨by first | omega | (simp; omega), by assumption⟩) ?_ | refine idx_nat (by omega) (fun x hx => ?_) | refine frz_auto ?_ | refine draw_plain ?_ | refine idx_intro (by first | omega | (simp; omega) | (simp; done)) (by first | omega | (simp; omega) | (simp; done)) (fun x hx => ?_)); conv => whnf)
      have hnl := newL_len hok
      refine .mk [] ?_
      conv => whnf
      refine .mk _ ⟨runT, newL l⟩ (fun k h => h = [.cells 29 [.int .i64 b, .lst lvT l], .cells 3 [.int .i64 (entN ((newL l).take k))], .cells 3 [.int .i64 (k : Int)], .cells 29 [.int .i64 b, .lst lvT l]]) rfl hok.ln rfl ?_ ?_
      · rintro k x h' hx rfl
        have hx : (newL l)[k]? = some x := hx
        have hk : k < (newL l).length := (List.getElem?_eq_some_iff.1 hx).1
        have hb1 := new_ent hok k
        have hxl := rc_len (new_rc hok x (List.mem_of_getElem? hx))
        have hst := entN_take hx
        conv => whnf
        repeat' first
          | ((first | refine idx_kn (by assumption) ?_ | refine idx_ki (by assumption) (by omega) ?_ | refine br_true (by first | with_reducible exact rfl | assumption | decide) ?_ | refine br_false (by first | with_reducible exact rfl | assumption | decide) ?_ | with_reducible first | refine br_kt (by assumption) ?_ | refine br_kf (by assumption) ?_ | refine br_nt (by assumption) ?_ | refine br_nf (by assumption) ?_ | refine br_et (by assumption) ?_ | refine br_ef (by assumption) ?_); conv => whnf)
          | ((with_reducible first | refine br_dec (fun h => ?_) (fun h => ?_) | refine br_ndec (fun h => ?_) (fun h => ?_) | refine br_ne (fun h => ?_) (fun h => ?_) | refine br_eq (fun h => ?_) (fun h => ?_)) <;> first | (exfalso; omega) | conv => whnf)
          | (refine br_intro (fun h => ?_) (fun h => ?_) <;> conv => whnf)
          | ((first | refine need_in (by first | exact trivial | assumption | exact ⟨rfl, Nat.le_refl _⟩ | exact ⟨rfl, rfl⟩ | (simp only [inR]; omega) | omega | (simp only [roomP, true_and, and_true, List.length_take, List.length_drop, List.length_append, List.length_cons, List.length_nil, List.length_set, List.length_replicate]; omega) | (refine ⟨by first | exact trivial | rfl, by first | exact Nat.le_refl _ | omega | (simp; omega), ?_⟩; change roomP _ _ 1; simp only [roomP]; omega) | (change roomP _ _ 1; simp only [roomP]; omega) | (simp; omega) | (simp [inR]; omega) | (simp [inR]; done) | decide | (simp; done) | exact ⟨by first | omega | (simp; omega), by assumption⟩) ?_ | refine idx_nat (by omega) (fun x hx => ?_) | refine frz_auto ?_ | refine draw_plain ?_ | refine idx_intro (by first | omega | (simp; omega) | (simp; done)) (by first | omega | (simp; omega) | (simp; done)) (fun x hx => ?_)); conv => whnf)
        refine .mk [] ⟨rfl, ?_⟩
        show [AObj.cells 29 [.int .i64 b, .lst lvT l], .cells 3 [.int .i64 (entN ((newL l).take k) + (x.2.1.length : Int))], .cells 3 [.int .i64 ((k : Int) + 1)], .cells 29 [.int .i64 b, .lst lvT l]] = _
        rw [← hst]; rfl
      · rintro h' rfl
        have hb1 := new_ent hok (newL l).length
        rw [List.take_length] at hb1
        conv => whnf
        repeat' first
          | ((first | refine idx_kn (by assumption) ?_ | refine idx_ki (by assumption) (by omega) ?_ | refine br_true (by first | with_reducible exact rfl | assumption | decide) ?_ | refine br_false (by first | with_reducible exact rfl | assumption | decide) ?_ | with_reducible first | refine br_kt (by assumption) ?_ | refine br_kf (by assumption) ?_ | refine br_nt (by assumption) ?_ | refine br_nf (by assumption) ?_ | refine br_et (by assumption) ?_ | refine br_ef (by assumption) ?_); conv => whnf)
          | ((with_reducible first | refine br_dec (fun h => ?_) (fun h => ?_) | refine br_ndec (fun h => ?_) (fun h => ?_) | refine br_ne (fun h => ?_) (fun h => ?_) | refine br_eq (fun h => ?_) (fun h => ?_)) <;> first | (exfalso; omega) | conv => whnf)
          | (refine br_intro (fun h => ?_) (fun h => ?_) <;> conv => whnf)
          | ((first | refine need_in (by first | exact trivial | assumption | exact ⟨rfl, Nat.le_refl _⟩ | exact ⟨rfl, rfl⟩ | (simp only [inR]; omega) | omega | (simp only [roomP, true_and, and_true, List.length_take, List.length_drop, List.length_append, List.length_cons, List.length_nil, List.length_set, List.length_replicate]; omega) | (refine ⟨by first | exact trivial | rfl, by first | exact Nat.le_refl _ | omega | (simp; omega), ?_⟩; change roomP _ _ 1; simp only [roomP]; omega) | (change roomP _ _ 1; simp only [roomP]; omega) | (simp; omega) | (simp [inR]; omega) | (simp [inR]; done) | decide | (simp; done) | exact ⟨by first | omega | (simp; omega), by assumption⟩) ?_ | refine idx_nat (by omega) (fun x hx => ?_) | refine frz_auto ?_ | refine draw_plain ?_ | refine idx_intro (by first | omega | (simp; omega) | (simp; done)) (by first | omega | (simp; omega) | (simp; done)) (fun x hx => ?_)); conv => whnf)
        rw [hc]
        show AV.tup [.int .i64 (entN (List.take (newL l).length (newL l))), .int .i64 ((newL l).length : Int), .int .i64 0] = _
        rw [List.take_length]
    · have hc : cntR b l = (0, 0, (chkL b l).2.2) := if_pos h1
      conv => whnf
      repeat' first
        | ((first | refine idx_kn (by assumption) ?_ | refine idx_ki (by assumption) (by omega) ?_ | refine br_true (by first | with_reducible exact rfl | assumption | decide) ?_ | refine br_false (by first | with_reducible exact rfl | assumption | decide) ?_ | with_reducible first | refine br_kt (by assumption) ?_ | refine br_kf (by assumption) ?_ | refine br_nt (by assumption) ?_ | refine br_nf (by assumption) ?_ | refine br_et (by assumption) ?_ | refine br_ef (by assumption) ?_); conv => whnf)
        | ((with_reducible first | refine br_dec (fun h => ?_) (fun h => ?_) | refine br_ndec (fun h => ?_) (fun h => ?_) | refine br_ne (fun h => ?_) (fun h => ?_) | refine br_eq (fun h => ?_) (fun h => ?_)) <;> first | (exfalso; omega) | conv => whnf)
        | (refine br_intro (fun h => ?_) (fun h => ?_) <;> conv => whnf)
        | ((first | refine need_in (by first | exact trivial | assumption | exact ⟨rfl, Nat.le_refl _⟩ | exact ⟨rfl, rfl⟩ | (simp only [inR]; omega) | omega | (simp only [roomP, true_and, and_true, List.length_take, List.length_drop, List.length_append, List.length_cons, List.length_nil, List.length_set, List.length_replicate]; omega) | (refine ⟨by first | exact trivial | rfl, by first | exact Nat.le_refl _ | omega | (simp; omega), ?_⟩; change roomP _ _ 1; simp only [roomP]; omega) | (change roomP _ _ 1; simp only [roomP]; omega) | (simp; omega) | (simp [inR]; omega) | (simp [inR]; done) | decide | (simp; done) | exact ⟨by first | omega | (simp; omega), by assumption⟩) ?_ | refine idx_nat (by omega) (fun x hx => ?_) | refine frz_auto ?_ | refine draw_plain ?_ | refine idx_intro (by first | omega | (simp; omega) | (simp; done)) (by first | omega | (simp; omega) | (simp; done)) (fun x hx => ?_)); conv => whnf)
      all_goals (rw [hc])
  · cases h
set_option maxRecDepth 100000 in
set_option maxHeartbeats 2000000 in
theorem lvNw_ok : SpecOk Try.prog 17 spNw := by
  refine spec_body (C := cv6) mixed tbOk spv6 (callN_ok (C := cv6) mixed tbOk spv6 fnv6 2) fnOk_lvNw ?_
  intro ys p r h hp
  unfold spNw at h
  split at h
  · rename_i b l
    cases h
    by_cases h1 : (chkL b l).2.2 = 0
    · have hok := lvOk_of h1
      have hc : nwR b l = (newL l, 0) := if_neg (fun e => e h1)
      conv => whnf
      repeat' first
        | ((first | refine idx_kn (by assumption) ?_ | refine idx_ki (by assumption) (by omega) ?_ | refine br_true (by first | with_reducible exact rfl | assumption | decide) ?_ | refine br_false (by first | with_reducible exact rfl | assumption | decide) ?_ | with_reducible first | refine br_kt (by assumption) ?_ | refine br_kf (by assumption) ?_ | refine br_nt (by assumption) ?_ | refine br_nf (by assumption) ?_ | refine br_et (by assumption) ?_ | refine br_ef (by assumption) ?_); conv => whnf)
        | ((with_reducible first | refine br_dec (fun h => ?_) (fun h => ?_) | refine br_ndec (fun h => ?_) (fun h => ?_) | refine br_ne (fun h => ?_) (fun h => ?_) | refine br_eq (fun h => ?_) (fun h => ?_)) <;> first | (exfalso; omega) | conv => whnf)
        | (refine br_intro (fun h => ?_) (fun h => ?_) <;> conv => whnf)
        | ((first | refine need_in (by first | exact trivial | assumption | exact ⟨rfl, Nat.le_refl _⟩ | exact ⟨rfl, rfl⟩ | (simp only [inR]; omega) | omega | (simp only [roomP, true_and, and_true, List.length_take, List.length_drop, List.length_append, List.length_cons, List.length_nil, List.length_set, List.length_replicate]; omega) | (refine ⟨by first | exact trivial | rfl, by first | exact Nat.le_refl _ | omega | (simp; omega), ?_⟩; change roomP _ _ 1; simp only [roomP]; omega) | (change roomP _ _ 1; simp only [roomP]; omega) | (simp; omega) | (simp [inR]; omega) | (simp [inR]; done) | decide | (simp; done) | exact ⟨by first | omega | (simp; omega), by assumption⟩) ?_ | refine idx_nat (by omega) (fun x hx => ?_) | refine frz_auto ?_ | refine draw_plain ?_ | refine idx_intro (by first | omega | (simp; omega) | (simp; done)) (by first | omega | (simp; omega) | (simp; done)) (fun x hx => ?_)); conv => whnf)
      have hnl := newL_len hok
      refine .mk [.cell 2 0 32 runT] ?_
      conv => whnf
      refine .mk _ ⟨runT, newL l⟩ (fun k h => ∃ g, h = [.cells 29 [.int .i64 b, .lst lvT l], .arr 32 runT [] false 0, .cells 37 [.own 4 g k], .cells 29 [.int .i64 b, .lst lvT l], .arr 32 runT ((newL l).take k) false g]) rfl hok.ln ⟨0, rfl⟩ ?_ ?_
      · rintro k x h' hx ⟨g, rfl⟩
        have hx : (newL l)[k]? = some x := hx
        have hk : k < (newL l).length := (List.getElem?_eq_some_iff.1 hx).1
        have hlt : ((newL l).take k).length = k := by rw [List.length_take]; omega
        have hst : (newL l).take (k + 1) = (newL l).take k ++ [x] := by rw [List.take_add_one, hx]; rfl
        generalize hP : (newL l).take k = P at *
        conv => whnf
        repeat' first
          | ((first | refine idx_kn (by assumption) ?_ | refine idx_ki (by assumption) (by omega) ?_ | refine br_true (by first | with_reducible exact rfl | assumption | decide) ?_ | refine br_false (by first | with_reducible exact rfl | assumption | decide) ?_ | with_reducible first | refine br_kt (by assumption) ?_ | refine br_kf (by assumption) ?_ | refine br_nt (by assumption) ?_ | refine br_nf (by assumption) ?_ | refine br_et (by assumption) ?_ | refine br_ef (by assumption) ?_); conv => whnf)
          | ((with_reducible first | refine br_dec (fun h => ?_) (fun h => ?_) | refine br_ndec (fun h => ?_) (fun h => ?_) | refine br_ne (fun h => ?_) (fun h => ?_) | refine br_eq (fun h => ?_) (fun h => ?_)) <;> first | (exfalso; omega) | conv => whnf)
          | (refine br_intro (fun h => ?_) (fun h => ?_) <;> conv => whnf)
          | ((first | refine need_in (by first | exact trivial | assumption | exact ⟨rfl, Nat.le_refl _⟩ | exact ⟨rfl, rfl⟩ | (simp only [inR]; omega) | omega | (simp only [roomP, true_and, and_true, List.length_take, List.length_drop, List.length_append, List.length_cons, List.length_nil, List.length_set, List.length_replicate]; omega) | (refine ⟨by first | exact trivial | rfl, by first | exact Nat.le_refl _ | omega | (simp; omega), ?_⟩; change roomP _ _ 1; simp only [roomP]; omega) | (change roomP _ _ 1; simp only [roomP]; omega) | (simp; omega) | (simp [inR]; omega) | (simp [inR]; done) | decide | (simp; done) | exact ⟨by first | omega | (simp; omega), by assumption⟩) ?_ | refine idx_nat (by omega) (fun x hx => ?_) | refine frz_auto ?_ | refine draw_plain ?_ | refine idx_intro (by first | omega | (simp; omega) | (simp; done)) (by first | omega | (simp; omega) | (simp; done)) (fun x hx => ?_)); conv => whnf)
        refine .mk [] ⟨rfl, g + 1, ?_⟩
        rw [hst]
        exact congrArg (fun y => [AObj.cells 29 [.int .i64 b, .lst lvT l], .arr 32 runT [] false 0, .cells 37 [.own 4 (g + 1) (k + 1)], .cells 29 [.int .i64 b, .lst lvT l], .arr 32 runT y false (g + 1)]) (show List.take k P ++ [x] = P ++ [x] by rw [List.take_of_length_le (by omega)])
      · rintro h' ⟨g, rfl⟩
        have hll : ({ t := runT, l := newL l } : IRes).l.length = (newL l).length := rfl
        have hlt : (List.take ({ t := runT, l := newL l } : IRes).l.length (newL l)).length = (newL l).length := by rw [hll, List.take_length]
        conv => whnf
        repeat' first
          | ((first | refine idx_kn (by assumption) ?_ | refine idx_ki (by assumption) (by omega) ?_ | refine br_true (by first | with_reducible exact rfl | assumption | decide) ?_ | refine br_false (by first | with_reducible exact rfl | assumption | decide) ?_ | with_reducible first | refine br_kt (by assumption) ?_ | refine br_kf (by assumption) ?_ | refine br_nt (by assumption) ?_ | refine br_nf (by assumption) ?_ | refine br_et (by assumption) ?_ | refine br_ef (by assumption) ?_); conv => whnf)
          | ((with_reducible first | refine br_dec (fun h => ?_) (fun h => ?_) | refine br_ndec (fun h => ?_) (fun h => ?_) | refine br_ne (fun h => ?_) (fun h => ?_) | refine br_eq (fun h => ?_) (fun h => ?_)) <;> first | (exfalso; omega) | conv => whnf)
          | (refine br_intro (fun h => ?_) (fun h => ?_) <;> conv => whnf)
          | ((first | refine need_in (by first | exact trivial | assumption | exact ⟨rfl, Nat.le_refl _⟩ | exact ⟨rfl, rfl⟩ | (simp only [inR]; omega) | omega | (simp only [roomP, true_and, and_true, List.length_take, List.length_drop, List.length_append, List.length_cons, List.length_nil, List.length_set, List.length_replicate]; omega) | (refine ⟨by first | exact trivial | rfl, by first | exact Nat.le_refl _ | omega | (simp; omega), ?_⟩; change roomP _ _ 1; simp only [roomP]; omega) | (change roomP _ _ 1; simp only [roomP]; omega) | (simp; omega) | (simp [inR]; omega) | (simp [inR]; done) | decide | (simp; done) | exact ⟨by first | omega | (simp; omega), by assumption⟩) ?_ | refine idx_nat (by omega) (fun x hx => ?_) | refine frz_auto ?_ | refine draw_plain ?_ | refine idx_intro (by first | omega | (simp; omega) | (simp; done)) (by first | omega | (simp; omega) | (simp; done)) (fun x hx => ?_)); conv => whnf)
        rw [hc]
        show AV.tup [.lst runT (List.take (newL l).length (List.take (newL l).length (newL l))), .int .i64 0] = _
        rw [List.take_length, List.take_length]
    · have hc : nwR b l = ([], (chkL b l).2.2) := if_pos h1
      conv => whnf
      repeat' first
        | ((first | refine idx_kn (by assumption) ?_ | refine idx_ki (by assumption) (by omega) ?_ | refine br_true (by first | with_reducible exact rfl | assumption | decide) ?_ | refine br_false (by first | with_reducible exact rfl | assumption | decide) ?_ | with_reducible first | refine br_kt (by assumption) ?_ | refine br_kf (by assumption) ?_ | refine br_nt (by assumption) ?_ | refine br_nf (by assumption) ?_ | refine br_et (by assumption) ?_ | refine br_ef (by assumption) ?_); conv => whnf)
        | ((with_reducible first | refine br_dec (fun h => ?_) (fun h => ?_) | refine br_ndec (fun h => ?_) (fun h => ?_) | refine br_ne (fun h => ?_) (fun h => ?_) | refine br_eq (fun h => ?_) (fun h => ?_)) <;> first | (exfalso; omega) | conv => whnf)
        | (refine br_intro (fun h => ?_) (fun h => ?_) <;> conv => whnf)
        | ((first | refine need_in (by first | exact trivial | assumption | exact ⟨rfl, Nat.le_refl _⟩ | exact ⟨rfl, rfl⟩ | (simp only [inR]; omega) | omega | (simp only [roomP, true_and, and_true, List.length_take, List.length_drop, List.length_append, List.length_cons, List.length_nil, List.length_set, List.length_replicate]; omega) | (refine ⟨by first | exact trivial | rfl, by first | exact Nat.le_refl _ | omega | (simp; omega), ?_⟩; change roomP _ _ 1; simp only [roomP]; omega) | (change roomP _ _ 1; simp only [roomP]; omega) | (simp; omega) | (simp [inR]; omega) | (simp [inR]; done) | decide | (simp; done) | exact ⟨by first | omega | (simp; omega), by assumption⟩) ?_ | refine idx_nat (by omega) (fun x hx => ?_) | refine frz_auto ?_ | refine draw_plain ?_ | refine idx_intro (by first | omega | (simp; omega) | (simp; done)) (by first | omega | (simp; omega) | (simp; done)) (fun x hx => ?_)); conv => whnf)
      all_goals (rw [hc]; rfl)
  · cases h
end Go.Proofs.Ytjinjnakedhmdaa
