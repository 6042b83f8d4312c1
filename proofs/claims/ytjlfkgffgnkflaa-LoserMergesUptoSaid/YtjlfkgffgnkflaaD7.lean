/-
  Replacing the winner's key, by the program.
-/
import Derived.Test.YtjlfkgffgnkflaaD6
namespace Go.Proofs.Ytjlfkgffgnkflaa
open Av Lz

theorem fnOk_lRepl : FnOk Try.prog 21 Try.f21 := ⟨by rfl, by kernel_rfl, by
  show okCode _ _ = true ∧ drawsOk _ = true
  exact ⟨by kernel_rfl, by kernel_rfl⟩⟩
noncomputable def cx9 : Cx := ⟨tb, [(29, Try.f29), (40, Try.f40)], [(33, spOpen), (25, spRight), (35, spCloneK), (36, spCloneI)]⟩
theorem specs9 : SpecsOk Try.prog cx9.specs := .cons lOpen_ok (.cons lCheck_ok (.consF cloneK_ok (.consF cloneI_ok .nil)))
theorem fns9 : FnsOk Try.prog cx9.fns := .cons fnOk_judge (.cons fnOk_judge1 .nil)
theorem set_get {α : Type} {l : List α} {i : Nat} {x : α} (h : l[i]? = some x) : l.set i x = l := by
  apply List.ext_getElem? 
  intro j
  by_cases hj : i = j
  · subst hj
    rw [List.getElem?_set_self (List.getElem?_eq_some_iff.1 h).1, h]
  · rw [List.getElem?_set_ne hj]
theorem right_one (k : keyT.El) : rightE [k] = if badK k = true then 2 else 0 := by
  simp [rightE]
def hpR (ks : List keyT.El) (k : ByteArray) (d : Bool) (q : Nat) (ks' : List keyT.El) (lo' : List intT.El) (w' : Int) : Hp := [.cells 27 [.lst keyT ks, .lst intT (loseL ks), .int .i64 q], .cells 39 [.str k, .bool d], .cells 27 [.own 6 0 ks.length, .own 9 0 (loseL ks).length, .int .i64 w'], .arr 39 keyT [(k, d, ())] false 0, .resv, .resv, .arr 39 keyT ks' false 0, .resv, .resv, .arr 3 intT lo' false 0, .cells 22 [.own 6 0 ks.length]]
set_option maxRecDepth 100000 in
set_option maxHeartbeats 8000000 in
theorem lRepl_ok : SpecOk Try.prog 21 spRepl := by
  refine spec_body (C := cx9) mixed tbOk specs9 (callN_ok (C := cx9) mixed tbOk specs9 fns9 2) fnOk_lRepl ?_
  intro ys p r h hp
  unfold spRepl at h
  split at h
  · rename_i ks lo w k d
    cases h
    by_cases hc : opE ks lo w = 0
    · obtain ⟨q, hw, hq, hwin⟩ := win_lt (op_zero hc).1
      subst hw
      obtain ⟨h0, hlo, _⟩ := chk_zero (op_zero hc).1
      obtain ⟨h1, h2, h3⟩ := rightE_ok h0
      subst hlo
      obtain ⟨x, hx⟩ : ∃ x, ks[q]? = some x := ⟨_, List.getElem?_eq_getElem hq⟩
      have hre : repE ks (loseL ks) q (mkK k d) = if badK (mkK k d) = true then 2 else if (!d && sLt k x.1) = true then 6 else 0 := by
        rw [repE, if_neg (by omega), keyAt_get hx]
      have hr1 : rightE (List.take 1 [(k, d, ())]) = if badK (mkK k d) = true then 2 else 0 := right_one (mkK k d)
      cases hb : badK (mkK k d) with
      | true =>
        rw [if_pos hb] at hre hr1
        rw [hre]
        conv => whnf
        repeat' first
          | (refine idx_kn (by assumption) ?_; conv => whnf)
          | (refine idx_ki (by assumption) (by omega) ?_; conv => whnf)
          | (refine br_true (by first | with_reducible exact rfl | assumption | decide) ?_; conv => whnf)
          | (refine br_false (by first | with_reducible exact rfl | assumption | decide) ?_; conv => whnf)
          | ((with_reducible refine br_kt (by assumption) ?_); conv => whnf)
          | ((with_reducible refine br_kf (by assumption) ?_); conv => whnf)
          | ((with_reducible refine br_nt (by assumption) ?_); conv => whnf)
          | ((with_reducible refine br_nf (by assumption) ?_); conv => whnf)
          | ((with_reducible refine br_et (by assumption) ?_); conv => whnf)
          | ((with_reducible refine br_ef (by assumption) ?_); conv => whnf)
          | ((with_reducible refine br_dec (fun h => ?_) (fun h => ?_)) <;> first | (exfalso; omega) | conv => whnf)
          | ((with_reducible refine br_ndec (fun h => ?_) (fun h => ?_)) <;> first | (exfalso; omega) | conv => whnf)
          | ((with_reducible refine br_ne (fun h => ?_) (fun h => ?_)) <;> first | (exfalso; omega) | conv => whnf)
          | ((with_reducible refine br_eq (fun h => ?_) (fun h => ?_)) <;> first | (exfalso; omega) | conv => whnf)
          | (refine br_intro (fun h => ?_) (fun h => ?_) <;> conv => whnf)
          | (refine need_in (by first | exact trivial | assumption | exact ⟨rfl, Nat.le_refl _⟩ | exact ⟨rfl, rfl⟩ | (simp only [inR]; omega) | omega | (simp only [roomP, true_and, and_true, List.length_take, List.length_drop, List.length_append, List.length_cons, List.length_nil, List.length_set, List.length_replicate]; omega) | (refine ⟨by first | exact trivial | rfl, by first | exact Nat.le_refl _ | omega, ?_⟩; change roomP _ _ 1; simp only [roomP]; omega) | (change roomP _ _ 1; simp only [roomP]; omega) | (simp; omega) | (simp [inR]; omega) | (simp [inR]; done) | decide | (simp; done)) ?_; conv => whnf)
          | (refine idx_nat (by omega) (fun x hx => ?_); conv => whnf)
          | (refine frz_auto ?_; conv => whnf)
          | (refine draw_plain ?_; conv => whnf)
          | (refine idx_intro (by omega) (by omega) (fun x hx => ?_); conv => whnf)
          | (refine idx_intro (by first | omega | (simp; omega) | (simp; done)) (by first | omega | (simp; omega) | (simp; done)) (fun x hx => ?_); conv => whnf)
          | fail
        rw [hr1]
        rfl
      | false =>
        rw [hb] at hre hr1
        simp only [Bool.false_eq_true, if_false] at hre hr1
        cases hd : (!d && sLt k x.1) with
        | true =>
          rw [if_pos hd] at hre
          rw [hre]
          rw [Bool.and_eq_true] at hd
          obtain ⟨hd1, hd2⟩ := hd
          conv => whnf
          repeat' first
            | (refine idx_kn (by assumption) ?_; conv => whnf)
            | (refine idx_ki (by assumption) (by omega) ?_; conv => whnf)
            | (refine br_true (by first | with_reducible exact rfl | assumption | decide) ?_; conv => whnf)
            | (refine br_false (by first | with_reducible exact rfl | assumption | decide) ?_; conv => whnf)
            | ((with_reducible refine br_kt (by assumption) ?_); conv => whnf)
            | ((with_reducible refine br_kf (by assumption) ?_); conv => whnf)
            | ((with_reducible refine br_nt (by assumption) ?_); conv => whnf)
            | ((with_reducible refine br_nf (by assumption) ?_); conv => whnf)
            | ((with_reducible refine br_et (by assumption) ?_); conv => whnf)
            | ((with_reducible refine br_ef (by assumption) ?_); conv => whnf)
            | ((with_reducible refine br_dec (fun h => ?_) (fun h => ?_)) <;> first | (exfalso; omega) | conv => whnf)
            | ((with_reducible refine br_ndec (fun h => ?_) (fun h => ?_)) <;> first | (exfalso; omega) | conv => whnf)
            | ((with_reducible refine br_ne (fun h => ?_) (fun h => ?_)) <;> first | (exfalso; omega) | conv => whnf)
            | ((with_reducible refine br_eq (fun h => ?_) (fun h => ?_)) <;> first | (exfalso; omega) | conv => whnf)
            | (refine br_intro (fun h => ?_) (fun h => ?_) <;> conv => whnf)
            | (refine need_in (by first | exact trivial | assumption | exact ⟨rfl, Nat.le_refl _⟩ | exact ⟨rfl, rfl⟩ | (simp only [inR]; omega) | omega | (simp only [roomP, true_and, and_true, List.length_take, List.length_drop, List.length_append, List.length_cons, List.length_nil, List.length_set, List.length_replicate]; omega) | (refine ⟨by first | exact trivial | rfl, by first | exact Nat.le_refl _ | omega, ?_⟩; change roomP _ _ 1; simp only [roomP]; omega) | (change roomP _ _ 1; simp only [roomP]; omega) | (simp; omega) | (simp [inR]; omega) | (simp [inR]; done) | decide | (simp; done)) ?_; conv => whnf)
            | (refine idx_nat (by omega) (fun x hx => ?_); conv => whnf)
            | (refine frz_auto ?_; conv => whnf)
            | (refine draw_plain ?_; conv => whnf)
            | (refine idx_intro (by omega) (by omega) (fun x hx => ?_); conv => whnf)
            | (refine idx_intro (by first | omega | (simp; omega) | (simp; done)) (by first | omega | (simp; omega) | (simp; done)) (fun x hx => ?_); conv => whnf)
            | fail
          all_goals rfl
        | false =>
          rw [hd] at hre
          simp only [Bool.false_eq_true, if_false] at hre
          simp only [hre, rep0, if_true, Int.toNat_natCast]
          have hlen : (ks.set q (mkK k d)).length = ks.length := List.length_set ..
          have hll := loseL_len ks
          have hp1 : 1 ≤ (loseL ks).length ∧ (loseL ks).length ≤ 1000 := by omega
          have hp2 : 1 ≤ ks.length ∧ ks.length ≤ 1000 := by omega
          have dead : ∀ {P : Prop}, d = false → sLt k x.1 = true → P := by
            intro P e1 e2
            rw [e1, e2] at hd
            cases hd
          conv => whnf
          repeat' first
            | (refine idx_kn (by assumption) ?_; conv => whnf)
            | (refine idx_ki (by assumption) (by omega) ?_; conv => whnf)
            | (refine br_true (by first | with_reducible exact rfl | assumption | decide) ?_; conv => whnf)
            | (refine br_false (by first | with_reducible exact rfl | assumption | decide) ?_; conv => whnf)
            | ((with_reducible refine br_kt (by assumption) ?_); conv => whnf)
            | ((with_reducible refine br_kf (by assumption) ?_); conv => whnf)
            | ((with_reducible refine br_nt (by assumption) ?_); conv => whnf)
            | ((with_reducible refine br_nf (by assumption) ?_); conv => whnf)
            | ((with_reducible refine br_et (by assumption) ?_); conv => whnf)
            | ((with_reducible refine br_ef (by assumption) ?_); conv => whnf)
            | ((with_reducible refine br_dec (fun h => ?_) (fun h => ?_)) <;> first | (exfalso; omega) | conv => whnf)
            | ((with_reducible refine br_ndec (fun h => ?_) (fun h => ?_)) <;> first | (exfalso; omega) | conv => whnf)
            | ((with_reducible refine br_ne (fun h => ?_) (fun h => ?_)) <;> first | (exfalso; omega) | conv => whnf)
            | ((with_reducible refine br_eq (fun h => ?_) (fun h => ?_)) <;> first | (exfalso; omega) | conv => whnf)
            | (refine br_intro (fun h => ?_) (fun h => ?_) <;> conv => whnf)
            | (refine need_in (by first | exact trivial | assumption | exact ⟨rfl, Nat.le_refl _⟩ | exact ⟨rfl, rfl⟩ | (simp only [inR]; omega) | omega | (simp only [roomP, true_and, and_true, List.length_take, List.length_drop, List.length_append, List.length_cons, List.length_nil, List.length_set, List.length_replicate]; omega) | (refine ⟨by first | exact trivial | rfl, by first | exact Nat.le_refl _ | omega, ?_⟩; change roomP _ _ 1; simp only [roomP]; omega) | (change roomP _ _ 1; simp only [roomP]; omega) | (simp; omega) | (simp [inR]; omega) | (simp [inR]; done) | decide | (simp; done)) ?_; conv => whnf)
            | (refine idx_nat (by omega) (fun x hx => ?_); conv => whnf)
            | (refine frz_auto ?_; conv => whnf)
            | (refine draw_plain ?_; conv => whnf)
            | (refine idx_intro (by omega) (by omega) (fun x hx => ?_); conv => whnf)
            | (refine idx_intro (by first | omega | (simp; omega) | (simp; done)) (by first | omega | (simp; omega) | (simp; done)) (fun x hx => ?_); conv => whnf)
            | fail
          · exact dead (by simpa using ‹(!d) = true›) h
          all_goals
            have hqn : q < ks.length := hq
            have hl' := LOm_len ks (ks.set q (mkK k d))
            refine loop_inv [] [5, 10] (fun vs h => ∃ g v e : Nat, vs = [.int .i64 (g : Int), .int .i64 (v : Int)] ∧ h = hpR ks k d q (ks.set q (mkK k d)) (LOm ks (ks.set q (mkK k d)) v) ((pl (ks.set q (mkK k d)) v).1 : Int) ∧ (ks.length + q) / 2 ^ e = v ∧ 1 ≤ v ∧ g + gm v = gm (ks.length + q)) (fun vs _ => match vs with | [_, .int _ k] => k.toNat | _ => 0) ?_
            refine ⟨⟨0, ks.length + q, 0, ?_, ?_, by simp, by omega, by omega⟩, ?_⟩
            · rw [show ((ks.length + q : Nat) : Int) = (ks.length : Int) + (q : Int) by omega]
              rfl
            · rw [LOm_top ks _ (by omega), pl_leaf (by omega)]
              simp only [hlen, Nat.add_sub_cancel_left]
              rfl
            rintro vs h' - ⟨g, v, e, rfl, rfl, he, hv1, hs⟩
            unfold hpR
            have hvn : v ≤ ks.length + q := by
              rw [← he]
              exact Nat.div_le_self _ _
            have hgm := gm_pow _ _ (Nat.le_refl _) (show 1 ≤ ks.length + q by omega)
            have hg9 : g ≤ 1000 := by
              have : gm (ks.length + q) < 2 ^ gm (ks.length + q) := Nat.lt_two_pow_self
              omega
            have hl := hl' v
            have hdv : (v : Int) / 2 = ((v / 2 : Nat) : Int) := by omega
            by_cases hv2 : 2 ≤ v
            · have hstep := gm_succ (m := v) (by omega)
              have hwg := way_game (ks := ks) (k := mkK k d) hwin.symm h1 he hv2
              have hset := LOm_set (ks := ks) (k := mkK k d) hqn he hv2
              have hgl := LOm_get ks (ks.set q (mkK k d)) (v := v) (j := v / 2) (by omega) (by omega) (by omega)
              have hp2l := pl_lt2 (ks := ks) (node := v / 2) (by omega) (by omega)
              have hr1l := pl_lt1 (ks := ks.set q (mkK k d)) (node := v) (by omega) (by omega)
              obtain ⟨a, ha⟩ : ∃ a, a = (pl ks (v / 2)).2 := ⟨_, rfl⟩
              obtain ⟨b, hb2⟩ : ∃ b, b = (pl (ks.set q (mkK k d)) v).1 := ⟨_, rfl⟩
              rw [← ha] at hgl hp2l hwg
              rw [← hb2] at hr1l hwg ⊢
              obtain ⟨y, hy⟩ : ∃ y, (ks.set q (mkK k d))[a]? = some y := ⟨_, List.getElem?_eq_getElem (by omega)⟩
              obtain ⟨z, hz⟩ : ∃ z, (ks.set q (mkK k d))[b]? = some z := ⟨_, List.getElem?_eq_getElem (by omega)⟩
              have hwb : winB (ks.set q (mkK k d)) a b = beatE y z a b := by
                simp only [winB, hy, hz]
              conv => whnf
              rw [hdv]
              have finT : winB (ks.set q (mkK k d)) a b = true → hpR ks k d q (ks.set q (mkK k d)) ((LOm ks (ks.set q (mkK k d)) v).set (v / 2) (b : Int)) (a : Int) = hpR ks k d q (ks.set q (mkK k d)) (LOm ks (ks.set q (mkK k d)) (v / 2)) ((pl (ks.set q (mkK k d)) (v / 2)).1 : Int) := by
                intro hwin
                rw [if_pos hwin] at hwg
                rw [← hset, hwg]
              have finF : winB (ks.set q (mkK k d)) a b = false → hpR ks k d q (ks.set q (mkK k d)) (LOm ks (ks.set q (mkK k d)) v) (b : Int) = hpR ks k d q (ks.set q (mkK k d)) (LOm ks (ks.set q (mkK k d)) (v / 2)) ((pl (ks.set q (mkK k d)) (v / 2)).1 : Int) := by
                intro hwin
                rw [if_neg (by rw [hwin]; decide)] at hwg
                rw [← hset, hwg, set_get hgl]
              clear hwg hset
              repeat' first
                | (refine idx_kn (by assumption) ?_; conv => whnf)
                | (refine idx_ki (by assumption) (by omega) ?_; conv => whnf)
                | (refine br_true (by first | with_reducible exact rfl | assumption | decide) ?_; conv => whnf)
                | (refine br_false (by first | with_reducible exact rfl | assumption | decide) ?_; conv => whnf)
                | ((with_reducible refine br_kt (by assumption) ?_); conv => whnf)
                | ((with_reducible refine br_kf (by assumption) ?_); conv => whnf)
                | ((with_reducible refine br_nt (by assumption) ?_); conv => whnf)
                | ((with_reducible refine br_nf (by assumption) ?_); conv => whnf)
                | ((with_reducible refine br_et (by assumption) ?_); conv => whnf)
                | ((with_reducible refine br_ef (by assumption) ?_); conv => whnf)
                | ((with_reducible refine br_dec (fun h => ?_) (fun h => ?_)) <;> first | (exfalso; omega) | conv => whnf)
                | ((with_reducible refine br_ndec (fun h => ?_) (fun h => ?_)) <;> first | (exfalso; omega) | conv => whnf)
                | ((with_reducible refine br_ne (fun h => ?_) (fun h => ?_)) <;> first | (exfalso; omega) | conv => whnf)
                | ((with_reducible refine br_eq (fun h => ?_) (fun h => ?_)) <;> first | (exfalso; omega) | conv => whnf)
                | (refine br_intro (fun h => ?_) (fun h => ?_) <;> conv => whnf)
                | (refine need_in (by first | exact trivial | assumption | exact ⟨rfl, Nat.le_refl _⟩ | exact ⟨rfl, rfl⟩ | (simp only [inR]; omega) | omega | (simp only [roomP, true_and, and_true, List.length_take, List.length_drop, List.length_append, List.length_cons, List.length_nil, List.length_set, List.length_replicate]; omega) | (refine ⟨by first | exact trivial | rfl, by first | exact Nat.le_refl _ | omega, ?_⟩; change roomP _ _ 1; simp only [roomP]; omega) | (change roomP _ _ 1; simp only [roomP]; omega) | (simp; omega) | (simp [inR]; omega) | (simp [inR]; done) | decide | (simp; done)) ?_; conv => whnf)
                | (refine idx_nat (by omega) (fun x hx => ?_); conv => whnf)
                | (refine frz_auto ?_; conv => whnf)
                | (refine draw_plain ?_; conv => whnf)
                | (refine idx_intro (by omega) (by omega) (fun x hx => ?_); conv => whnf)
                | (refine idx_intro (by first | omega | (simp; omega) | (simp; done)) (by first | omega | (simp; omega) | (simp; done)) (fun x hx => ?_); conv => whnf)
                | fail
              all_goals
                refine back_intro (by conv => whnf) rfl ⟨g + 1, v / 2, e + 1, rfl, ?_, way_up he, by omega, by omega⟩ ?_
                · clear hstep hgm hs
                  first
                    | (refine finT ?_; rw [hwb, beatE]; clear finT finF; simp_all; done)
                    | (refine finF ?_; rw [hwb, beatE]; clear finT finF; simp_all; done)
                    | (refine finT ?_; rw [hwb, beatE]; clear finT finF; simp_all; omega)
                    | (refine finF ?_; rw [hwb, beatE]; clear finT finF; simp_all; omega)
                · show ((v / 2 : Nat) : Int).toNat < (v : Int).toNat
                  omega
            · have hv1 : v = 1 := by omega
              subst hv1
              have e1 := LOm_one ks (ks.set q (mkK k d)) hlen
              have hgs : g = gm (ks.length + q) := hs
              have htk : List.take ks.length (ks.set q (mkK k d)) = ks.set q (mkK k d) := List.take_of_length_le (by omega)
              have htl : List.take (loseL ks).length (LOm ks (ks.set q (mkK k d)) 1) = LOm ks (ks.set q (mkK k d)) 1 := List.take_of_length_le (by omega)
              conv => whnf
              repeat' first
                | (refine idx_kn (by assumption) ?_; conv => whnf)
                | (refine idx_ki (by assumption) (by omega) ?_; conv => whnf)
                | (refine br_true (by first | with_reducible exact rfl | assumption | decide) ?_; conv => whnf)
                | (refine br_false (by first | with_reducible exact rfl | assumption | decide) ?_; conv => whnf)
                | ((with_reducible refine br_kt (by assumption) ?_); conv => whnf)
                | ((with_reducible refine br_kf (by assumption) ?_); conv => whnf)
                | ((with_reducible refine br_nt (by assumption) ?_); conv => whnf)
                | ((with_reducible refine br_nf (by assumption) ?_); conv => whnf)
                | ((with_reducible refine br_et (by assumption) ?_); conv => whnf)
                | ((with_reducible refine br_ef (by assumption) ?_); conv => whnf)
                | ((with_reducible refine br_dec (fun h => ?_) (fun h => ?_)) <;> first | (exfalso; omega) | conv => whnf)
                | ((with_reducible refine br_ndec (fun h => ?_) (fun h => ?_)) <;> first | (exfalso; omega) | conv => whnf)
                | ((with_reducible refine br_ne (fun h => ?_) (fun h => ?_)) <;> first | (exfalso; omega) | conv => whnf)
                | ((with_reducible refine br_eq (fun h => ?_) (fun h => ?_)) <;> first | (exfalso; omega) | conv => whnf)
                | (refine br_intro (fun h => ?_) (fun h => ?_) <;> conv => whnf)
                | (refine need_in (by first | exact trivial | assumption | exact ⟨rfl, Nat.le_refl _⟩ | exact ⟨rfl, rfl⟩ | (simp only [inR]; omega) | omega | (simp only [roomP, true_and, and_true, List.length_take, List.length_drop, List.length_append, List.length_cons, List.length_nil, List.length_set, List.length_replicate]; omega) | (refine ⟨by first | exact trivial | rfl, by first | exact Nat.le_refl _ | omega, ?_⟩; change roomP _ _ 1; simp only [roomP]; omega) | (change roomP _ _ 1; simp only [roomP]; omega) | (simp; omega) | (simp [inR]; omega) | (simp [inR]; done) | decide | (simp; done)) ?_; conv => whnf)
                | (refine idx_nat (by omega) (fun x hx => ?_); conv => whnf)
                | (refine frz_auto ?_; conv => whnf)
                | (refine draw_plain ?_; conv => whnf)
                | (refine idx_intro (by omega) (by omega) (fun x hx => ?_); conv => whnf)
                | (refine idx_intro (by first | omega | (simp; omega) | (simp; done)) (by first | omega | (simp; omega) | (simp; done)) (fun x hx => ?_); conv => whnf)
                | fail
              rw [htk, htl, e1, hgs]
              rfl
    · have hre : repE ks lo w (mkK k d) = opE ks lo w := by rw [repE, if_pos hc]
      simp only [hre, rep0, if_neg hc]
      conv => whnf
      repeat' first
        | (refine br_true (by first | with_reducible exact rfl | assumption | decide) ?_; conv => whnf)
        | (refine br_false (by first | with_reducible exact rfl | assumption | decide) ?_; conv => whnf)
        | ((with_reducible refine br_kt (by assumption) ?_); conv => whnf)
        | ((with_reducible refine br_kf (by assumption) ?_); conv => whnf)
        | ((with_reducible refine br_nt (by assumption) ?_); conv => whnf)
        | ((with_reducible refine br_nf (by assumption) ?_); conv => whnf)
        | ((with_reducible refine br_et (by assumption) ?_); conv => whnf)
        | ((with_reducible refine br_ef (by assumption) ?_); conv => whnf)
        | ((with_reducible refine br_dec (fun h => ?_) (fun h => ?_)) <;> first | (exfalso; omega) | conv => whnf)
        | ((with_reducible refine br_ndec (fun h => ?_) (fun h => ?_)) <;> first | (exfalso; omega) | conv => whnf)
        | ((with_reducible refine br_ne (fun h => ?_) (fun h => ?_)) <;> first | (exfalso; omega) | conv => whnf)
        | ((with_reducible refine br_eq (fun h => ?_) (fun h => ?_)) <;> first | (exfalso; omega) | conv => whnf)
        | (refine br_intro (fun h => ?_) (fun h => ?_) <;> conv => whnf)
        | (refine need_in (by first | exact trivial | assumption | exact ⟨rfl, Nat.le_refl _⟩ | exact ⟨rfl, rfl⟩ | (simp only [inR]; omega) | omega | (simp only [roomP, true_and, and_true, List.length_take, List.length_drop, List.length_append, List.length_cons, List.length_nil, List.length_set, List.length_replicate]; omega) | (refine ⟨by first | exact trivial | rfl, by first | exact Nat.le_refl _ | omega, ?_⟩; change roomP _ _ 1; simp only [roomP]; omega) | (change roomP _ _ 1; simp only [roomP]; omega) | (simp; omega) | (simp [inR]; omega) | (simp [inR]; done) | decide | (simp; done)) ?_; conv => whnf)
        | (refine idx_nat (by omega) (fun x hx => ?_); conv => whnf)
        | (refine frz_auto ?_; conv => whnf)
        | (refine draw_plain ?_; conv => whnf)
        | (refine idx_intro (by omega) (by omega) (fun x hx => ?_); conv => whnf)
        | (refine idx_intro (by first | omega | (simp; omega) | (simp; done)) (by first | omega | (simp; omega) | (simp; done)) (fun x hx => ?_); conv => whnf)
        | fail
  · cases h
end Go.Proofs.Ytjlfkgffgnkflaa
