/-
  Replacing the winner's key, by both.
-/
import Derived.Test.YtjlfkgffgnkflaaDb
import Derived.Test.YtjlfkgffgnkflaaDe
namespace Go.Proofs.Ytjlfkgffgnkflaa
open Av Lz

abbrev mkK (k : ByteArray) (d : Bool) : keyT.El := (k, d, ())
def repE (ks : List keyT.El) (lo : List intT.El) (w : Int) (k : keyT.El) : Int :=
  if opE ks lo w ≠ 0 then opE ks lo w else if badK k = true then 2 else if (!k.2.1 && sLt k.1 (keyAt ks w).1) = true then 6 else 0
def rep0 (e : Int) {α : Type} (a b : α) : α := if e = 0 then a else b
def spRepl : DSpec
  | [.agg [.lst (.st [.str, .bool]) ks, .lst (.int .i64) lo, .int .i64 w], .agg [.str k, .bool d]] => some (True, .tup [.agg [.lst keyT (rep0 (repE ks lo w (mkK k d)) (ks.set w.toNat (mkK k d)) []), .lst intT (rep0 (repE ks lo w (mkK k d)) (loseL (ks.set w.toNat (mkK k d))) []), .int .i64 (rep0 (repE ks lo w (mkK k d)) (winI (ks.set w.toNat (mkK k d))) 0)], .int .i64 (rep0 (repE ks lo w (mkK k d)) ((gm (ks.length + w.toNat) : Nat) : Int) 0), .int .i64 (repE ks lo w (mkK k d))])
  | _ => none
theorem okK_of {k : keyT.El} (h : badK k = false) : okK k := by
  intro hd
  unfold badK at h
  rw [hd] at h
  simpa using h
theorem right_set {ks : List keyT.El} {k : keyT.El} {q : Nat} (h : okKs ks) (hk : okK k) : okKs (ks.set q k) := by
  intro x hx
  rcases List.mem_or_eq_of_mem_set hx with h1 | h1
  · exact h x h1
  · rw [h1]; exact hk
theorem fnOk_rRepl : FnOk Try.prog 22 Try.f22 := ⟨by rfl, by kernel_rfl, by
  show okCode _ _ = true ∧ drawsOk _ = true
  exact ⟨by kernel_rfl, by kernel_rfl⟩⟩
noncomputable def cx8 : Cx := ⟨tb, [], [(34, spOpen), (28, spTree)]⟩
theorem specs8 : SpecsOk Try.prog cx8.specs := .cons rEnded_ok (.cons rTree_ok .nil)
set_option maxRecDepth 100000 in
set_option maxHeartbeats 4000000 in
theorem rRepl_ok : SpecOk Try.prog 22 spRepl := by
  refine spec_body (C := cx8) mixed tbOk specs8 (callN_ok (C := cx8) mixed tbOk specs8 FnsOk.nil 0) fnOk_rRepl ?_
  intro ys p r h hp
  unfold spRepl at h
  split at h
  · rename_i ks lo w k d
    cases h
    by_cases hc : opE ks lo w = 0
    · obtain ⟨q, hw, hq, hwin⟩ := win_lt (op_zero hc).1
      subst hw
      obtain ⟨h1, h2, h3⟩ := rightE_ok (chk_zero (op_zero hc).1).1
      obtain ⟨x, hx⟩ : ∃ x, ks[q]? = some x := ⟨_, List.getElem?_eq_getElem hq⟩
      have hre : repE ks lo q (mkK k d) = if badK (mkK k d) = true then 2 else if (!d && sLt k x.1) = true then 6 else 0 := by
        rw [repE, if_neg (by omega), keyAt_get hx]
      by_cases hb : badK (mkK k d) = true
      · rw [if_pos hb] at hre
        have hb' : (d && !sEq k ⟨#[]⟩) = true := hb
        rw [Bool.and_eq_true] at hb'
        obtain ⟨rfl, hb2⟩ := hb'
        rw [hre]
        conv => whnf
        repeat' first
          | (refine idx_kn (by assumption) ?_; conv => whnf)
          | (refine idx_ki (by assumption) (by omega) ?_; conv => whnf)
          | (refine br_true (by first | with_reducible exact rfl | assumption | decide) ?_; conv => whnf)
          | (refine br_false (by first | with_reducible exact rfl | assumption | decide) ?_; conv => whnf)
          | ((with_reducible refine br_kt (by assumption) ?_); conv => whnf)
          | ((with_reducible refine br_kf (by assumption) ?_); conv => whnf)
          | ((with_reducible refine br_nt (by assumption) ?_); conv => whnf)
          | ((with_reducible refine br_nf (by assumption) ?_); conv => whnf)
          | ((with_reducible refine br_et (by assumption) ?_); conv => whnf)
          | ((with_reducible refine br_ef (by assumption) ?_); conv => whnf)
          | ((with_reducible refine br_dec (fun h => ?_) (fun h => ?_)) <;> first | (exfalso; omega) | conv => whnf)
          | ((with_reducible refine br_ndec (fun h => ?_) (fun h => ?_)) <;> first | (exfalso; omega) | conv => whnf)
          | ((with_reducible refine br_ne (fun h => ?_) (fun h => ?_)) <;> first | (exfalso; omega) | conv => whnf)
          | ((with_reducible refine br_eq (fun h => ?_) (fun h => ?_)) <;> first | (exfalso; omega) | conv => whnf)
          | (refine br_intro (fun h => ?_) (fun h => ?_) <;> conv => whnf)
          | (refine need_in (by first | exact trivial | assumption | exact ⟨rfl, Nat.le_refl _⟩ | exact ⟨rfl, rfl⟩ | (simp only [inR]; omega) | omega | (simp only [roomP, true_and, and_true, List.length_take, List.length_drop, List.length_append, List.length_cons, List.length_nil, List.length_set, List.length_replicate]; omega) | (refine ⟨by first | exact trivial | rfl, by first | exact Nat.le_refl _ | omega, ?_⟩; change roomP _ _ 1; simp only [roomP]; omega) | (change roomP _ _ 1; simp only [roomP]; omega) | (simp; omega) | (simp [inR]; omega) | (simp [inR]; done) | decide | (simp; done)) ?_; conv => whnf)
          | (refine idx_nat (by omega) (fun x hx => ?_); conv => whnf)
          | (refine frz_auto ?_; conv => whnf)
          | (refine draw_plain ?_; conv => whnf)
          | (refine idx_intro (by omega) (by omega) (fun x hx => ?_); conv => whnf)
          | (refine idx_intro (by first | omega | (simp; omega) | (simp; done)) (by first | omega | (simp; omega) | (simp; done)) (fun x hx => ?_); conv => whnf)
          | fail
        rfl
      · rw [if_neg hb] at hre
        have hb : badK (mkK k d) = false := by simpa using hb
        have hok := right_set (q := q) h3 (okK_of hb)
        have hlen : (ks.set q (mkK k d)).length = ks.length := List.length_set ..
        have hpre : okKs (ks.set q (mkK k d)) ∧ 1 ≤ (ks.set q (mkK k d)).length ∧ (ks.set q (mkK k d)).length ≤ 32 := ⟨hok, by omega, by omega⟩
        have htk : List.take ks.length (ks.set q (mkK k d)) = ks.set q (mkK k d) := List.take_of_length_le (by omega)
        have hpre2 : okKs (List.take (0 + ks.length) (ks.set q (mkK k d))) ∧ 1 ≤ (List.take (0 + ks.length) (ks.set q (mkK k d))).length ∧ (List.take (0 + ks.length) (ks.set q (mkK k d))).length ≤ 32 := by
          rw [Nat.zero_add, htk]
          exact hpre
        cases d with
        | true =>
          have hre : repE ks lo q (mkK k true) = 0 := hre
          have hb2 : (!sEq k ⟨#[]⟩) = false := hb
          simp only [hre, rep0, if_true, Int.toNat_natCast]
          conv => whnf
          repeat' first
            | (refine idx_kn (by assumption) ?_; conv => whnf)
            | (refine idx_ki (by assumption) (by omega) ?_; conv => whnf)
            | (refine br_true (by first | with_reducible exact rfl | assumption | decide) ?_; conv => whnf)
            | (refine br_false (by first | with_reducible exact rfl | assumption | decide) ?_; conv => whnf)
            | ((with_reducible refine br_kt (by assumption) ?_); conv => whnf)
            | ((with_reducible refine br_kf (by assumption) ?_); conv => whnf)
            | ((with_reducible refine br_nt (by assumption) ?_); conv => whnf)
            | ((with_reducible refine br_nf (by assumption) ?_); conv => whnf)
            | ((with_reducible refine br_et (by assumption) ?_); conv => whnf)
            | ((with_reducible refine br_ef (by assumption) ?_); conv => whnf)
            | ((with_reducible refine br_dec (fun h => ?_) (fun h => ?_)) <;> first | (exfalso; omega) | conv => whnf)
            | ((with_reducible refine br_ndec (fun h => ?_) (fun h => ?_)) <;> first | (exfalso; omega) | conv => whnf)
            | ((with_reducible refine br_ne (fun h => ?_) (fun h => ?_)) <;> first | (exfalso; omega) | conv => whnf)
            | ((with_reducible refine br_eq (fun h => ?_) (fun h => ?_)) <;> first | (exfalso; omega) | conv => whnf)
            | (refine br_intro (fun h => ?_) (fun h => ?_) <;> conv => whnf)
            | (refine need_in (by first | exact trivial | assumption | exact ⟨rfl, Nat.le_refl _⟩ | exact ⟨rfl, rfl⟩ | (simp only [inR]; omega) | omega | (simp only [roomP, true_and, and_true, List.length_take, List.length_drop, List.length_append, List.length_cons, List.length_nil, List.length_set, List.length_replicate]; omega) | (refine ⟨by first | exact trivial | rfl, by first | exact Nat.le_refl _ | omega, ?_⟩; change roomP _ _ 1; simp only [roomP]; omega) | (change roomP _ _ 1; simp only [roomP]; omega) | (simp; omega) | (simp [inR]; omega) | (simp [inR]; done) | decide | (simp; done)) ?_; conv => whnf)
            | (refine idx_nat (by omega) (fun x hx => ?_); conv => whnf)
            | (refine frz_auto ?_; conv => whnf)
            | (refine draw_plain ?_; conv => whnf)
            | (refine idx_intro (by omega) (by omega) (fun x hx => ?_); conv => whnf)
            | (refine idx_intro (by first | omega | (simp; omega) | (simp; done)) (by first | omega | (simp; omega) | (simp; done)) (fun x hx => ?_); conv => whnf)
            | fail
          refine loop_inv [] [9, 10] (fun vs h => ∃ g i : Nat, vs = [.int .i64 (g : Int), .int .i64 (i : Int)] ∧ h = [.cells 27 [.lst keyT ks, .lst intT lo, .int .i64 q], .cells 39 [.str k, .bool true], .cells 27 [.zsl keyT, .zsl intT, .int .i64 0], .arr 39 keyT (ks.set q (mkK k true)) false 1] ∧ i ≤ 100 ∧ g ≤ 1000 - i ∧ g + gmX i = gm (ks.length + q)) (fun vs _ => match vs with | [_, .int _ k] => k.toNat | _ => 0) ?_
          refine ⟨⟨0, (ks.length + q) / 2, ?_, ?_, by omega, by omega, ?_⟩, ?_⟩
          · have e : (((ks.length + q) / 2 : Nat) : Int) = ((0 + ks.length : Nat) + (q : Int)) / 2 := by omega
            simp only [e]
            rfl
          · simp only [cast_self, List.take_zero, List.nil_append]
            rfl
          · rw [Nat.zero_add, gmX_half]
          rintro vs h' - ⟨g, i, rfl, rfl, hi, hg, hs⟩
          conv => whnf
          by_cases hi1 : 1 ≤ i
          · have hst := gmX_step hi1
            repeat' first
              | (refine idx_kn (by assumption) ?_; conv => whnf)
              | (refine idx_ki (by assumption) (by omega) ?_; conv => whnf)
              | (refine br_true (by first | with_reducible exact rfl | assumption | decide) ?_; conv => whnf)
              | (refine br_false (by first | with_reducible exact rfl | assumption | decide) ?_; conv => whnf)
              | ((with_reducible refine br_kt (by assumption) ?_); conv => whnf)
              | ((with_reducible refine br_kf (by assumption) ?_); conv => whnf)
              | ((with_reducible refine br_nt (by assumption) ?_); conv => whnf)
              | ((with_reducible refine br_nf (by assumption) ?_); conv => whnf)
              | ((with_reducible refine br_et (by assumption) ?_); conv => whnf)
              | ((with_reducible refine br_ef (by assumption) ?_); conv => whnf)
              | ((with_reducible refine br_dec (fun h => ?_) (fun h => ?_)) <;> first | (exfalso; omega) | conv => whnf)
              | ((with_reducible refine br_ndec (fun h => ?_) (fun h => ?_)) <;> first | (exfalso; omega) | conv => whnf)
              | ((with_reducible refine br_ne (fun h => ?_) (fun h => ?_)) <;> first | (exfalso; omega) | conv => whnf)
              | ((with_reducible refine br_eq (fun h => ?_) (fun h => ?_)) <;> first | (exfalso; omega) | conv => whnf)
              | (refine br_intro (fun h => ?_) (fun h => ?_) <;> conv => whnf)
              | (refine need_in (by first | exact trivial | assumption | exact ⟨rfl, Nat.le_refl _⟩ | exact ⟨rfl, rfl⟩ | (simp only [inR]; omega) | omega | (simp only [roomP, true_and, and_true, List.length_take, List.length_drop, List.length_append, List.length_cons, List.length_nil, List.length_set, List.length_replicate]; omega) | (refine ⟨by first | exact trivial | rfl, by first | exact Nat.le_refl _ | omega, ?_⟩; change roomP _ _ 1; simp only [roomP]; omega) | (change roomP _ _ 1; simp only [roomP]; omega) | (simp; omega) | (simp [inR]; omega) | (simp [inR]; done) | decide | (simp; done)) ?_; conv => whnf)
              | (refine idx_nat (by omega) (fun x hx => ?_); conv => whnf)
              | (refine frz_auto ?_; conv => whnf)
              | (refine draw_plain ?_; conv => whnf)
              | (refine idx_intro (by omega) (by omega) (fun x hx => ?_); conv => whnf)
              | (refine idx_intro (by first | omega | (simp; omega) | (simp; done)) (by first | omega | (simp; omega) | (simp; done)) (fun x hx => ?_); conv => whnf)
              | fail
            have e : (i : Int) / 2 = ((i / 2 : Nat) : Int) := by omega
            refine back_intro (by conv => whnf) rfl ⟨g + 1, i / 2, ?_, rfl, by omega, by omega, by omega⟩ ?_
            · rw [← e]; rfl
            · show ((i : Int) / 2).toNat < (i : Int).toNat
              rw [e]
              omega
          · have hi0 : i = 0 := by omega
            subst hi0
            have hg0 : g = gm (ks.length + q) := hs
            repeat' first
              | (refine idx_kn (by assumption) ?_; conv => whnf)
              | (refine idx_ki (by assumption) (by omega) ?_; conv => whnf)
              | (refine br_true (by first | with_reducible exact rfl | assumption | decide) ?_; conv => whnf)
              | (refine br_false (by first | with_reducible exact rfl | assumption | decide) ?_; conv => whnf)
              | ((with_reducible refine br_kt (by assumption) ?_); conv => whnf)
              | ((with_reducible refine br_kf (by assumption) ?_); conv => whnf)
              | ((with_reducible refine br_nt (by assumption) ?_); conv => whnf)
              | ((with_reducible refine br_nf (by assumption) ?_); conv => whnf)
              | ((with_reducible refine br_et (by assumption) ?_); conv => whnf)
              | ((with_reducible refine br_ef (by assumption) ?_); conv => whnf)
              | ((with_reducible refine br_dec (fun h => ?_) (fun h => ?_)) <;> first | (exfalso; omega) | conv => whnf)
              | ((with_reducible refine br_ndec (fun h => ?_) (fun h => ?_)) <;> first | (exfalso; omega) | conv => whnf)
              | ((with_reducible refine br_ne (fun h => ?_) (fun h => ?_)) <;> first | (exfalso; omega) | conv => whnf)
              | ((with_reducible refine br_eq (fun h => ?_) (fun h => ?_)) <;> first | (exfalso; omega) | conv => whnf)
              | (refine br_intro (fun h => ?_) (fun h => ?_) <;> conv => whnf)
              | (refine need_in (by first | exact trivial | assumption | exact ⟨rfl, Nat.le_refl _⟩ | exact ⟨rfl, rfl⟩ | (simp only [inR]; omega) | omega | (simp only [roomP, true_and, and_true, List.length_take, List.length_drop, List.length_append, List.length_cons, List.length_nil, List.length_set, List.length_replicate]; omega) | (refine ⟨by first | exact trivial | rfl, by first | exact Nat.le_refl _ | omega, ?_⟩; change roomP _ _ 1; simp only [roomP]; omega) | (change roomP _ _ 1; simp only [roomP]; omega) | (simp; omega) | (simp [inR]; omega) | (simp [inR]; done) | decide | (simp; done)) ?_; conv => whnf)
              | (refine idx_nat (by omega) (fun x hx => ?_); conv => whnf)
              | (refine frz_auto ?_; conv => whnf)
              | (refine draw_plain ?_; conv => whnf)
              | (refine idx_intro (by omega) (by omega) (fun x hx => ?_); conv => whnf)
              | (refine idx_intro (by first | omega | (simp; omega) | (simp; done)) (by first | omega | (simp; omega) | (simp; done)) (fun x hx => ?_); conv => whnf)
              | fail
            simp only [cast_self, Nat.zero_add, htk, hg0]
        | false =>
          cases hs : sLt k x.1 with
          | true =>
            rw [hs] at hre
            have hre : repE ks lo q (mkK k false) = 6 := hre
            rw [hre]
            conv => whnf
            repeat' first
              | (refine idx_kn (by assumption) ?_; conv => whnf)
              | (refine idx_ki (by assumption) (by omega) ?_; conv => whnf)
              | (refine br_true (by first | with_reducible exact rfl | assumption | decide) ?_; conv => whnf)
              | (refine br_false (by first | with_reducible exact rfl | assumption | decide) ?_; conv => whnf)
              | ((with_reducible refine br_kt (by assumption) ?_); conv => whnf)
              | ((with_reducible refine br_kf (by assumption) ?_); conv => whnf)
              | ((with_reducible refine br_nt (by assumption) ?_); conv => whnf)
              | ((with_reducible refine br_nf (by assumption) ?_); conv => whnf)
              | ((with_reducible refine br_et (by assumption) ?_); conv => whnf)
              | ((with_reducible refine br_ef (by assumption) ?_); conv => whnf)
              | ((with_reducible refine br_dec (fun h => ?_) (fun h => ?_)) <;> first | (exfalso; omega) | conv => whnf)
              | ((with_reducible refine br_ndec (fun h => ?_) (fun h => ?_)) <;> first | (exfalso; omega) | conv => whnf)
              | ((with_reducible refine br_ne (fun h => ?_) (fun h => ?_)) <;> first | (exfalso; omega) | conv => whnf)
              | ((with_reducible refine br_eq (fun h => ?_) (fun h => ?_)) <;> first | (exfalso; omega) | conv => whnf)
              | (refine br_intro (fun h => ?_) (fun h => ?_) <;> conv => whnf)
              | (refine need_in (by first | exact trivial | assumption | exact ⟨rfl, Nat.le_refl _⟩ | exact ⟨rfl, rfl⟩ | (simp only [inR]; omega) | omega | (simp only [roomP, true_and, and_true, List.length_take, List.length_drop, List.length_append, List.length_cons, List.length_nil, List.length_set, List.length_replicate]; omega) | (refine ⟨by first | exact trivial | rfl, by first | exact Nat.le_refl _ | omega, ?_⟩; change roomP _ _ 1; simp only [roomP]; omega) | (change roomP _ _ 1; simp only [roomP]; omega) | (simp; omega) | (simp [inR]; omega) | (simp [inR]; done) | decide | (simp; done)) ?_; conv => whnf)
              | (refine idx_nat (by omega) (fun x hx => ?_); conv => whnf)
              | (refine frz_auto ?_; conv => whnf)
              | (refine draw_plain ?_; conv => whnf)
              | (refine idx_intro (by omega) (by omega) (fun x hx => ?_); conv => whnf)
              | (refine idx_intro (by first | omega | (simp; omega) | (simp; done)) (by first | omega | (simp; omega) | (simp; done)) (fun x hx => ?_); conv => whnf)
              | fail
            rfl
          | false =>
            rw [hs] at hre
            have hre : repE ks lo q (mkK k false) = 0 := hre
            simp only [hre, rep0, if_true, Int.toNat_natCast]
            conv => whnf
            repeat' first
              | (refine idx_kn (by assumption) ?_; conv => whnf)
              | (refine idx_ki (by assumption) (by omega) ?_; conv => whnf)
              | (refine br_true (by first | with_reducible exact rfl | assumption | decide) ?_; conv => whnf)
              | (refine br_false (by first | with_reducible exact rfl | assumption | decide) ?_; conv => whnf)
              | ((with_reducible refine br_kt (by assumption) ?_); conv => whnf)
              | ((with_reducible refine br_kf (by assumption) ?_); conv => whnf)
              | ((with_reducible refine br_nt (by assumption) ?_); conv => whnf)
              | ((with_reducible refine br_nf (by assumption) ?_); conv => whnf)
              | ((with_reducible refine br_et (by assumption) ?_); conv => whnf)
              | ((with_reducible refine br_ef (by assumption) ?_); conv => whnf)
              | ((with_reducible refine br_dec (fun h => ?_) (fun h => ?_)) <;> first | (exfalso; omega) | conv => whnf)
              | ((with_reducible refine br_ndec (fun h => ?_) (fun h => ?_)) <;> first | (exfalso; omega) | conv => whnf)
              | ((with_reducible refine br_ne (fun h => ?_) (fun h => ?_)) <;> first | (exfalso; omega) | conv => whnf)
              | ((with_reducible refine br_eq (fun h => ?_) (fun h => ?_)) <;> first | (exfalso; omega) | conv => whnf)
              | (refine br_intro (fun h => ?_) (fun h => ?_) <;> conv => whnf)
              | (refine need_in (by first | exact trivial | assumption | exact ⟨rfl, Nat.le_refl _⟩ | exact ⟨rfl, rfl⟩ | (simp only [inR]; omega) | omega | (simp only [roomP, true_and, and_true, List.length_take, List.length_drop, List.length_append, List.length_cons, List.length_nil, List.length_set, List.length_replicate]; omega) | (refine ⟨by first | exact trivial | rfl, by first | exact Nat.le_refl _ | omega, ?_⟩; change roomP _ _ 1; simp only [roomP]; omega) | (change roomP _ _ 1; simp only [roomP]; omega) | (simp; omega) | (simp [inR]; omega) | (simp [inR]; done) | decide | (simp; done)) ?_; conv => whnf)
              | (refine idx_nat (by omega) (fun x hx => ?_); conv => whnf)
              | (refine frz_auto ?_; conv => whnf)
              | (refine draw_plain ?_; conv => whnf)
              | (refine idx_intro (by omega) (by omega) (fun x hx => ?_); conv => whnf)
              | (refine idx_intro (by first | omega | (simp; omega) | (simp; done)) (by first | omega | (simp; omega) | (simp; done)) (fun x hx => ?_); conv => whnf)
              | fail
            refine loop_inv [] [9, 10] (fun vs h => ∃ g i : Nat, vs = [.int .i64 (g : Int), .int .i64 (i : Int)] ∧ h = [.cells 27 [.lst keyT ks, .lst intT lo, .int .i64 q], .cells 39 [.str k, .bool false], .cells 27 [.zsl keyT, .zsl intT, .int .i64 0], .arr 39 keyT (ks.set q (mkK k false)) false 1] ∧ i ≤ 100 ∧ g ≤ 1000 - i ∧ g + gmX i = gm (ks.length + q)) (fun vs _ => match vs with | [_, .int _ k] => k.toNat | _ => 0) ?_
            refine ⟨⟨0, (ks.length + q) / 2, ?_, ?_, by omega, by omega, ?_⟩, ?_⟩
            · have e : (((ks.length + q) / 2 : Nat) : Int) = ((0 + ks.length : Nat) + (q : Int)) / 2 := by omega
              simp only [e]
              rfl
            · simp only [cast_self, List.take_zero, List.nil_append]
              rfl
            · rw [Nat.zero_add, gmX_half]
            rintro vs h' - ⟨g, i, rfl, rfl, hi, hg, hs⟩
            conv => whnf
            by_cases hi1 : 1 ≤ i
            · have hst := gmX_step hi1
              repeat' first
                | (refine idx_kn (by assumption) ?_; conv => whnf)
                | (refine idx_ki (by assumption) (by omega) ?_; conv => whnf)
                | (refine br_true (by first | with_reducible exact rfl | assumption | decide) ?_; conv => whnf)
                | (refine br_false (by first | with_reducible exact rfl | assumption | decide) ?_; conv => whnf)
                | ((with_reducible refine br_kt (by assumption) ?_); conv => whnf)
                | ((with_reducible refine br_kf (by assumption) ?_); conv => whnf)
                | ((with_reducible refine br_nt (by assumption) ?_); conv => whnf)
                | ((with_reducible refine br_nf (by assumption) ?_); conv => whnf)
                | ((with_reducible refine br_et (by assumption) ?_); conv => whnf)
                | ((with_reducible refine br_ef (by assumption) ?_); conv => whnf)
                | ((with_reducible refine br_dec (fun h => ?_) (fun h => ?_)) <;> first | (exfalso; omega) | conv => whnf)
                | ((with_reducible refine br_ndec (fun h => ?_) (fun h => ?_)) <;> first | (exfalso; omega) | conv => whnf)
                | ((with_reducible refine br_ne (fun h => ?_) (fun h => ?_)) <;> first | (exfalso; omega) | conv => whnf)
                | ((with_reducible refine br_eq (fun h => ?_) (fun h => ?_)) <;> first | (exfalso; omega) | conv => whnf)
                | (refine br_intro (fun h => ?_) (fun h => ?_) <;> conv => whnf)
                | (refine need_in (by first | exact trivial | assumption | exact ⟨rfl, Nat.le_refl _⟩ | exact ⟨rfl, rfl⟩ | (simp only [inR]; omega) | omega | (simp only [roomP, true_and, and_true, List.length_take, List.length_drop, List.length_append, List.length_cons, List.length_nil, List.length_set, List.length_replicate]; omega) | (refine ⟨by first | exact trivial | rfl, by first | exact Nat.le_refl _ | omega, ?_⟩; change roomP _ _ 1; simp only [roomP]; omega) | (change roomP _ _ 1; simp only [roomP]; omega) | (simp; omega) | (simp [inR]; omega) | (simp [inR]; done) | decide | (simp; done)) ?_; conv => whnf)
                | (refine idx_nat (by omega) (fun x hx => ?_); conv => whnf)
                | (refine frz_auto ?_; conv => whnf)
                | (refine draw_plain ?_; conv => whnf)
                | (refine idx_intro (by omega) (by omega) (fun x hx => ?_); conv => whnf)
                | (refine idx_intro (by first | omega | (simp; omega) | (simp; done)) (by first | omega | (simp; omega) | (simp; done)) (fun x hx => ?_); conv => whnf)
                | fail
              have e : (i : Int) / 2 = ((i / 2 : Nat) : Int) := by omega
              refine back_intro (by conv => whnf) rfl ⟨g + 1, i / 2, ?_, rfl, by omega, by omega, by omega⟩ ?_
              · rw [← e]; rfl
              · show ((i : Int) / 2).toNat < (i : Int).toNat
                rw [e]
                omega
            · have hi0 : i = 0 := by omega
              subst hi0
              have hg0 : g = gm (ks.length + q) := hs
              repeat' first
                | (refine idx_kn (by assumption) ?_; conv => whnf)
                | (refine idx_ki (by assumption) (by omega) ?_; conv => whnf)
                | (refine br_true (by first | with_reducible exact rfl | assumption | decide) ?_; conv => whnf)
                | (refine br_false (by first | with_reducible exact rfl | assumption | decide) ?_; conv => whnf)
                | ((with_reducible refine br_kt (by assumption) ?_); conv => whnf)
                | ((with_reducible refine br_kf (by assumption) ?_); conv => whnf)
                | ((with_reducible refine br_nt (by assumption) ?_); conv => whnf)
                | ((with_reducible refine br_nf (by assumption) ?_); conv => whnf)
                | ((with_reducible refine br_et (by assumption) ?_); conv => whnf)
                | ((with_reducible refine br_ef (by assumption) ?_); conv => whnf)
                | ((with_reducible refine br_dec (fun h => ?_) (fun h => ?_)) <;> first | (exfalso; omega) | conv => whnf)
                | ((with_reducible refine br_ndec (fun h => ?_) (fun h => ?_)) <;> first | (exfalso; omega) | conv => whnf)
                | ((with_reducible refine br_ne (fun h => ?_) (fun h => ?_)) <;> first | (exfalso; omega) | conv => whnf)
                | ((with_reducible refine br_eq (fun h => ?_) (fun h => ?_)) <;> first | (exfalso; omega) | conv => whnf)
                | (refine br_intro (fun h => ?_) (fun h => ?_) <;> conv => whnf)
                | (refine need_in (by first | exact trivial | assumption | exact ⟨rfl, Nat.le_refl _⟩ | exact ⟨rfl, rfl⟩ | (simp only [inR]; omega) | omega | (simp only [roomP, true_and, and_true, List.length_take, List.length_drop, List.length_append, List.length_cons, List.length_nil, List.length_set, List.length_replicate]; omega) | (refine ⟨by first | exact trivial | rfl, by first | exact Nat.le_refl _ | omega, ?_⟩; change roomP _ _ 1; simp only [roomP]; omega) | (change roomP _ _ 1; simp only [roomP]; omega) | (simp; omega) | (simp [inR]; omega) | (simp [inR]; done) | decide | (simp; done)) ?_; conv => whnf)
                | (refine idx_nat (by omega) (fun x hx => ?_); conv => whnf)
                | (refine frz_auto ?_; conv => whnf)
                | (refine draw_plain ?_; conv => whnf)
                | (refine idx_intro (by omega) (by omega) (fun x hx => ?_); conv => whnf)
                | (refine idx_intro (by first | omega | (simp; omega) | (simp; done)) (by first | omega | (simp; omega) | (simp; done)) (fun x hx => ?_); conv => whnf)
                | fail
              simp only [cast_self, Nat.zero_add, htk, hg0]
    · have hre : repE ks lo w (mkK k d) = opE ks lo w := by rw [repE, if_pos hc]
      simp only [hre, rep0, if_neg hc]
      conv => whnf
      repeat' first
        | (refine br_true (by first | with_reducible exact rfl | assumption | decide) ?_; conv => whnf)
        | (refine br_false (by first | with_reducible exact rfl | assumption | decide) ?_; conv => whnf)
        | ((with_reducible refine br_kt (by assumption) ?_); conv => whnf)
        | ((with_reducible refine br_kf (by assumption) ?_); conv => whnf)
        | ((with_reducible refine br_nt (by assumption) ?_); conv => whnf)
        | ((with_reducible refine br_nf (by assumption) ?_); conv => whnf)
        | ((with_reducible refine br_et (by assumption) ?_); conv => whnf)
        | ((with_reducible refine br_ef (by assumption) ?_); conv => whnf)
        | ((with_reducible refine br_dec (fun h => ?_) (fun h => ?_)) <;> first | (exfalso; omega) | conv => whnf)
        | ((with_reducible refine br_ndec (fun h => ?_) (fun h => ?_)) <;> first | (exfalso; omega) | conv => whnf)
        | ((with_reducible refine br_ne (fun h => ?_) (fun h => ?_)) <;> first | (exfalso; omega) | conv => whnf)
        | ((with_reducible refine br_eq (fun h => ?_) (fun h => ?_)) <;> first | (exfalso; omega) | conv => whnf)
        | (refine br_intro (fun h => ?_) (fun h => ?_) <;> conv => whnf)
        | (refine need_in (by first | exact trivial | assumption | exact ⟨rfl, Nat.le_refl _⟩ | exact ⟨rfl, rfl⟩ | (simp only [inR]; omega) | omega | (simp only [roomP, true_and, and_true, List.length_take, List.length_drop, List.length_append, List.length_cons, List.length_nil, List.length_set, List.length_replicate]; omega) | (refine ⟨by first | exact trivial | rfl, by first | exact Nat.le_refl _ | omega, ?_⟩; change roomP _ _ 1; simp only [roomP]; omega) | (change roomP _ _ 1; simp only [roomP]; omega) | (simp; omega) | (simp [inR]; omega) | (simp [inR]; done) | decide | (simp; done)) ?_; conv => whnf)
        | (refine idx_nat (by omega) (fun x hx => ?_); conv => whnf)
        | (refine frz_auto ?_; conv => whnf)
        | (refine draw_plain ?_; conv => whnf)
        | (refine idx_intro (by omega) (by omega) (fun x hx => ?_); conv => whnf)
        | (refine idx_intro (by first | omega | (simp; omega) | (simp; done)) (by first | omega | (simp; omega) | (simp; done)) (fun x hx => ?_); conv => whnf)
        | fail
  · cases h
end Go.Proofs.Ytjlfkgffgnkflaa
