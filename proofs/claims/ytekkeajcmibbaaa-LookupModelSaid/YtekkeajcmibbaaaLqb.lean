/-
  Whether two lists of pairs are the same.
-/
import Derived.Test.YtekkeajcmibbaaaLqa
namespace Go.Proofs.Ytekkeajcmibbaaa
open Av Bk

def spSameP : DSpec
  | [.lst (.st [.str, .str]) a, .lst (.st [.str, .str]) b] => some (a.length ≤ 4611686018427387904, .bool (sameL pairT a b))
  | _ => none
set_option maxRecDepth 100000 in
theorem fnOk_same05 : FnOk Try.prog 21 Try.f21 := ⟨by rfl, by kernel_rfl, by
  show okCode _ _ = true ∧ drawsOk _ = true
  exact ⟨by kernel_rfl, by kernel_rfl⟩⟩
set_option maxRecDepth 100000 in
set_option maxHeartbeats 2000000 in
theorem same05_ok : SpecOk Try.prog 21 spSameP := by
  refine spec_body (C := cx0) mixed tbOk SpecsOk.nil (callN_ok (C := cx0) mixed tbOk SpecsOk.nil FnsOk.nil 0) fnOk_same05 ?_
  intro ys p r h hp
  unfold spSameP at h
  split at h
  · rename_i a b
    cases h
    conv => whnf
    repeat' first
      | ((first | refine br_true (by first | with_reducible exact rfl | assumption | decide) ?_ | refine br_false (by first | with_reducible exact rfl | assumption | decide) ?_ | with_reducible first | refine br_kt (by assumption) ?_ | refine br_kf (by assumption) ?_ | refine br_nt (by assumption) ?_ | refine br_nf (by assumption) ?_ | refine br_et (by assumption) ?_ | refine br_ef (by assumption) ?_); conv => whnf)
      | ((with_reducible first | refine br_dec (fun h => ?_) (fun h => ?_) | refine br_ndec (fun h => ?_) (fun h => ?_) | refine br_ne (fun h => ?_) (fun h => ?_) | refine br_eq (fun h => ?_) (fun h => ?_)) <;> first | (exfalso; omega) | conv => whnf)
      | (refine br_intro (fun h => ?_) (fun h => ?_) <;> conv => whnf)
      | ((first | refine need_in (by first | exact trivial | assumption | exact ⟨rfl, Nat.le_refl _⟩ | exact ⟨rfl, rfl⟩ | (simp only [inR]; omega) | omega | (simp only [roomP, true_and, and_true, List.length_take, List.length_drop, List.length_append, List.length_cons, List.length_nil, List.length_set, List.length_replicate]; omega) | (refine ⟨by first | exact trivial | rfl, by first | exact Nat.le_refl _ | omega | (simp; omega), ?_⟩; change roomP _ _ 1; simp only [roomP]; omega) | (change roomP _ _ 1; simp only [roomP]; omega) | (simp; omega) | (simp [inR]; omega) | (simp [inR]; done) | decide | (simp; done)) ?_ | refine idx_nat (by omega) (fun x hx => ?_) | refine frz_auto ?_ | refine draw_plain ?_ | refine idx_intro (by first | omega | (simp; omega) | (simp; done)) (by first | omega | (simp; omega) | (simp; done)) (fun x hx => ?_)); conv => whnf)
    · refine congrArg AV.bool ?_
      rw [same_len (by omega)]
    · rename_i hlen
      refine loop_inv [] [5] (fun vs h => ∃ i : Nat, vs = [.int .i64 (i : Int)] ∧ h = [] ∧ i ≤ a.length ∧ sameL pairT a b = sameL pairT (a.drop i) (b.drop i)) (fun vs _ => match vs with | [.int _ k] => a.length - k.toNat | _ => 0) ?_
      refine ⟨⟨0, rfl, rfl, Nat.zero_le _, rfl⟩, ?_⟩
      rintro vs h' - ⟨i, rfl, rfl, hi, hs⟩
      by_cases hil : i < a.length
      · obtain ⟨x, hx⟩ : ∃ x, a[i]? = some x := ⟨_, List.getElem?_eq_getElem hil⟩
        obtain ⟨y, hy⟩ : ∃ y, b[i]? = some y := ⟨_, List.getElem?_eq_getElem (by omega)⟩
        rw [same_step hx hy] at hs
        conv => whnf
        repeat' first
          | ((first | refine idx_kn (by assumption) ?_ | refine idx_ki (by assumption) (by omega) ?_ | refine br_true (by first | with_reducible exact rfl | assumption | decide) ?_ | refine br_false (by first | with_reducible exact rfl | assumption | decide) ?_ | with_reducible first | refine br_kt (by assumption) ?_ | refine br_kf (by assumption) ?_ | refine br_nt (by assumption) ?_ | refine br_nf (by assumption) ?_ | refine br_et (by assumption) ?_ | refine br_ef (by assumption) ?_); conv => whnf)
          | ((with_reducible first | refine br_dec (fun h => ?_) (fun h => ?_) | refine br_ndec (fun h => ?_) (fun h => ?_) | refine br_ne (fun h => ?_) (fun h => ?_) | refine br_eq (fun h => ?_) (fun h => ?_)) <;> first | (exfalso; omega) | conv => whnf)
          | (refine br_intro (fun h => ?_) (fun h => ?_) <;> conv => whnf)
          | ((first | refine need_in (by first | exact trivial | assumption | exact ⟨rfl, Nat.le_refl _⟩ | exact ⟨rfl, rfl⟩ | (simp only [inR]; omega) | omega | (simp only [roomP, true_and, and_true, List.length_take, List.length_drop, List.length_append, List.length_cons, List.length_nil, List.length_set, List.length_replicate]; omega) | (refine ⟨by first | exact trivial | rfl, by first | exact Nat.le_refl _ | omega | (simp; omega), ?_⟩; change roomP _ _ 1; simp only [roomP]; omega) | (change roomP _ _ 1; simp only [roomP]; omega) | (simp; omega) | (simp [inR]; omega) | (simp [inR]; done) | decide | (simp; done)) ?_ | refine idx_nat (by omega) (fun x hx => ?_) | refine frz_auto ?_ | refine draw_plain ?_ | refine idx_intro (by first | omega | (simp; omega) | (simp; done)) (by first | omega | (simp; omega) | (simp; done)) (fun x hx => ?_)); conv => whnf)
        · rw [hs, show eqT pairT x y = false from bnt h]
          rfl
        · rw [show eqT pairT x y = true from bnf h] at hs
          refine back_intro (by conv => whnf) rfl ⟨i + 1, rfl, rfl, by omega, hs⟩ ?_
          show a.length - ((i : Int) + 1).toNat < a.length - (i : Int).toNat
          omega
      · conv => whnf
        repeat' first
          | ((first | refine idx_kn (by assumption) ?_ | refine idx_ki (by assumption) (by omega) ?_ | refine br_true (by first | with_reducible exact rfl | assumption | decide) ?_ | refine br_false (by first | with_reducible exact rfl | assumption | decide) ?_ | with_reducible first | refine br_kt (by assumption) ?_ | refine br_kf (by assumption) ?_ | refine br_nt (by assumption) ?_ | refine br_nf (by assumption) ?_ | refine br_et (by assumption) ?_ | refine br_ef (by assumption) ?_); conv => whnf)
          | ((with_reducible first | refine br_dec (fun h => ?_) (fun h => ?_) | refine br_ndec (fun h => ?_) (fun h => ?_) | refine br_ne (fun h => ?_) (fun h => ?_) | refine br_eq (fun h => ?_) (fun h => ?_)) <;> first | (exfalso; omega) | conv => whnf)
          | (refine br_intro (fun h => ?_) (fun h => ?_) <;> conv => whnf)
          | ((first | refine need_in (by first | exact trivial | assumption | exact ⟨rfl, Nat.le_refl _⟩ | exact ⟨rfl, rfl⟩ | (simp only [inR]; omega) | omega | (simp only [roomP, true_and, and_true, List.length_take, List.length_drop, List.length_append, List.length_cons, List.length_nil, List.length_set, List.length_replicate]; omega) | (refine ⟨by first | exact trivial | rfl, by first | exact Nat.le_refl _ | omega | (simp; omega), ?_⟩; change roomP _ _ 1; simp only [roomP]; omega) | (change roomP _ _ 1; simp only [roomP]; omega) | (simp; omega) | (simp [inR]; omega) | (simp [inR]; done) | decide | (simp; done)) ?_ | refine idx_nat (by omega) (fun x hx => ?_) | refine frz_auto ?_ | refine draw_plain ?_ | refine idx_intro (by first | omega | (simp; omega) | (simp; done)) (by first | omega | (simp; omega) | (simp; done)) (fun x hx => ?_)); conv => whnf)
        rw [hs, same_end (by omega) (by omega)]
  · cases h
end Go.Proofs.Ytekkeajcmibbaaa
