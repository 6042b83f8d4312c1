/-
  What the reference says of the order of strings.
-/
import Derived.Test.YtjinjnakedhmdaaE2
namespace Go.Proofs.Ytjinjnakedhmdaa
open Av

def comL : List UInt8 → List UInt8 → Nat
  | a :: x, b :: y => if a = b then comL x y + 1 else 0
  | _, _ => 0
theorem comL_end : ∀ (i : Nat) (x y : List UInt8), x.take i = y.take i → i ≤ x.length → i ≤ y.length → (i = x.length ∨ i = y.length ∨ ∃ a b, x[i]? = some a ∧ y[i]? = some b ∧ a ≠ b) → comL x y = i
  | 0, [], _, _, _, _, _ => by simp [comL]
  | 0, _ :: _, [], _, _, _, _ => by simp [comL]
  | 0, a :: x, b :: y, _, _, _, h => by
    rcases h with h | h | ⟨a', b', h1, h2, h3⟩
    · simp at h
    · simp at h
    · simp at h1 h2
      subst h1 h2
      simp [comL, h3]
  | i + 1, [], _, _, h, _, _ => by simp at h
  | i + 1, _ :: _, [], _, _, h, _ => by simp at h
  | i + 1, a :: x, b :: y, ht, h1, h2, h => by
    simp only [List.take_succ_cons, List.cons.injEq] at ht
    obtain ⟨rfl, ht⟩ := ht
    simp only [comL, if_true]
    rw [comL_end i x y ht (by simpa using h1) (by simpa using h2) (by simpa using h)]
theorem take_snoc {x y : List UInt8} {i : Nat} {c : UInt8} (ht : x.take i = y.take i) (hx : x[i]? = some c) (hy : y[i]? = some c) : x.take (i + 1) = y.take (i + 1) := by
  rw [List.take_add_one, List.take_add_one, hx, hy, ht]
def spCommon : DSpec
  | [.str a, .str b] => some ((a.size : Int) ≤ 9223372036854775807, .int .i64 (comL a.data.toList b.data.toList : Nat))
  | _ => none
set_option maxRecDepth 100000 in
theorem fnOk_refCommon : FnOk Try.prog 58 Try.f58 := ⟨by rfl, by kernel_rfl, by
  show okCode _ _ = true ∧ drawsOk _ = true
  exact ⟨by kernel_rfl, by kernel_rfl⟩⟩
set_option maxRecDepth 100000 in
set_option maxHeartbeats 2000000 in
theorem refCommon_ok : SpecOk Try.prog 58 spCommon := by
  refine spec_body (C := cx0) mixed tbOk SpecsOk.nil (callN_ok (C := cx0) mixed tbOk SpecsOk.nil FnsOk.nil 0) fnOk_refCommon ?_
  intro ys p r h hp
  unfold spCommon at h
  split at h
  · rename_i a b
    cases h
    have la : a.data.toList.length = a.size := Array.length_toList
    have lb : b.data.toList.length = b.size := Array.length_toList
    conv => whnf
    refine loop_inv [] [5] (fun vs h => ∃ i : Nat, vs = [.int .i64 (i : Int)] ∧ h = [] ∧ i ≤ a.size ∧ i ≤ b.size ∧ a.data.toList.take i = b.data.toList.take i) (fun vs _ => match vs with | [.int _ k] => a.size - k.toNat | _ => 0) ?_
    refine ⟨⟨0, rfl, rfl, by omega, by omega, by simp⟩, ?_⟩
    rintro vs h' - ⟨i, rfl, rfl, hi, hj, hall⟩
    conv => whnf
    repeat' first
      | ((first | refine br_true (by first | with_reducible exact rfl | assumption | decide) ?_ | refine br_false (by first | with_reducible exact rfl | assumption | decide) ?_ | with_reducible first | refine br_kt (by assumption) ?_ | refine br_kf (by assumption) ?_ | refine br_nt (by assumption) ?_ | refine br_nf (by assumption) ?_ | refine br_et (by assumption) ?_ | refine br_ef (by assumption) ?_); conv => whnf)
      | ((with_reducible first | refine br_dec (fun h => ?_) (fun h => ?_) | refine br_ndec (fun h => ?_) (fun h => ?_) | refine br_ne (fun h => ?_) (fun h => ?_) | refine br_eq (fun h => ?_) (fun h => ?_)) <;> first | (exfalso; omega) | conv => whnf)
      | (refine br_intro (fun h => ?_) (fun h => ?_) <;> conv => whnf)
      | ((first | refine need_in (by first | exact trivial | assumption | exact ⟨rfl, Nat.le_refl _⟩ | exact ⟨rfl, rfl⟩ | (simp only [inR]; omega) | omega | (simp only [roomP, true_and, and_true, List.length_take, List.length_drop, List.length_append, List.length_cons, List.length_nil, List.length_set, List.length_replicate]; omega) | (refine ⟨by first | exact trivial | rfl, by first | exact Nat.le_refl _ | omega | (simp; omega), ?_⟩; change roomP _ _ 1; simp only [roomP]; omega) | (change roomP _ _ 1; simp only [roomP]; omega) | (simp; omega) | (simp [inR]; omega) | (simp [inR]; done) | decide | (simp; done) | exact ⟨by first | omega | (simp; omega), by assumption⟩) ?_ | refine idx_nat (by omega) (fun x hx => ?_) | refine frz_auto ?_ | refine draw_plain ?_ | refine idx_intro (by first | omega | (simp; omega) | (simp; done)) (by first | omega | (simp; omega) | (simp; done)) (fun x hx => ?_)); conv => whnf)
    · rename_i h1 h2 c hc
      have hcx : c = x := UInt8.toNat_inj.1 (by omega)
      subst hcx
      refine back_intro (by conv => whnf) rfl ⟨i + 1, rfl, rfl, by omega, by omega, take_snoc hall hc hx⟩ ?_
      show a.size - ((i : Int) + 1).toNat < a.size - (i : Int).toNat
      omega
    · rename_i h1 h2 c hc
      exact congrArg (fun n : Nat => AV.int .i64 (n : Int)) (comL_end i _ _ hall (by omega) (by omega) (.inr (.inr ⟨c, x, hc, hx, fun e => h (by rw [e])⟩))).symm
    · exact congrArg (fun n : Nat => AV.int .i64 (n : Int)) (comL_end i _ _ hall (by omega) (by omega) (.inr (.inl (by omega)))).symm
    · exact congrArg (fun n : Nat => AV.int .i64 (n : Int)) (comL_end i _ _ hall (by omega) (by omega) (.inl (by omega))).symm
  · cases h
end Go.Proofs.Ytjinjnakedhmdaa
