/-
  What the reference says of the order of entries.
-/
import Derived.Test.YtmegjnanieafbaaN3
namespace Go.Proofs.Ytmegjnanieafbaa
open Av Bk

def ordE (k : ByteArray) (s : Int) (k' : ByteArray) (s' : Int) : Int := if ordL k.data.toList k'.data.toList ≠ 0 then ordL k.data.toList k'.data.toList else if s' < s then -1 else if s < s' then 1 else 0
def spOrdE : DSpec
  | [.agg [.str k, .str _, .bool _, .int .i64 s], .agg [.str k', .str _, .bool _, .int .i64 s']] => some ((k.size : Int) ≤ 4611686018427387904, .int .i64 (ordE k s k' s'))
  | _ => none
theorem fnOk_refOrdE : FnOk Try.prog 35 Try.f35 := ⟨by rfl, by kernel_rfl, by
  show okCode _ _ = true ∧ drawsOk _ = true
  exact ⟨by kernel_rfl, by kernel_rfl⟩⟩
noncomputable def cx3 : Cx := ⟨tb, [], [(36, spOrder)]⟩
theorem specs3 : SpecsOk Try.prog cx3.specs := .cons refOrder_ok .nil
set_option maxRecDepth 100000 in
set_option maxHeartbeats 2000000 in
theorem refOrdE_ok : SpecOk Try.prog 35 spOrdE := by
  refine spec_body (C := cx3) mixed tbOk specs3 (callN_ok (C := cx3) mixed tbOk specs3 FnsOk.nil 0) fnOk_refOrdE ?_
  intro ys p r h hp
  unfold spOrdE at h
  split at h
  · rename_i k v d s k' v' d' s'
    cases h
    conv => whnf
    refine need_in hp ?_
    conv => whnf
    repeat' first
      | (refine br_true (by first | with_reducible exact rfl | assumption | decide) ?_; conv => whnf)
      | (refine br_false (by first | with_reducible exact rfl | assumption | decide) ?_; conv => whnf)
      | (with_reducible refine br_kt (by assumption) ?_; conv => whnf)
      | (with_reducible refine br_kf (by assumption) ?_; conv => whnf)
      | (with_reducible refine br_nt (by assumption) ?_; conv => whnf)
      | (with_reducible refine br_nf (by assumption) ?_; conv => whnf)
      | (with_reducible refine br_et (by assumption) ?_; conv => whnf)
      | (with_reducible refine br_ef (by assumption) ?_; conv => whnf)
      | ((with_reducible refine br_dec (fun h => ?_) (fun h => ?_)) <;> first | (exfalso; omega) | conv => whnf)
      | ((with_reducible refine br_ndec (fun h => ?_) (fun h => ?_)) <;> first | (exfalso; omega) | conv => whnf)
      | ((with_reducible refine br_ne (fun h => ?_) (fun h => ?_)) <;> first | (exfalso; omega) | conv => whnf)
      | ((with_reducible refine br_eq (fun h => ?_) (fun h => ?_)) <;> first | (exfalso; omega) | conv => whnf)
      | (refine br_intro (fun h => ?_) (fun h => ?_) <;> conv => whnf)
      | (refine need_in (by first | exact trivial | assumption | exact ⟨rfl, Nat.le_refl _⟩ | (simp only [inR]; omega) | omega | (simp only [roomP, true_and, and_true, List.length_take, List.length_drop, List.length_append, List.length_cons, List.length_nil, List.length_set, List.length_replicate]; omega) | (simp; omega) | (simp; done)) ?_; conv => whnf)
      | (refine idx_nat (by omega) (fun x hx => ?_); conv => whnf)
      | (refine idx_intro (by omega) (by omega) (fun x hx => ?_); conv => whnf)
    all_goals refine congrArg (AV.int .i64) ?_
    all_goals unfold ordE
    all_goals first
      | rw [if_pos (by assumption)]
      | rw [if_neg (fun e => e (by assumption)), if_pos (by omega)]
      | rw [if_neg (fun e => e (by assumption)), if_neg (by omega), if_pos (by omega)]
      | rw [if_neg (fun e => e (by assumption)), if_neg (by omega), if_neg (by omega)]
  · cases h
end Go.Proofs.Ytmegjnanieafbaa
