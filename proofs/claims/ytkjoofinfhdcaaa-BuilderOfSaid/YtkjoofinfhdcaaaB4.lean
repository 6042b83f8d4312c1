/-
  The law of Of.
-/
import Derived.Test.YtkjoofinfhdcaaaB3
namespace Go.Proofs.Ytkjoofinfhdcaaa
open Av Bk

theorem fnOk_lOf : FnOk Try.prog 3 Try.f3 := ⟨by rfl, by kernel_rfl, by
  show okCode _ _ = true ∧ drawsOk _ = true
  exact ⟨by kernel_rfl, by kernel_rfl⟩⟩
noncomputable def lOf_C : Cx := ⟨tb, [], [(11, spOf), (12, spOf), (13, spRSame), (10, spAwake)]⟩
theorem lOf_D : SpecsOk Try.prog lOf_C.specs := .cons bOf_ok (.cons rOf_ok (.cons r6Same_ok (.cons awake_ok .nil)))
theorem lOf_F : FnsOk Try.prog lOf_C.fns := FnsOk.nil
abbrev lOf_N : Nat := 0
abbrev lOf_T : List Ty := [.int .i64, .sl entT]
abbrev lOf_FN := fnOk_lOf
theorem ofR_len (id : Int) (l : List entT.El) : (ofR id l).2.1.length ≤ l.length := by
  unfold ofR
  split
  · simp
  · split
    · simp
    · split <;> simp
set_option maxRecDepth 100000 in
set_option maxHeartbeats 4000000 in
theorem lOf : ∀ es : Ty.Els lOf_T, tyOks lOf_T es → bodyA lOf_C (callN lOf_C lOf_N) Try.f3 (avTs lOf_T es) [] (fun v _ => v = .bool true) := by
  rintro ⟨id, l, _⟩ -
  show bodyA _ _ _ [.int .i64 id, .lst entT l] [] _
  conv => whnf
  repeat' first
    | (refine br_true (by first | with_reducible exact rfl | assumption | decide) ?_; conv => whnf)
    | (refine br_false (by first | with_reducible exact rfl | assumption | decide) ?_; conv => whnf)
    | ((with_reducible refine br_kt (by assumption) ?_); conv => whnf)
    | ((with_reducible refine br_kf (by assumption) ?_); conv => whnf)
    | ((with_reducible refine br_nt (by assumption) ?_); conv => whnf)
    | ((with_reducible refine br_nf (by assumption) ?_); conv => whnf)
    | ((with_reducible refine br_et (by assumption) ?_); conv => whnf)
    | ((with_reducible refine br_ef (by assumption) ?_); conv => whnf)
    | ((with_reducible refine br_dec (fun h => ?_) (fun h => ?_)) <;> first | (exfalso; omega) | conv => whnf)
    | ((with_reducible refine br_ndec (fun h => ?_) (fun h => ?_)) <;> first | (exfalso; omega) | conv => whnf)
    | ((with_reducible refine br_ne (fun h => ?_) (fun h => ?_)) <;> first | (exfalso; omega) | conv => whnf)
    | ((with_reducible refine br_eq (fun h => ?_) (fun h => ?_)) <;> first | (exfalso; omega) | conv => whnf)
    | (refine br_intro (fun h => ?_) (fun h => ?_) <;> conv => whnf)
    | (refine need_in (by first | exact trivial | assumption | exact ⟨rfl, Nat.le_refl _⟩ | (simp only [inR]; omega) | omega | (simp only [roomP, true_and, and_true, List.length_take, List.length_drop, List.length_append, List.length_cons, List.length_nil, List.length_set, List.length_replicate]; omega) | (refine ⟨by first | exact trivial | rfl, by first | exact Nat.le_refl _ | omega, ?_⟩; change roomP _ _ 1; simp only [roomP]; omega) | (change roomP _ _ 1; simp only [roomP]; omega) | (simp; omega) | (simp; done)) ?_; conv => whnf)
    | (refine idx_nat (by omega) (fun x hx => ?_); conv => whnf)
    | (refine idx_intro (by omega) (by omega) (fun x hx => ?_); conv => whnf)
  all_goals
    have hl := ofR_len id l
    refine loop_inv [] [5] (fun vs h => ∃ i : Nat, vs = [.int .i64 (i : Int)] ∧ h = [] ∧ i ≤ l.length) (fun vs _ => match vs with | [.int _ k] => l.length - k.toNat | _ => 0) ?_
    refine ⟨⟨0, rfl, rfl, Nat.zero_le _⟩, ?_⟩
    rintro vs h' - ⟨i, rfl, rfl, hi⟩
    conv => whnf
    repeat' first
      | (refine br_true (by first | with_reducible exact rfl | assumption | decide) ?_; conv => whnf)
      | (refine br_false (by first | with_reducible exact rfl | assumption | decide) ?_; conv => whnf)
      | ((with_reducible refine br_kt (by assumption) ?_); conv => whnf)
      | ((with_reducible refine br_kf (by assumption) ?_); conv => whnf)
      | ((with_reducible refine br_nt (by assumption) ?_); conv => whnf)
      | ((with_reducible refine br_nf (by assumption) ?_); conv => whnf)
      | ((with_reducible refine br_et (by assumption) ?_); conv => whnf)
      | ((with_reducible refine br_ef (by assumption) ?_); conv => whnf)
      | ((with_reducible refine br_dec (fun h => ?_) (fun h => ?_)) <;> first | (exfalso; omega) | conv => whnf)
      | ((with_reducible refine br_ndec (fun h => ?_) (fun h => ?_)) <;> first | (exfalso; omega) | conv => whnf)
      | ((with_reducible refine br_ne (fun h => ?_) (fun h => ?_)) <;> first | (exfalso; omega) | conv => whnf)
      | ((with_reducible refine br_eq (fun h => ?_) (fun h => ?_)) <;> first | (exfalso; omega) | conv => whnf)
      | (refine br_intro (fun h => ?_) (fun h => ?_) <;> conv => whnf)
      | (refine need_in (by first | exact trivial | assumption | exact ⟨rfl, Nat.le_refl _⟩ | (simp only [inR]; omega) | omega | (simp only [roomP, true_and, and_true, List.length_take, List.length_drop, List.length_append, List.length_cons, List.length_nil, List.length_set, List.length_replicate]; omega) | (refine ⟨by first | exact trivial | rfl, by first | exact Nat.le_refl _ | omega, ?_⟩; change roomP _ _ 1; simp only [roomP]; omega) | (change roomP _ _ 1; simp only [roomP]; omega) | (simp; omega) | (simp; done)) ?_; conv => whnf)
      | (refine idx_nat (by omega) (fun x hx => ?_); conv => whnf)
      | (refine idx_intro (by omega) (by omega) (fun x hx => ?_); conv => whnf)
    all_goals first
      | (refine back_intro (by conv => whnf) rfl ⟨i + 1, rfl, rfl, by omega⟩ ?_
         show l.length - ((i : Int) + 1).toNat < l.length - (i : Int).toNat
         omega)
      | (rw [beq_self_eq_true, same_refl] at h; exact absurd h (by decide))
end Go.Proofs.Ytkjoofinfhdcaaa
