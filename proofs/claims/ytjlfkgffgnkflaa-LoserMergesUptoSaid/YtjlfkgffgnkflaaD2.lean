/-
  The tree of players, by both.
-/
import Derived.Test.YtjlfkgffgnkflaaD1
namespace Go.Proofs.Ytjlfkgffgnkflaa
open Av Lz

theorem fnOk_rPlayer : FnOk Try.prog 39 Try.f39 := ⟨by rfl, by kernel_rfl, by
  show okCode _ _ = true ∧ drawsOk _ = true
  exact ⟨by kernel_rfl, by kernel_rfl⟩⟩
def spPl (k : Nat) : DSpec
  | [.lst (.st [.str, .bool]) ks, .int .i64 node] => some (okKs ks ∧ ks.length ≤ 32 ∧ 1 ≤ node ∧ node < 2 * ks.length ∧ ks.length - node.toNat < k, .tup [.int .i64 ((pl ks node.toNat).1 : Int), .int .i64 ((pl ks node.toNat).2 : Int)])
  | _ => none
noncomputable def cxP (k : Nat) : Cx := ⟨tb, [], [(32, spWins), (39, spPl k)]⟩
theorem tup2 {a b c d : Int} (h1 : a = c) (h2 : b = d) : AV.tup [.int .i64 a, .int .i64 b] = AV.tup [.int .i64 c, .int .i64 d] := by rw [h1, h2]
set_option maxRecDepth 100000 in
set_option maxHeartbeats 2000000 in
theorem rPlayer_ok : ∀ k, SpecOk Try.prog 39 (spPl k)
  | 0 => by
    refine spec_body (C := cx0) mixed tbOk SpecsOk.nil (callN_ok (C := cx0) mixed tbOk SpecsOk.nil FnsOk.nil 0) fnOk_rPlayer ?_
    intro ys p r h hp
    unfold spPl at h
    split at h
    · cases h
      exact absurd hp.2.2.2.2 (Nat.not_lt_zero _)
    · cases h
  | k + 1 => by
    have hD : SpecsOk Try.prog (cxP k).specs := .cons rWins_ok (.cons (rPlayer_ok k) .nil)
    refine spec_body (C := cxP k) mixed tbOk hD (callN_ok (C := cxP k) mixed tbOk hD FnsOk.nil 0) fnOk_rPlayer ?_
    intro ys p r h hp
    unfold spPl at h
    split at h
    · rename_i ks node
      cases h
      obtain ⟨hk, hn, h1, h2, h3⟩ := hp
      obtain ⟨v, rfl⟩ := Int.eq_ofNat_of_zero_le (show 0 ≤ node by omega)
      simp only [Int.toNat_natCast] at h3 ⊢
      by_cases hv : ks.length ≤ v
      · rw [pl_leaf hv]
        conv => whnf
        repeat' first
          | (refine br_true (by first | with_reducible exact rfl | assumption | decide) ?_; conv => whnf)
          | (refine br_false (by first | with_reducible exact rfl | assumption | decide) ?_; conv => whnf)
          | ((with_reducible refine br_kt (by assumption) ?_); conv => whnf)
          | ((with_reducible refine br_kf (by assumption) ?_); conv => whnf)
          | ((with_reducible refine br_nt (by assumption) ?_); conv => whnf)
          | ((with_reducible refine br_nf (by assumption) ?_); conv => whnf)
          | ((with_reducible refine br_et (by assumption) ?_); conv => whnf)
          | ((with_reducible refine br_ef (by assumption) ?_); conv => whnf)
          | ((with_reducible refine br_dec (fun h => ?_) (fun h => ?_)) <;> first | (exfalso; omega) | conv => whnf)
          | ((with_reducible refine br_ndec (fun h => ?_) (fun h => ?_)) <;> first | (exfalso; omega) | conv => whnf)
          | ((with_reducible refine br_ne (fun h => ?_) (fun h => ?_)) <;> first | (exfalso; omega) | conv => whnf)
          | ((with_reducible refine br_eq (fun h => ?_) (fun h => ?_)) <;> first | (exfalso; omega) | conv => whnf)
          | (refine br_intro (fun h => ?_) (fun h => ?_) <;> conv => whnf)
          | (refine need_in (by first | exact trivial | assumption | exact ⟨rfl, Nat.le_refl _⟩ | exact ⟨rfl, rfl⟩ | (simp only [inR]; omega) | omega | (simp only [roomP, true_and, and_true, List.length_take, List.length_drop, List.length_append, List.length_cons, List.length_nil, List.length_set, List.length_replicate]; omega) | (refine ⟨by first | exact trivial | rfl, by first | exact Nat.le_refl _ | omega, ?_⟩; change roomP _ _ 1; simp only [roomP]; omega) | (change roomP _ _ 1; simp only [roomP]; omega) | (simp; omega) | (simp [inR]; omega) | (simp [inR]; done) | decide | (simp; done)) ?_; conv => whnf)
          | (refine idx_nat (by omega) (fun x hx => ?_); conv => whnf)
          | (refine frz_auto ?_; conv => whnf)
          | (refine draw_plain ?_; conv => whnf)
          | (refine idx_intro (by omega) (by omega) (fun x hx => ?_); conv => whnf)
          | (refine idx_intro (by first | omega | (simp; omega) | (simp; done)) (by first | omega | (simp; omega) | (simp; done)) (fun x hx => ?_); conv => whnf)
          | fail
        exact tup2 (by omega) rfl
      · have ha : (pl ks (2 * v)).1 < ks.length := pl_lt1 (by omega) (by omega)
        have hb : (pl ks (2 * v + 1)).1 < ks.length := pl_lt1 (by omega) (by omega)
        have e1 : ((2 : Int) * (v : Int)).toNat = 2 * v := by omega
        have e2 : ((2 : Int) * (v : Int) + 1).toNat = 2 * v + 1 := by omega
        have p1 : okKs ks ∧ ks.length ≤ 32 ∧ 1 ≤ (2 : Int) * (v : Int) ∧ (2 : Int) * (v : Int) < 2 * ks.length ∧ ks.length - ((2 : Int) * (v : Int)).toNat < k := ⟨hk, hn, by omega, by omega, by omega⟩
        have p2 : okKs ks ∧ ks.length ≤ 32 ∧ 1 ≤ (2 : Int) * (v : Int) + 1 ∧ (2 : Int) * (v : Int) + 1 < 2 * ks.length ∧ ks.length - ((2 : Int) * (v : Int) + 1).toNat < k := ⟨hk, hn, by omega, by omega, by omega⟩
        have p3 : okKs ks ∧ 0 ≤ ((pl ks ((2 : Int) * (v : Int)).toNat).1 : Int) ∧ ((pl ks ((2 : Int) * (v : Int)).toNat).1 : Int) < ks.length ∧ 0 ≤ ((pl ks ((2 : Int) * (v : Int) + 1).toNat).1 : Int) ∧ ((pl ks ((2 : Int) * (v : Int) + 1).toNat).1 : Int) < ks.length := by
          rw [e1, e2]; exact ⟨hk, by omega, by omega, by omega, by omega⟩
        rw [pl_node (by omega) (by omega), game]
        conv => whnf
        repeat' first
          | (refine br_true (by first | with_reducible exact rfl | assumption | decide) ?_; conv => whnf)
          | (refine br_false (by first | with_reducible exact rfl | assumption | decide) ?_; conv => whnf)
          | ((with_reducible refine br_kt (by assumption) ?_); conv => whnf)
          | ((with_reducible refine br_kf (by assumption) ?_); conv => whnf)
          | ((with_reducible refine br_nt (by assumption) ?_); conv => whnf)
          | ((with_reducible refine br_nf (by assumption) ?_); conv => whnf)
          | ((with_reducible refine br_et (by assumption) ?_); conv => whnf)
          | ((with_reducible refine br_ef (by assumption) ?_); conv => whnf)
          | ((with_reducible refine br_dec (fun h => ?_) (fun h => ?_)) <;> first | (exfalso; omega) | conv => whnf)
          | ((with_reducible refine br_ndec (fun h => ?_) (fun h => ?_)) <;> first | (exfalso; omega) | conv => whnf)
          | ((with_reducible refine br_ne (fun h => ?_) (fun h => ?_)) <;> first | (exfalso; omega) | conv => whnf)
          | ((with_reducible refine br_eq (fun h => ?_) (fun h => ?_)) <;> first | (exfalso; omega) | conv => whnf)
          | (refine br_intro (fun h => ?_) (fun h => ?_) <;> conv => whnf)
          | (refine need_in (by first | exact trivial | assumption | exact ⟨rfl, Nat.le_refl _⟩ | exact ⟨rfl, rfl⟩ | (simp only [inR]; omega) | omega | (simp only [roomP, true_and, and_true, List.length_take, List.length_drop, List.length_append, List.length_cons, List.length_nil, List.length_set, List.length_replicate]; omega) | (refine ⟨by first | exact trivial | rfl, by first | exact Nat.le_refl _ | omega, ?_⟩; change roomP _ _ 1; simp only [roomP]; omega) | (change roomP _ _ 1; simp only [roomP]; omega) | (simp; omega) | (simp [inR]; omega) | (simp [inR]; done) | decide | (simp; done)) ?_; conv => whnf)
          | (refine idx_nat (by omega) (fun x hx => ?_); conv => whnf)
          | (refine frz_auto ?_; conv => whnf)
          | (refine draw_plain ?_; conv => whnf)
          | (refine idx_intro (by omega) (by omega) (fun x hx => ?_); conv => whnf)
          | (refine idx_intro (by first | omega | (simp; omega) | (simp; done)) (by first | omega | (simp; omega) | (simp; done)) (fun x hx => ?_); conv => whnf)
          | fail
        all_goals
          simp only [e1, e2, Int.toNat_natCast] at h ⊢
          simp [h]
    · cases h
end Go.Proofs.Ytjlfkgffgnkflaa
