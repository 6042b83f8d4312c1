/-
  Differ and Merge by the reference.
-/
import Derived.Test.YtadckioheabliaaRd
namespace Go.Proofs.Ytadckioheabliaa
open Av

/-! ### Differ -/
def dfS (a b : List rcT.El) (least n : Int) : Int := if countC a n ≠ countC b n ∧ (least = 0 ∨ n < least) then n else least
def dfF (a b : List rcT.El) (l : List Int) : Int := l.foldl (dfS a b) 0
abbrev keysC (a b : List rcT.El) : List Int := a.map idC ++ b.map idC
def dfL (a b : List rcT.El) : Int := dfF a b (keysC a b)
def difR (a b : List rcT.El) : Int × Int := if twoE a b ≠ 0 then (0, twoE a b) else if dfL a b = 0 then (0, 4) else (dfL a b, 0)
def spDf : DSpec
  | [.lst (.st [.int .i64, .int .i64]) a, .lst (.st [.int .i64, .int .i64]) b] => some (True, .tup [.int .i64 (difR a b).1, .int .i64 (difR a b).2])
  | _ => none
theorem dfF_snoc {a b : List rcT.El} {l : List Int} {i : Nat} {n : Int} (h : l[i]? = some n) : dfF a b (l.take (i + 1)) = dfS a b (dfF a b (l.take i)) n := by
  unfold dfF
  rw [List.take_add_one, h, List.foldl_append]; rfl
theorem key_a {a b : List rcT.El} {i : Nat} {x : rcT.El} (h : a[i]? = some x) : (keysC a b)[i]? = some (idC x) := by
  have hi := (List.getElem?_eq_some_iff.1 h).1
  rw [List.getElem?_append_left (by rw [List.length_map]; exact hi), List.getElem?_map, h]; rfl
theorem key_b {a b : List rcT.El} {i : Nat} {x : rcT.El} (hi : a.length ≤ i) (h : b[i - a.length]? = some x) : (keysC a b)[i]? = some (idC x) := by
  rw [List.getElem?_append_right (by rw [List.length_map]; exact hi), List.length_map, List.getElem?_map, h]; rfl
theorem two_zero {a b : List rcT.El} (h : twoE a b = 0) : (ckL a).2 = 0 ∧ (ckL b).2 = 0 := by
  unfold twoE at h
  split at h
  · rename_i h1; exact ⟨h1, h⟩
  · rename_i h1; exact absurd h h1
theorem two_eq {a b c d : Int} (h : a = c) (h2 : b = d) : [AV.int .i64 a, AV.int .i64 b] = [AV.int .i64 c, AV.int .i64 d] := by rw [h, h2]
set_option maxRecDepth 100000 in
theorem fnOk_r4Df : FnOk Try.prog 30 Try.f30 := ⟨by rfl, by kernel_rfl, by
  show okCode _ _ = true ∧ drawsOk _ = true
  exact ⟨by kernel_rfl, by kernel_rfl⟩⟩
set_option maxRecDepth 100000 in
set_option maxHeartbeats 4000000 in
theorem r4Df_ok : SpecOk Try.prog 30 spDf := by
  refine spec_body (C := cr12) mixed tbOk spr12 (callN_ok (C := cr12) mixed tbOk spr12 FnsOk.nil 3) fnOk_r4Df ?_
  intro ys p r h hp
  unfold spDf at h
  split at h
  · rename_i a b
    cases h
    by_cases htw : twoE a b = 0
    · have htw' : (!twoE a b == 0) = false := by rw [htw]; rfl
      obtain ⟨hca, hcb⟩ := two_zero htw
      have hla := (ckL_zero hca).1
      have hlb := (ckL_zero hcb).1
      have hd0 : difR a b = if dfL a b = 0 then (0, 4) else (dfL a b, 0) := if_neg (fun e => e htw)
      conv => whnf
      repeat' first
        | ((first | refine idx_kn (by assumption) ?_ | refine idx_ki (by assumption) (by omega) ?_ | refine br_true (by first | with_reducible exact rfl | assumption | decide) ?_ | refine br_false (by first | with_reducible exact rfl | assumption | decide) ?_ | with_reducible first | refine br_kt (by assumption) ?_ | refine br_kf (by assumption) ?_ | refine br_nt (by assumption) ?_ | refine br_nf (by assumption) ?_ | refine br_et (by assumption) ?_ | refine br_ef (by assumption) ?_); conv => whnf)
        | ((with_reducible first | refine br_dec (fun h => ?_) (fun h => ?_) | refine br_ndec (fun h => ?_) (fun h => ?_) | refine br_ne (fun h => ?_) (fun h => ?_) | refine br_eq (fun h => ?_) (fun h => ?_)) <;> first | (exfalso; omega) | conv => whnf)
        | (refine br_intro (fun h => ?_) (fun h => ?_) <;> conv => whnf)
        | ((first | refine need_in (by first | exact trivial | assumption | exact ⟨rfl, Nat.le_refl _⟩ | exact ⟨rfl, rfl⟩ | (simp only [inR]; omega) | omega | (simp only [roomP, true_and, and_true, List.length_take, List.length_drop, List.length_append, List.length_cons, List.length_nil, List.length_set, List.length_replicate]; omega) | (refine ⟨by first | exact trivial | rfl, by first | exact Nat.le_refl _ | omega | (simp; omega), ?_⟩; change roomP _ _ 1; simp only [roomP]; omega) | (change roomP _ _ 1; simp only [roomP]; omega) | (simp; omega) | (simp [inR]; omega) | (simp [inR]; done) | decide | (simp; done)) ?_ | refine idx_nat (by omega) (fun x hx => ?_) | refine frz_auto ?_ | refine draw_plain ?_ | refine idx_intro (by first | omega | (simp; omega) | (simp; done)) (by first | omega | (simp; omega) | (simp; done)) (fun x hx => ?_)); conv => whnf)
      refine loop_inv [] [7, 8] (fun vs h => ∃ i : Nat, vs = [.int .i64 (dfF a b ((keysC a b).take i)), .int .i64 (i : Int)] ∧ h = [] ∧ i ≤ a.length + b.length) (fun vs _ => match vs with | [_, .int _ k] => a.length + b.length - k.toNat | _ => 0) ?_
      refine ⟨⟨0, rfl, rfl, Nat.zero_le _⟩, ?_⟩
      rintro vs h' - ⟨i, rfl, rfl, hi⟩
      by_cases hil : i < a.length + b.length
      · have go : ∀ n, (keysC a b)[i]? = some n → dfF a b ((keysC a b).take (i + 1)) = dfS a b (dfF a b ((keysC a b).take i)) n := fun n h => dfF_snoc h
        generalize hL : dfF a b ((keysC a b).take i) = L at *
        by_cases hia : i < a.length
        · obtain ⟨⟨n, q, u⟩, hx⟩ : ∃ x, a[i]? = some x := ⟨_, List.getElem?_eq_getElem hia⟩
          have hgo := go n (key_a hx)
          by_cases h1 : countC a n = countC b n
          · have hs : dfS a b L n = L := if_neg (fun e => e.1 h1)
            rw [hs] at hgo
            conv => whnf
            repeat' first
              | ((first | refine idx_kn (by assumption) ?_ | refine idx_ki (by assumption) (by omega) ?_ | refine br_true (by first | with_reducible exact rfl | assumption | decide) ?_ | refine br_false (by first | with_reducible exact rfl | assumption | decide) ?_ | with_reducible first | refine br_kt (by assumption) ?_ | refine br_kf (by assumption) ?_ | refine br_nt (by assumption) ?_ | refine br_nf (by assumption) ?_ | refine br_et (by assumption) ?_ | refine br_ef (by assumption) ?_); conv => whnf)
              | ((with_reducible first | refine br_dec (fun h => ?_) (fun h => ?_) | refine br_ndec (fun h => ?_) (fun h => ?_) | refine br_ne (fun h => ?_) (fun h => ?_) | refine br_eq (fun h => ?_) (fun h => ?_)) <;> first | (exfalso; omega) | conv => whnf)
              | (refine br_intro (fun h => ?_) (fun h => ?_) <;> conv => whnf)
              | ((first | refine need_in (by first | exact trivial | assumption | exact ⟨rfl, Nat.le_refl _⟩ | exact ⟨rfl, rfl⟩ | (simp only [inR]; omega) | omega | (simp only [roomP, true_and, and_true, List.length_take, List.length_drop, List.length_append, List.length_cons, List.length_nil, List.length_set, List.length_replicate]; omega) | (refine ⟨by first | exact trivial | rfl, by first | exact Nat.le_refl _ | omega | (simp; omega), ?_⟩; change roomP _ _ 1; simp only [roomP]; omega) | (change roomP _ _ 1; simp only [roomP]; omega) | (simp; omega) | (simp [inR]; omega) | (simp [inR]; done) | decide | (simp; done)) ?_ | refine idx_nat (by omega) (fun x hx => ?_) | refine frz_auto ?_ | refine draw_plain ?_ | refine idx_intro (by first | omega | (simp; omega) | (simp; done)) (by first | omega | (simp; omega) | (simp; done)) (fun x hx => ?_)); conv => whnf)
            refine back_intro (by conv => whnf) rfl ⟨i + 1, two_eq hgo.symm rfl, rfl, by omega⟩ ?_
            show a.length + b.length - ((i : Int) + 1).toNat < a.length + b.length - (i : Int).toNat
            omega
          · by_cases h2 : L = 0
            · have hs : dfS a b L n = n := if_pos ⟨h1, .inl h2⟩
              rw [hs] at hgo
              conv => whnf
              repeat' first
                | ((first | refine idx_kn (by assumption) ?_ | refine idx_ki (by assumption) (by omega) ?_ | refine br_true (by first | with_reducible exact rfl | assumption | decide) ?_ | refine br_false (by first | with_reducible exact rfl | assumption | decide) ?_ | with_reducible first | refine br_kt (by assumption) ?_ | refine br_kf (by assumption) ?_ | refine br_nt (by assumption) ?_ | refine br_nf (by assumption) ?_ | refine br_et (by assumption) ?_ | refine br_ef (by assumption) ?_); conv => whnf)
                | ((with_reducible first | refine br_dec (fun h => ?_) (fun h => ?_) | refine br_ndec (fun h => ?_) (fun h => ?_) | refine br_ne (fun h => ?_) (fun h => ?_) | refine br_eq (fun h => ?_) (fun h => ?_)) <;> first | (exfalso; omega) | conv => whnf)
                | (refine br_intro (fun h => ?_) (fun h => ?_) <;> conv => whnf)
                | ((first | refine need_in (by first | exact trivial | assumption | exact ⟨rfl, Nat.le_refl _⟩ | exact ⟨rfl, rfl⟩ | (simp only [inR]; omega) | omega | (simp only [roomP, true_and, and_true, List.length_take, List.length_drop, List.length_append, List.length_cons, List.length_nil, List.length_set, List.length_replicate]; omega) | (refine ⟨by first | exact trivial | rfl, by first | exact Nat.le_refl _ | omega | (simp; omega), ?_⟩; change roomP _ _ 1; simp only [roomP]; omega) | (change roomP _ _ 1; simp only [roomP]; omega) | (simp; omega) | (simp [inR]; omega) | (simp [inR]; done) | decide | (simp; done)) ?_ | refine idx_nat (by omega) (fun x hx => ?_) | refine frz_auto ?_ | refine draw_plain ?_ | refine idx_intro (by first | omega | (simp; omega) | (simp; done)) (by first | omega | (simp; omega) | (simp; done)) (fun x hx => ?_)); conv => whnf)
              refine back_intro (by conv => whnf) rfl ⟨i + 1, two_eq hgo.symm rfl, rfl, by omega⟩ ?_
              show a.length + b.length - ((i : Int) + 1).toNat < a.length + b.length - (i : Int).toNat
              omega
            · by_cases h3 : n < L
              · have hs : dfS a b L n = n := if_pos ⟨h1, .inr h3⟩
                rw [hs] at hgo
                conv => whnf
                repeat' first
                  | ((first | refine idx_kn (by assumption) ?_ | refine idx_ki (by assumption) (by omega) ?_ | refine br_true (by first | with_reducible exact rfl | assumption | decide) ?_ | refine br_false (by first | with_reducible exact rfl | assumption | decide) ?_ | with_reducible first | refine br_kt (by assumption) ?_ | refine br_kf (by assumption) ?_ | refine br_nt (by assumption) ?_ | refine br_nf (by assumption) ?_ | refine br_et (by assumption) ?_ | refine br_ef (by assumption) ?_); conv => whnf)
                  | ((with_reducible first | refine br_dec (fun h => ?_) (fun h => ?_) | refine br_ndec (fun h => ?_) (fun h => ?_) | refine br_ne (fun h => ?_) (fun h => ?_) | refine br_eq (fun h => ?_) (fun h => ?_)) <;> first | (exfalso; omega) | conv => whnf)
                  | (refine br_intro (fun h => ?_) (fun h => ?_) <;> conv => whnf)
                  | ((first | refine need_in (by first | exact trivial | assumption | exact ⟨rfl, Nat.le_refl _⟩ | exact ⟨rfl, rfl⟩ | (simp only [inR]; omega) | omega | (simp only [roomP, true_and, and_true, List.length_take, List.length_drop, List.length_append, List.length_cons, List.length_nil, List.length_set, List.length_replicate]; omega) | (refine ⟨by first | exact trivial | rfl, by first | exact Nat.le_refl _ | omega | (simp; omega), ?_⟩; change roomP _ _ 1; simp only [roomP]; omega) | (change roomP _ _ 1; simp only [roomP]; omega) | (simp; omega) | (simp [inR]; omega) | (simp [inR]; done) | decide | (simp; done)) ?_ | refine idx_nat (by omega) (fun x hx => ?_) | refine frz_auto ?_ | refine draw_plain ?_ | refine idx_intro (by first | omega | (simp; omega) | (simp; done)) (by first | omega | (simp; omega) | (simp; done)) (fun x hx => ?_)); conv => whnf)
                refine back_intro (by conv => whnf) rfl ⟨i + 1, two_eq hgo.symm rfl, rfl, by omega⟩ ?_
                show a.length + b.length - ((i : Int) + 1).toNat < a.length + b.length - (i : Int).toNat
                omega
              · have hs : dfS a b L n = L := if_neg (fun e => by rcases e.2 with e | e; exact h2 e; exact h3 e)
                rw [hs] at hgo
                conv => whnf
                repeat' first
                  | ((first | refine idx_kn (by assumption) ?_ | refine idx_ki (by assumption) (by omega) ?_ | refine br_true (by first | with_reducible exact rfl | assumption | decide) ?_ | refine br_false (by first | with_reducible exact rfl | assumption | decide) ?_ | with_reducible first | refine br_kt (by assumption) ?_ | refine br_kf (by assumption) ?_ | refine br_nt (by assumption) ?_ | refine br_nf (by assumption) ?_ | refine br_et (by assumption) ?_ | refine br_ef (by assumption) ?_); conv => whnf)
                  | ((with_reducible first | refine br_dec (fun h => ?_) (fun h => ?_) | refine br_ndec (fun h => ?_) (fun h => ?_) | refine br_ne (fun h => ?_) (fun h => ?_) | refine br_eq (fun h => ?_) (fun h => ?_)) <;> first | (exfalso; omega) | conv => whnf)
                  | (refine br_intro (fun h => ?_) (fun h => ?_) <;> conv => whnf)
                  | ((first | refine need_in (by first | exact trivial | assumption | exact ⟨rfl, Nat.le_refl _⟩ | exact ⟨rfl, rfl⟩ | (simp only [inR]; omega) | omega | (simp only [roomP, true_and, and_true, List.length_take, List.length_drop, List.length_append, List.length_cons, List.length_nil, List.length_set, List.length_replicate]; omega) | (refine ⟨by first | exact trivial | rfl, by first | exact Nat.le_refl _ | omega | (simp; omega), ?_⟩; change roomP _ _ 1; simp only [roomP]; omega) | (change roomP _ _ 1; simp only [roomP]; omega) | (simp; omega) | (simp [inR]; omega) | (simp [inR]; done) | decide | (simp; done)) ?_ | refine idx_nat (by omega) (fun x hx => ?_) | refine frz_auto ?_ | refine draw_plain ?_ | refine idx_intro (by first | omega | (simp; omega) | (simp; done)) (by first | omega | (simp; omega) | (simp; done)) (fun x hx => ?_)); conv => whnf)
                refine back_intro (by conv => whnf) rfl ⟨i + 1, two_eq hgo.symm rfl, rfl, by omega⟩ ?_
                show a.length + b.length - ((i : Int) + 1).toNat < a.length + b.length - (i : Int).toNat
                omega
        · obtain ⟨⟨n, q, u⟩, hx⟩ : ∃ x, b[i - a.length]? = some x := ⟨_, List.getElem?_eq_getElem (by omega)⟩
          have hx' : b[((i : Int) - (a.length : Int)).toNat]? = some (n, q, u) := by rw [show ((i : Int) - (a.length : Int)).toNat = i - a.length by omega]; exact hx
          have hgo := go n (key_b (by omega) hx)
          by_cases h1 : countC a n = countC b n
          · have hs : dfS a b L n = L := if_neg (fun e => e.1 h1)
            rw [hs] at hgo
            conv => whnf
            repeat' first
              | ((first | refine idx_kn (by assumption) ?_ | refine idx_ki (by assumption) (by omega) ?_ | refine br_true (by first | with_reducible exact rfl | assumption | decide) ?_ | refine br_false (by first | with_reducible exact rfl | assumption | decide) ?_ | with_reducible first | refine br_kt (by assumption) ?_ | refine br_kf (by assumption) ?_ | refine br_nt (by assumption) ?_ | refine br_nf (by assumption) ?_ | refine br_et (by assumption) ?_ | refine br_ef (by assumption) ?_); conv => whnf)
              | ((with_reducible first | refine br_dec (fun h => ?_) (fun h => ?_) | refine br_ndec (fun h => ?_) (fun h => ?_) | refine br_ne (fun h => ?_) (fun h => ?_) | refine br_eq (fun h => ?_) (fun h => ?_)) <;> first | (exfalso; omega) | conv => whnf)
              | (refine br_intro (fun h => ?_) (fun h => ?_) <;> conv => whnf)
              | ((first | refine need_in (by first | exact trivial | assumption | exact ⟨rfl, Nat.le_refl _⟩ | exact ⟨rfl, rfl⟩ | (simp only [inR]; omega) | omega | (simp only [roomP, true_and, and_true, List.length_take, List.length_drop, List.length_append, List.length_cons, List.length_nil, List.length_set, List.length_replicate]; omega) | (refine ⟨by first | exact trivial | rfl, by first | exact Nat.le_refl _ | omega | (simp; omega), ?_⟩; change roomP _ _ 1; simp only [roomP]; omega) | (change roomP _ _ 1; simp only [roomP]; omega) | (simp; omega) | (simp [inR]; omega) | (simp [inR]; done) | decide | (simp; done)) ?_ | refine idx_nat (by omega) (fun x hx => ?_) | refine frz_auto ?_ | refine draw_plain ?_ | refine idx_intro (by first | omega | (simp; omega) | (simp; done)) (by first | omega | (simp; omega) | (simp; done)) (fun x hx => ?_)); conv => whnf)
            refine back_intro (by conv => whnf) rfl ⟨i + 1, two_eq hgo.symm rfl, rfl, by omega⟩ ?_
            show a.length + b.length - ((i : Int) + 1).toNat < a.length + b.length - (i : Int).toNat
            omega
          · by_cases h2 : L = 0
            · have hs : dfS a b L n = n := if_pos ⟨h1, .inl h2⟩
              rw [hs] at hgo
              conv => whnf
              repeat' first
                | ((first | refine idx_kn (by assumption) ?_ | refine idx_ki (by assumption) (by omega) ?_ | refine br_true (by first | with_reducible exact rfl | assumption | decide) ?_ | refine br_false (by first | with_reducible exact rfl | assumption | decide) ?_ | with_reducible first | refine br_kt (by assumption) ?_ | refine br_kf (by assumption) ?_ | refine br_nt (by assumption) ?_ | refine br_nf (by assumption) ?_ | refine br_et (by assumption) ?_ | refine br_ef (by assumption) ?_); conv => whnf)
                | ((with_reducible first | refine br_dec (fun h => ?_) (fun h => ?_) | refine br_ndec (fun h => ?_) (fun h => ?_) | refine br_ne (fun h => ?_) (fun h => ?_) | refine br_eq (fun h => ?_) (fun h => ?_)) <;> first | (exfalso; omega) | conv => whnf)
                | (refine br_intro (fun h => ?_) (fun h => ?_) <;> conv => whnf)
                | ((first | refine need_in (by first | exact trivial | assumption | exact ⟨rfl, Nat.le_refl _⟩ | exact ⟨rfl, rfl⟩ | (simp only [inR]; omega) | omega | (simp only [roomP, true_and, and_true, List.length_take, List.length_drop, List.length_append, List.length_cons, List.length_nil, List.length_set, List.length_replicate]; omega) | (refine ⟨by first | exact trivial | rfl, by first | exact Nat.le_refl _ | omega | (simp; omega), ?_⟩; change roomP _ _ 1; simp only [roomP]; omega) | (change roomP _ _ 1; simp only [roomP]; omega) | (simp; omega) | (simp [inR]; omega) | (simp [inR]; done) | decide | (simp; done)) ?_ | refine idx_nat (by omega) (fun x hx => ?_) | refine frz_auto ?_ | refine draw_plain ?_ | refine idx_intro (by first | omega | (simp; omega) | (simp; done)) (by first | omega | (simp; omega) | (simp; done)) (fun x hx => ?_)); conv => whnf)
              refine back_intro (by conv => whnf) rfl ⟨i + 1, two_eq hgo.symm rfl, rfl, by omega⟩ ?_
              show a.length + b.length - ((i : Int) + 1).toNat < a.length + b.length - (i : Int).toNat
              omega
            · by_cases h3 : n < L
              · have hs : dfS a b L n = n := if_pos ⟨h1, .inr h3⟩
                rw [hs] at hgo
                conv => whnf
                repeat' first
                  | ((first | refine idx_kn (by assumption) ?_ | refine idx_ki (by assumption) (by omega) ?_ | refine br_true (by first | with_reducible exact rfl | assumption | decide) ?_ | refine br_false (by first | with_reducible exact rfl | assumption | decide) ?_ | with_reducible first | refine br_kt (by assumption) ?_ | refine br_kf (by assumption) ?_ | refine br_nt (by assumption) ?_ | refine br_nf (by assumption) ?_ | refine br_et (by assumption) ?_ | refine br_ef (by assumption) ?_); conv => whnf)
                  | ((with_reducible first | refine br_dec (fun h => ?_) (fun h => ?_) | refine br_ndec (fun h => ?_) (fun h => ?_) | refine br_ne (fun h => ?_) (fun h => ?_) | refine br_eq (fun h => ?_) (fun h => ?_)) <;> first | (exfalso; omega) | conv => whnf)
                  | (refine br_intro (fun h => ?_) (fun h => ?_) <;> conv => whnf)
                  | ((first | refine need_in (by first | exact trivial | assumption | exact ⟨rfl, Nat.le_refl _⟩ | exact ⟨rfl, rfl⟩ | (simp only [inR]; omega) | omega | (simp only [roomP, true_and, and_true, List.length_take, List.length_drop, List.length_append, List.length_cons, List.length_nil, List.length_set, List.length_replicate]; omega) | (refine ⟨by first | exact trivial | rfl, by first | exact Nat.le_refl _ | omega | (simp; omega), ?_⟩; change roomP _ _ 1; simp only [roomP]; omega) | (change roomP _ _ 1; simp only [roomP]; omega) | (simp; omega) | (simp [inR]; omega) | (simp [inR]; done) | decide | (simp; done)) ?_ | refine idx_nat (by omega) (fun x hx => ?_) | refine frz_auto ?_ | refine draw_plain ?_ | refine idx_intro (by first | omega | (simp; omega) | (simp; done)) (by first | omega | (simp; omega) | (simp; done)) (fun x hx => ?_)); conv => whnf)
                refine back_intro (by conv => whnf) rfl ⟨i + 1, two_eq hgo.symm rfl, rfl, by omega⟩ ?_
                show a.length + b.length - ((i : Int) + 1).toNat < a.length + b.length - (i : Int).toNat
                omega
              · have hs : dfS a b L n = L := if_neg (fun e => by rcases e.2 with e | e; exact h2 e; exact h3 e)
                rw [hs] at hgo
                conv => whnf
                repeat' first
                  | ((first | refine idx_kn (by assumption) ?_ | refine idx_ki (by assumption) (by omega) ?_ | refine br_true (by first | with_reducible exact rfl | assumption | decide) ?_ | refine br_false (by first | with_reducible exact rfl | assumption | decide) ?_ | with_reducible first | refine br_kt (by assumption) ?_ | refine br_kf (by assumption) ?_ | refine br_nt (by assumption) ?_ | refine br_nf (by assumption) ?_ | refine br_et (by assumption) ?_ | refine br_ef (by assumption) ?_); conv => whnf)
                  | ((with_reducible first | refine br_dec (fun h => ?_) (fun h => ?_) | refine br_ndec (fun h => ?_) (fun h => ?_) | refine br_ne (fun h => ?_) (fun h => ?_) | refine br_eq (fun h => ?_) (fun h => ?_)) <;> first | (exfalso; omega) | conv => whnf)
                  | (refine br_intro (fun h => ?_) (fun h => ?_) <;> conv => whnf)
                  | ((first | refine need_in (by first | exact trivial | assumption | exact ⟨rfl, Nat.le_refl _⟩ | exact ⟨rfl, rfl⟩ | (simp only [inR]; omega) | omega | (simp only [roomP, true_and, and_true, List.length_take, List.length_drop, List.length_append, List.length_cons, List.length_nil, List.length_set, List.length_replicate]; omega) | (refine ⟨by first | exact trivial | rfl, by first | exact Nat.le_refl _ | omega | (simp; omega), ?_⟩; change roomP _ _ 1; simp only [roomP]; omega) | (change roomP _ _ 1; simp only [roomP]; omega) | (simp; omega) | (simp [inR]; omega) | (simp [inR]; done) | decide | (simp; done)) ?_ | refine idx_nat (by omega) (fun x hx => ?_) | refine frz_auto ?_ | refine draw_plain ?_ | refine idx_intro (by first | omega | (simp; omega) | (simp; done)) (by first | omega | (simp; omega) | (simp; done)) (fun x hx => ?_)); conv => whnf)
                refine back_intro (by conv => whnf) rfl ⟨i + 1, two_eq hgo.symm rfl, rfl, by omega⟩ ?_
                show a.length + b.length - ((i : Int) + 1).toNat < a.length + b.length - (i : Int).toNat
                omega
      · have hL : dfF a b ((keysC a b).take i) = dfL a b := by
          unfold dfL
          rw [List.take_of_length_le]
          rw [List.length_append, List.length_map, List.length_map]; omega
        rw [hL]
        by_cases hz : dfL a b = 0
        · rw [if_pos hz] at hd0
          conv => whnf
          repeat' first
            | ((first | refine idx_kn (by assumption) ?_ | refine idx_ki (by assumption) (by omega) ?_ | refine br_true (by first | with_reducible exact rfl | assumption | decide) ?_ | refine br_false (by first | with_reducible exact rfl | assumption | decide) ?_ | with_reducible first | refine br_kt (by assumption) ?_ | refine br_kf (by assumption) ?_ | refine br_nt (by assumption) ?_ | refine br_nf (by assumption) ?_ | refine br_et (by assumption) ?_ | refine br_ef (by assumption) ?_); conv => whnf)
            | ((with_reducible first | refine br_dec (fun h => ?_) (fun h => ?_) | refine br_ndec (fun h => ?_) (fun h => ?_) | refine br_ne (fun h => ?_) (fun h => ?_) | refine br_eq (fun h => ?_) (fun h => ?_)) <;> first | (exfalso; omega) | conv => whnf)
            | (refine br_intro (fun h => ?_) (fun h => ?_) <;> conv => whnf)
            | ((first | refine need_in (by first | exact trivial | assumption | exact ⟨rfl, Nat.le_refl _⟩ | exact ⟨rfl, rfl⟩ | (simp only [inR]; omega) | omega | (simp only [roomP, true_and, and_true, List.length_take, List.length_drop, List.length_append, List.length_cons, List.length_nil, List.length_set, List.length_replicate]; omega) | (refine ⟨by first | exact trivial | rfl, by first | exact Nat.le_refl _ | omega | (simp; omega), ?_⟩; change roomP _ _ 1; simp only [roomP]; omega) | (change roomP _ _ 1; simp only [roomP]; omega) | (simp; omega) | (simp [inR]; omega) | (simp [inR]; done) | decide | (simp; done)) ?_ | refine idx_nat (by omega) (fun x hx => ?_) | refine frz_auto ?_ | refine draw_plain ?_ | refine idx_intro (by first | omega | (simp; omega) | (simp; done)) (by first | omega | (simp; omega) | (simp; done)) (fun x hx => ?_)); conv => whnf)
          rw [hd0]
        · rw [if_neg hz] at hd0
          conv => whnf
          repeat' first
            | ((first | refine idx_kn (by assumption) ?_ | refine idx_ki (by assumption) (by omega) ?_ | refine br_true (by first | with_reducible exact rfl | assumption | decide) ?_ | refine br_false (by first | with_reducible exact rfl | assumption | decide) ?_ | with_reducible first | refine br_kt (by assumption) ?_ | refine br_kf (by assumption) ?_ | refine br_nt (by assumption) ?_ | refine br_nf (by assumption) ?_ | refine br_et (by assumption) ?_ | refine br_ef (by assumption) ?_); conv => whnf)
            | ((with_reducible first | refine br_dec (fun h => ?_) (fun h => ?_) | refine br_ndec (fun h => ?_) (fun h => ?_) | refine br_ne (fun h => ?_) (fun h => ?_) | refine br_eq (fun h => ?_) (fun h => ?_)) <;> first | (exfalso; omega) | conv => whnf)
            | (refine br_intro (fun h => ?_) (fun h => ?_) <;> conv => whnf)
            | ((first | refine need_in (by first | exact trivial | assumption | exact ⟨rfl, Nat.le_refl _⟩ | exact ⟨rfl, rfl⟩ | (simp only [inR]; omega) | omega | (simp only [roomP, true_and, and_true, List.length_take, List.length_drop, List.length_append, List.length_cons, List.length_nil, List.length_set, List.length_replicate]; omega) | (refine ⟨by first | exact trivial | rfl, by first | exact Nat.le_refl _ | omega | (simp; omega), ?_⟩; change roomP _ _ 1; simp only [roomP]; omega) | (change roomP _ _ 1; simp only [roomP]; omega) | (simp; omega) | (simp [inR]; omega) | (simp [inR]; done) | decide | (simp; done)) ?_ | refine idx_nat (by omega) (fun x hx => ?_) | refine frz_auto ?_ | refine draw_plain ?_ | refine idx_intro (by first | omega | (simp; omega) | (simp; done)) (by first | omega | (simp; omega) | (simp; done)) (fun x hx => ?_)); conv => whnf)
          rw [hd0]
    · have hc : difR a b = (0, twoE a b) := if_pos htw
      have htw' : (!twoE a b == 0) = true := by simpa using htw
      conv => whnf
      repeat' first
        | ((first | refine idx_kn (by assumption) ?_ | refine idx_ki (by assumption) (by omega) ?_ | refine br_true (by first | with_reducible exact rfl | assumption | decide) ?_ | refine br_false (by first | with_reducible exact rfl | assumption | decide) ?_ | with_reducible first | refine br_kt (by assumption) ?_ | refine br_kf (by assumption) ?_ | refine br_nt (by assumption) ?_ | refine br_nf (by assumption) ?_ | refine br_et (by assumption) ?_ | refine br_ef (by assumption) ?_); conv => whnf)
        | ((with_reducible first | refine br_dec (fun h => ?_) (fun h => ?_) | refine br_ndec (fun h => ?_) (fun h => ?_) | refine br_ne (fun h => ?_) (fun h => ?_) | refine br_eq (fun h => ?_) (fun h => ?_)) <;> first | (exfalso; omega) | conv => whnf)
        | (refine br_intro (fun h => ?_) (fun h => ?_) <;> conv => whnf)
        | ((first | refine need_in (by first | exact trivial | assumption | exact ⟨rfl, Nat.le_refl _⟩ | exact ⟨rfl, rfl⟩ | (simp only [inR]; omega) | omega | (simp only [roomP, true_and, and_true, List.length_take, List.length_drop, List.length_append, List.length_cons, List.length_nil, List.length_set, List.length_replicate]; omega) | (refine ⟨by first | exact trivial | rfl, by first | exact Nat.le_refl _ | omega | (simp; omega), ?_⟩; change roomP _ _ 1; simp only [roomP]; omega) | (change roomP _ _ 1; simp only [roomP]; omega) | (simp; omega) | (simp [inR]; omega) | (simp [inR]; done) | decide | (simp; done)) ?_ | refine idx_nat (by omega) (fun x hx => ?_) | refine frz_auto ?_ | refine draw_plain ?_ | refine idx_intro (by first | omega | (simp; omega) | (simp; done)) (by first | omega | (simp; omega) | (simp; done)) (fun x hx => ?_)); conv => whnf)
      rw [hc]
  · cases h
/-! ### Merge -/
def mgN (a b : List rcT.El) : Nat → List rcT.El
  | 0 => a
  | k + 1 => match b[k]? with
    | some x => withC (mgN a b k) (idC x) (countC (mgN a b k) (idC x) + nC x)
    | none => mgN a b k
theorem mgN_step {a b : List rcT.El} {k : Nat} {x : rcT.El} (h : b[k]? = some x) : mgN a b (k + 1) = withC (mgN a b k) (idC x) (countC (mgN a b k) (idC x) + nC x) := by
  show (match b[k]? with | some x => withC (mgN a b k) (idC x) (countC (mgN a b k) (idC x) + nC x) | none => mgN a b k) = _
  rw [h]
theorem mgN_asc {a b : List rcT.El} (ha : ascC a ∧ posC a) : ∀ k, ascC (mgN a b k) ∧ posC (mgN a b k)
  | 0 => ha
  | k + 1 => by
    have ih := mgN_asc (b := b) ha k
    unfold mgN
    split
    · exact ⟨(with_spec ih.1 _ _).1, with_pos ih.1 ih.2 _ _⟩
    · exact ih
theorem mgN_len (a b : List rcT.El) : ∀ k, (mgN a b k).length ≤ a.length + k
  | 0 => Nat.le_refl _
  | k + 1 => by
    have ih := mgN_len a b k
    unfold mgN
    split
    · rename_i x _
      have := withC_len (mgN a b k) (idC x) (countC (mgN a b k) (idC x) + nC x)
      omega
    · omega
theorem cnt_take {b : List rcT.El} (hb : ascC b) {k : Nat} {x : rcT.El} (hx : b[k]? = some x) (n : Int) : countC (b.take (k + 1)) n = (if n = idC x then nC x else countC (b.take k) n) ∧ countC (b.take k) (idC x) = 0 := by
  have hab : ascC (b.take (k + 1)) := List.Pairwise.sublist (List.take_sublist _ _) hb
  have hab0 : ascC (b.take k) := List.Pairwise.sublist (List.take_sublist _ _) hb
  have hsn : b.take (k + 1) = b.take k ++ [x] := by rw [List.take_add_one, hx]; rfl
  have hlt : ∀ z ∈ b.take k, idC z < idC x := by
    have h := hab
    unfold ascC at h
    rw [hsn, List.pairwise_append] at h
    exact fun z hz => h.2.2 z hz x (by simp)
  refine ⟨?_, cnt_none (fun z hz e => by have := hlt z hz; omega)⟩
  by_cases h : n = idC x
  · subst h
    rw [if_pos rfl]
    exact cnt_mem hab (by rw [hsn]; simp)
  · rw [if_neg h]
    rcases cnt_cases (b.take k) n with ⟨z, hz, rfl⟩ | hno
    · rw [cnt_mem hab0 hz]
      exact cnt_mem hab (by rw [hsn]; simp [hz])
    · rw [cnt_none hno]
      refine cnt_none (fun z hz e => ?_)
      rw [hsn] at hz
      rcases List.mem_append.1 hz with hz | hz
      · exact hno z hz e
      · have : z = x := by simpa using hz
        rw [this] at e
        exact h e.symm
theorem mgN_cnt {a b : List rcT.El} (ha : ascC a ∧ posC a) (hb : ascC b ∧ posC b) : ∀ k, k ≤ b.length → ∀ n, countC (mgN a b k) n = countC a n + countC (b.take k) n
  | 0, _, n => by rw [List.take_zero, cntC_nil, Int.add_zero]; rfl
  | k + 1, hk, n => by
    obtain ⟨x, hx⟩ : ∃ x, b[k]? = some x := ⟨_, List.getElem?_eq_getElem (by omega)⟩
    have ih := mgN_cnt ha hb k (by omega)
    have hm := mgN_asc (b := b) ha k
    obtain ⟨h1, h2⟩ := cnt_take hb.1 hx n
    rw [mgN_step hx, with_cnt hm.1, h1, ih, ih, h2]
    have h3 := cnt_nonneg ha.1 ha.2 (idC x)
    have h4 := hb.2 x (List.mem_of_getElem? hx)
    by_cases h : n = idC x
    · subst h
      rw [if_pos rfl, if_pos rfl, if_pos (by omega)]
      omega
    · rw [if_neg h, if_neg h]
theorem in_q {q : Int} (h1 : 1 ≤ q) (h2 : q ≤ 1000000) : inR .i64 q := by constructor <;> omega
theorem in_cq {c q : Int} (h0 : 0 ≤ c) (h : c ≤ 1000000) (h1 : 1 ≤ q) (h2 : q ≤ 1000000) : inR .i64 (c + q) := by constructor <;> omega
def mergeL (a b : List rcT.El) : List rcT.El × Int := if twoE a b ≠ 0 then ([], twoE a b) else tabR (mgN a b b.length)
def spMg : DSpec
  | [.lst (.st [.int .i64, .int .i64]) a, .lst (.st [.int .i64, .int .i64]) b] => some (True, .tup [.lst rcT (mergeL a b).1, .int .i64 (mergeL a b).2])
  | _ => none
set_option maxRecDepth 100000 in
theorem fnOk_r4Mg : FnOk Try.prog 32 Try.f32 := ⟨by rfl, by kernel_rfl, by
  show okCode _ _ = true ∧ drawsOk _ = true
  exact ⟨by kernel_rfl, by kernel_rfl⟩⟩
set_option maxRecDepth 100000 in
set_option maxHeartbeats 4000000 in
theorem r4Mg_ok : SpecOk Try.prog 32 spMg := by
  refine spec_body (C := cr12) mixed tbOk spr12 (callN_ok (C := cr12) mixed tbOk spr12 FnsOk.nil 3) fnOk_r4Mg ?_
  intro ys p r h hp
  unfold spMg at h
  split at h
  · rename_i a b
    cases h
    by_cases htw : twoE a b = 0
    · have htw' : (!twoE a b == 0) = false := by rw [htw]; rfl
      obtain ⟨hca, hcb⟩ := two_zero htw
      obtain ⟨hla, hga, hasa⟩ := ckL_zero hca
      obtain ⟨hlb, hgb, hasb⟩ := ckL_zero hcb
      have ha : ascC a ∧ posC a := ⟨hasa, good_pos hga⟩
      have hb : ascC b ∧ posC b := ⟨hasb, good_pos hgb⟩
      have hd0 : mergeL a b = tabR (mgN a b b.length) := if_neg (fun e => e htw)
      conv => whnf
      repeat' first
        | ((first | refine idx_kn (by assumption) ?_ | refine idx_ki (by assumption) (by omega) ?_ | refine br_true (by first | with_reducible exact rfl | assumption | decide) ?_ | refine br_false (by first | with_reducible exact rfl | assumption | decide) ?_ | with_reducible first | refine br_kt (by assumption) ?_ | refine br_kf (by assumption) ?_ | refine br_nt (by assumption) ?_ | refine br_nf (by assumption) ?_ | refine br_et (by assumption) ?_ | refine br_ef (by assumption) ?_); conv => whnf)
        | ((with_reducible first | refine br_dec (fun h => ?_) (fun h => ?_) | refine br_ndec (fun h => ?_) (fun h => ?_) | refine br_ne (fun h => ?_) (fun h => ?_) | refine br_eq (fun h => ?_) (fun h => ?_)) <;> first | (exfalso; omega) | conv => whnf)
        | (refine br_intro (fun h => ?_) (fun h => ?_) <;> conv => whnf)
        | ((first | refine need_in (by first | exact trivial | assumption | exact ⟨rfl, Nat.le_refl _⟩ | exact ⟨rfl, rfl⟩ | (simp only [inR]; omega) | omega | (simp only [roomP, true_and, and_true, List.length_take, List.length_drop, List.length_append, List.length_cons, List.length_nil, List.length_set, List.length_replicate]; omega) | (refine ⟨by first | exact trivial | rfl, by first | exact Nat.le_refl _ | omega | (simp; omega), ?_⟩; change roomP _ _ 1; simp only [roomP]; omega) | (change roomP _ _ 1; simp only [roomP]; omega) | (simp; omega) | (simp [inR]; omega) | (simp [inR]; done) | decide | (simp; done)) ?_ | refine idx_nat (by omega) (fun x hx => ?_) | refine frz_auto ?_ | refine draw_plain ?_ | refine idx_intro (by first | omega | (simp; omega) | (simp; done)) (by first | omega | (simp; omega) | (simp; done)) (fun x hx => ?_)); conv => whnf)
      refine loop_inv [.lst 7 rcT] [7, 8] (fun vs h => ∃ k : Nat, vs = [.lst rcT (mgN a b k), .int .i64 (k : Int)] ∧ h = [.arr 52 rcT [] false 0, .dead] ∧ k ≤ b.length) (fun vs _ => match vs with | [_, .int _ k] => b.length - k.toNat | _ => 0) ?_
      conv => whnf
      repeat' first
        | ((first | refine idx_kn (by assumption) ?_ | refine idx_ki (by assumption) (by omega) ?_ | refine br_true (by first | with_reducible exact rfl | assumption | decide) ?_ | refine br_false (by first | with_reducible exact rfl | assumption | decide) ?_ | with_reducible first | refine br_kt (by assumption) ?_ | refine br_kf (by assumption) ?_ | refine br_nt (by assumption) ?_ | refine br_nf (by assumption) ?_ | refine br_et (by assumption) ?_ | refine br_ef (by assumption) ?_); conv => whnf)
        | ((with_reducible first | refine br_dec (fun h => ?_) (fun h => ?_) | refine br_ndec (fun h => ?_) (fun h => ?_) | refine br_ne (fun h => ?_) (fun h => ?_) | refine br_eq (fun h => ?_) (fun h => ?_)) <;> first | (exfalso; omega) | conv => whnf)
        | (refine br_intro (fun h => ?_) (fun h => ?_) <;> conv => whnf)
        | ((first | refine need_in (by first | exact trivial | assumption | exact ⟨rfl, Nat.le_refl _⟩ | exact ⟨rfl, rfl⟩ | (simp only [inR]; omega) | omega | (simp only [roomP, true_and, and_true, List.length_take, List.length_drop, List.length_append, List.length_cons, List.length_nil, List.length_set, List.length_replicate]; omega) | (refine ⟨by first | exact trivial | rfl, by first | exact Nat.le_refl _ | omega | (simp; omega), ?_⟩; change roomP _ _ 1; simp only [roomP]; omega) | (change roomP _ _ 1; simp only [roomP]; omega) | (simp; omega) | (simp [inR]; omega) | (simp [inR]; done) | decide | (simp; done)) ?_ | refine idx_nat (by omega) (fun x hx => ?_) | refine frz_auto ?_ | refine draw_plain ?_ | refine idx_intro (by first | omega | (simp; omega) | (simp; done)) (by first | omega | (simp; omega) | (simp; done)) (fun x hx => ?_)); conv => whnf)
      refine ⟨⟨0, congrArg (fun x => [AV.lst rcT x, .int .i64 0]) ?_, rfl, Nat.zero_le _⟩, ?_⟩
      · simp only [cast_self, List.take_zero, List.nil_append, Nat.zero_add, List.take_length]
        rfl
      rintro vs h' - ⟨k, rfl, rfl, hk⟩
      have hml := mgN_len a b k
      have hma := mgN_asc (b := b) ha k
      by_cases hkl : k < b.length
      · obtain ⟨⟨n, q, u⟩, hx⟩ : ∃ x, b[k]? = some x := ⟨_, List.getElem?_eq_getElem hkl⟩
        have hbs := mgN_step (a := a) hx
        have hq : (1 : Int) ≤ q := (hgb _ (List.mem_of_getElem? hx)).2.1
        have hq2 : (q : Int) ≤ 1000000 := (hgb _ (List.mem_of_getElem? hx)).2.2
        have hcb : countC (mgN a b k) n ≤ 1000000 := by
          rw [mgN_cnt ha hb k hk, (cnt_take (x := (n, q, u)) hb.1 hx 0).2]
          have := cnt_bnd (B := 1000000) (by decide) (fun x hx => (hga x hx).2.2) n
          omega
        have hc0 := cnt_nonneg hma.1 hma.2 n
        have hr1 := in_q hq hq2
        have hr2 := in_cq hc0 hcb hq hq2
        generalize hB : mgN a b k = B at *
        conv => whnf
        repeat' first
          | ((first | refine idx_kn (by assumption) ?_ | refine idx_ki (by assumption) (by omega) ?_ | refine br_true (by first | with_reducible exact rfl | assumption | decide) ?_ | refine br_false (by first | with_reducible exact rfl | assumption | decide) ?_ | with_reducible first | refine br_kt (by assumption) ?_ | refine br_kf (by assumption) ?_ | refine br_nt (by assumption) ?_ | refine br_nf (by assumption) ?_ | refine br_et (by assumption) ?_ | refine br_ef (by assumption) ?_); conv => whnf)
          | ((with_reducible first | refine br_dec (fun h => ?_) (fun h => ?_) | refine br_ndec (fun h => ?_) (fun h => ?_) | refine br_ne (fun h => ?_) (fun h => ?_) | refine br_eq (fun h => ?_) (fun h => ?_)) <;> first | (exfalso; omega) | conv => whnf)
          | (refine br_intro (fun h => ?_) (fun h => ?_) <;> conv => whnf)
          | ((first | refine need_in (by first | exact trivial | assumption | exact ⟨rfl, Nat.le_refl _⟩ | exact ⟨rfl, rfl⟩ | (simp only [inR]; omega) | omega | (simp only [roomP, true_and, and_true, List.length_take, List.length_drop, List.length_append, List.length_cons, List.length_nil, List.length_set, List.length_replicate]; omega) | (refine ⟨by first | exact trivial | rfl, by first | exact Nat.le_refl _ | omega | (simp; omega), ?_⟩; change roomP _ _ 1; simp only [roomP]; omega) | (change roomP _ _ 1; simp only [roomP]; omega) | (simp; omega) | (simp [inR]; omega) | (simp [inR]; done) | decide | (simp; done)) ?_ | refine idx_nat (by omega) (fun x hx => ?_) | refine frz_auto ?_ | refine draw_plain ?_ | refine idx_intro (by first | omega | (simp; omega) | (simp; done)) (by first | omega | (simp; omega) | (simp; done)) (fun x hx => ?_)); conv => whnf)
        refine back_intro (by conv => whnf) rfl ⟨k + 1, congrArg (fun x => [AV.lst rcT x, .int .i64 ((k : Int) + 1)]) hbs.symm, rfl, by omega⟩ ?_
        show b.length - ((k : Int) + 1).toNat < b.length - (k : Int).toNat
        omega
      · have hkn : k = b.length := by omega
        subst hkn
        generalize hB : mgN a b b.length = B at *
        unfold tabR at hd0
        by_cases hlm : limE B = 0
        · have hlm' : (!limE B == 0) = false := by rw [hlm]; rfl
          rw [if_neg (fun e => e hlm)] at hd0
          conv => whnf
          repeat' first
            | ((first | refine idx_kn (by assumption) ?_ | refine idx_ki (by assumption) (by omega) ?_ | refine br_true (by first | with_reducible exact rfl | assumption | decide) ?_ | refine br_false (by first | with_reducible exact rfl | assumption | decide) ?_ | with_reducible first | refine br_kt (by assumption) ?_ | refine br_kf (by assumption) ?_ | refine br_nt (by assumption) ?_ | refine br_nf (by assumption) ?_ | refine br_et (by assumption) ?_ | refine br_ef (by assumption) ?_); conv => whnf)
            | ((with_reducible first | refine br_dec (fun h => ?_) (fun h => ?_) | refine br_ndec (fun h => ?_) (fun h => ?_) | refine br_ne (fun h => ?_) (fun h => ?_) | refine br_eq (fun h => ?_) (fun h => ?_)) <;> first | (exfalso; omega) | conv => whnf)
            | (refine br_intro (fun h => ?_) (fun h => ?_) <;> conv => whnf)
            | ((first | refine need_in (by first | exact trivial | assumption | exact ⟨rfl, Nat.le_refl _⟩ | exact ⟨rfl, rfl⟩ | (simp only [inR]; omega) | omega | (simp only [roomP, true_and, and_true, List.length_take, List.length_drop, List.length_append, List.length_cons, List.length_nil, List.length_set, List.length_replicate]; omega) | (refine ⟨by first | exact trivial | rfl, by first | exact Nat.le_refl _ | omega | (simp; omega), ?_⟩; change roomP _ _ 1; simp only [roomP]; omega) | (change roomP _ _ 1; simp only [roomP]; omega) | (simp; omega) | (simp [inR]; omega) | (simp [inR]; done) | decide | (simp; done)) ?_ | refine idx_nat (by omega) (fun x hx => ?_) | refine frz_auto ?_ | refine draw_plain ?_ | refine idx_intro (by first | omega | (simp; omega) | (simp; done)) (by first | omega | (simp; omega) | (simp; done)) (fun x hx => ?_)); conv => whnf)
          rw [hd0]
        · have hlm' : (!limE B == 0) = true := by simpa using hlm
          rw [if_pos hlm] at hd0
          conv => whnf
          repeat' first
            | ((first | refine idx_kn (by assumption) ?_ | refine idx_ki (by assumption) (by omega) ?_ | refine br_true (by first | with_reducible exact rfl | assumption | decide) ?_ | refine br_false (by first | with_reducible exact rfl | assumption | decide) ?_ | with_reducible first | refine br_kt (by assumption) ?_ | refine br_kf (by assumption) ?_ | refine br_nt (by assumption) ?_ | refine br_nf (by assumption) ?_ | refine br_et (by assumption) ?_ | refine br_ef (by assumption) ?_); conv => whnf)
            | ((with_reducible first | refine br_dec (fun h => ?_) (fun h => ?_) | refine br_ndec (fun h => ?_) (fun h => ?_) | refine br_ne (fun h => ?_) (fun h => ?_) | refine br_eq (fun h => ?_) (fun h => ?_)) <;> first | (exfalso; omega) | conv => whnf)
            | (refine br_intro (fun h => ?_) (fun h => ?_) <;> conv => whnf)
            | ((first | refine need_in (by first | exact trivial | assumption | exact ⟨rfl, Nat.le_refl _⟩ | exact ⟨rfl, rfl⟩ | (simp only [inR]; omega) | omega | (simp only [roomP, true_and, and_true, List.length_take, List.length_drop, List.length_append, List.length_cons, List.length_nil, List.length_set, List.length_replicate]; omega) | (refine ⟨by first | exact trivial | rfl, by first | exact Nat.le_refl _ | omega | (simp; omega), ?_⟩; change roomP _ _ 1; simp only [roomP]; omega) | (change roomP _ _ 1; simp only [roomP]; omega) | (simp; omega) | (simp [inR]; omega) | (simp [inR]; done) | decide | (simp; done)) ?_ | refine idx_nat (by omega) (fun x hx => ?_) | refine frz_auto ?_ | refine draw_plain ?_ | refine idx_intro (by first | omega | (simp; omega) | (simp; done)) (by first | omega | (simp; omega) | (simp; done)) (fun x hx => ?_)); conv => whnf)
          rw [hd0]; rfl
    · have hc : mergeL a b = ([], twoE a b) := if_pos htw
      have htw' : (!twoE a b == 0) = true := by simpa using htw
      conv => whnf
      repeat' first
        | ((first | refine idx_kn (by assumption) ?_ | refine idx_ki (by assumption) (by omega) ?_ | refine br_true (by first | with_reducible exact rfl | assumption | decide) ?_ | refine br_false (by first | with_reducible exact rfl | assumption | decide) ?_ | with_reducible first | refine br_kt (by assumption) ?_ | refine br_kf (by assumption) ?_ | refine br_nt (by assumption) ?_ | refine br_nf (by assumption) ?_ | refine br_et (by assumption) ?_ | refine br_ef (by assumption) ?_); conv => whnf)
        | ((with_reducible first | refine br_dec (fun h => ?_) (fun h => ?_) | refine br_ndec (fun h => ?_) (fun h => ?_) | refine br_ne (fun h => ?_) (fun h => ?_) | refine br_eq (fun h => ?_) (fun h => ?_)) <;> first | (exfalso; omega) | conv => whnf)
        | (refine br_intro (fun h => ?_) (fun h => ?_) <;> conv => whnf)
        | ((first | refine need_in (by first | exact trivial | assumption | exact ⟨rfl, Nat.le_refl _⟩ | exact ⟨rfl, rfl⟩ | (simp only [inR]; omega) | omega | (simp only [roomP, true_and, and_true, List.length_take, List.length_drop, List.length_append, List.length_cons, List.length_nil, List.length_set, List.length_replicate]; omega) | (refine ⟨by first | exact trivial | rfl, by first | exact Nat.le_refl _ | omega | (simp; omega), ?_⟩; change roomP _ _ 1; simp only [roomP]; omega) | (change roomP _ _ 1; simp only [roomP]; omega) | (simp; omega) | (simp [inR]; omega) | (simp [inR]; done) | decide | (simp; done)) ?_ | refine idx_nat (by omega) (fun x hx => ?_) | refine frz_auto ?_ | refine draw_plain ?_ | refine idx_intro (by first | omega | (simp; omega) | (simp; done)) (by first | omega | (simp; omega) | (simp; done)) (fun x hx => ?_)); conv => whnf)
      rw [hc]; rfl
  · cases h
end Go.Proofs.Ytadckioheabliaa
