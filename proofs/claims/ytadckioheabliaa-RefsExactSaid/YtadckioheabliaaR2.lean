/-
  Tables of counts: the first fault, by both.
  Tables by the reference: places, counts, one count put in; lists of numbers.
-/
import Derived.Test.YtadckioheabliaaGF
import Derived.Test.YtadckioheabliaaAvq
import Derived.Test.YtadckioheabliaaTb
namespace Go.Proofs.Ytadckioheabliaa
open Av

theorem mixed : Try.prog.follows .mixedOrders = true := by kernel_rfl
noncomputable def cx0 : Cx := ⟨tb, [], []⟩
abbrev rcT : Ty := .st [.int .i64, .int .i64]
abbrev idC (x : rcT.El) : Int := x.1
abbrev nC (x : rcT.El) : Int := x.2.1
def knownI (n : Int) : Bool := decide (1 ≤ n) && decide (n ≤ 1000000)
def spKnown : DSpec
  | [.int .i64 n] => some (True, .bool (knownI n))
  | _ => none
set_option maxRecDepth 100000 in
theorem fnOk_rfKnown : FnOk Try.prog 34 Try.f34 := ⟨by rfl, by kernel_rfl, by
  show okCode _ _ = true ∧ drawsOk _ = true
  exact ⟨by kernel_rfl, by kernel_rfl⟩⟩
set_option maxRecDepth 100000 in
theorem rfKnown_ok : SpecOk Try.prog 34 spKnown := by
  refine spec_body (C := cx0) mixed tbOk SpecsOk.nil (callN_ok (C := cx0) mixed tbOk SpecsOk.nil FnsOk.nil 0) fnOk_rfKnown ?_
  intro ys p r h hp
  unfold spKnown at h
  split at h
  · rename_i n
    cases h
    unfold knownI
    by_cases h1 : 1 ≤ n
    · conv => whnf
      repeat' first
        | ((first | refine idx_kn (by assumption) ?_ | refine idx_ki (by assumption) (by omega) ?_ | refine br_true (by first | with_reducible exact rfl | assumption | decide) ?_ | refine br_false (by first | with_reducible exact rfl | assumption | decide) ?_ | with_reducible first | refine br_kt (by assumption) ?_ | refine br_kf (by assumption) ?_ | refine br_nt (by assumption) ?_ | refine br_nf (by assumption) ?_ | refine br_et (by assumption) ?_ | refine br_ef (by assumption) ?_); conv => whnf)
        | ((with_reducible first | refine br_dec (fun h => ?_) (fun h => ?_) | refine br_ndec (fun h => ?_) (fun h => ?_) | refine br_ne (fun h => ?_) (fun h => ?_) | refine br_eq (fun h => ?_) (fun h => ?_)) <;> first | (exfalso; omega) | conv => whnf)
        | (refine br_intro (fun h => ?_) (fun h => ?_) <;> conv => whnf)
        | ((first | refine need_in (by first | exact trivial | assumption | exact ⟨rfl, Nat.le_refl _⟩ | exact ⟨rfl, rfl⟩ | (simp only [inR]; omega) | omega | (simp only [roomP, true_and, and_true, List.length_take, List.length_drop, List.length_append, List.length_cons, List.length_nil, List.length_set, List.length_replicate]; omega) | (refine ⟨by first | exact trivial | rfl, by first | exact Nat.le_refl _ | omega | (simp; omega), ?_⟩; change roomP _ _ 1; simp only [roomP]; omega) | (change roomP _ _ 1; simp only [roomP]; omega) | (simp; omega) | (simp [inR]; omega) | (simp [inR]; done) | decide | (simp; done)) ?_ | refine idx_nat (by omega) (fun x hx => ?_) | refine frz_auto ?_ | refine draw_plain ?_ | refine idx_intro (by first | omega | (simp; omega) | (simp; done)) (by first | omega | (simp; omega) | (simp; done)) (fun x hx => ?_)); conv => whnf)
      rw [decide_eq_true h1]; rfl
    · conv => whnf
      repeat' first
        | ((first | refine idx_kn (by assumption) ?_ | refine idx_ki (by assumption) (by omega) ?_ | refine br_true (by first | with_reducible exact rfl | assumption | decide) ?_ | refine br_false (by first | with_reducible exact rfl | assumption | decide) ?_ | with_reducible first | refine br_kt (by assumption) ?_ | refine br_kf (by assumption) ?_ | refine br_nt (by assumption) ?_ | refine br_nf (by assumption) ?_ | refine br_et (by assumption) ?_ | refine br_ef (by assumption) ?_); conv => whnf)
        | ((with_reducible first | refine br_dec (fun h => ?_) (fun h => ?_) | refine br_ndec (fun h => ?_) (fun h => ?_) | refine br_ne (fun h => ?_) (fun h => ?_) | refine br_eq (fun h => ?_) (fun h => ?_)) <;> first | (exfalso; omega) | conv => whnf)
        | (refine br_intro (fun h => ?_) (fun h => ?_) <;> conv => whnf)
        | ((first | refine need_in (by first | exact trivial | assumption | exact ⟨rfl, Nat.le_refl _⟩ | exact ⟨rfl, rfl⟩ | (simp only [inR]; omega) | omega | (simp only [roomP, true_and, and_true, List.length_take, List.length_drop, List.length_append, List.length_cons, List.length_nil, List.length_set, List.length_replicate]; omega) | (refine ⟨by first | exact trivial | rfl, by first | exact Nat.le_refl _ | omega | (simp; omega), ?_⟩; change roomP _ _ 1; simp only [roomP]; omega) | (change roomP _ _ 1; simp only [roomP]; omega) | (simp; omega) | (simp [inR]; omega) | (simp [inR]; done) | decide | (simp; done)) ?_ | refine idx_nat (by omega) (fun x hx => ?_) | refine frz_auto ?_ | refine draw_plain ?_ | refine idx_intro (by first | omega | (simp; omega) | (simp; done)) (by first | omega | (simp; omega) | (simp; done)) (fun x hx => ?_)); conv => whnf)
      rw [decide_eq_false h1]; rfl
  · cases h
def fallC : Option Int → Int → Prop
  | none, _ => False
  | some y, n => n ≤ y
instance : ∀ (o : Option Int) (n : Int), Decidable (fallC o n)
  | none, _ => inferInstanceAs (Decidable False)
  | some y, n => inferInstanceAs (Decidable (n ≤ y))
def ckGo (pv : Option Int) (i : Int) : List rcT.El → Int × Int
  | [] => (0, 0)
  | x :: l => if knownI (idC x) = false ∨ nC x < 1 ∨ 1000000 < nC x then (i, 7) else if fallC pv (idC x) then (i, 6) else ckGo (some (idC x)) (i + 1) l
def ckL (t : List rcT.El) : Int × Int := if 500 < t.length then (-1, 3) else ckGo none 0 t
def pvC (t : List rcT.El) : Nat → Option Int
  | 0 => none
  | i + 1 => (t[i]?).map idC
theorem ck_step {t : List rcT.El} {i : Nat} {x : rcT.El} (hx : t[i]? = some x) : ckGo (pvC t i) (i : Int) (t.drop i) = if knownI (idC x) = false ∨ nC x < 1 ∨ 1000000 < nC x then ((i : Int), 7) else if fallC (pvC t i) (idC x) then ((i : Int), 6) else ckGo (pvC t (i + 1)) ((i + 1 : Nat) : Int) (t.drop (i + 1)) := by
  have hi := (List.getElem?_eq_some_iff.1 hx).1
  have he := (List.getElem?_eq_some_iff.1 hx).2
  rw [List.drop_eq_getElem_cons hi, he, ckGo]
  rw [show pvC t (i + 1) = some (idC x) by show (t[i]?).map _ = _; rw [hx]; rfl]
  rfl
def spCk : DSpec
  | [.lst (.st [.int .i64, .int .i64]) t] => some (True, .tup [.int .i64 (ckL t).1, .int .i64 (ckL t).2])
  | _ => none
set_option maxRecDepth 100000 in
theorem fnOk_rfCk : FnOk Try.prog 12 Try.f12 := ⟨by rfl, by kernel_rfl, by
  show okCode _ _ = true ∧ drawsOk _ = true
  exact ⟨by kernel_rfl, by kernel_rfl⟩⟩
noncomputable def cr1 : Cx := ⟨tb, [], [(34, spKnown)]⟩
theorem spr1 : SpecsOk Try.prog cr1.specs := .cons rfKnown_ok .nil
set_option maxRecDepth 100000 in
set_option maxHeartbeats 4000000 in
theorem rfCk_ok : SpecOk Try.prog 12 spCk := by
  refine spec_body (C := cr1) mixed tbOk spr1 (callN_ok (C := cr1) mixed tbOk spr1 FnsOk.nil 3) fnOk_rfCk ?_
  intro ys p r h hp
  unfold spCk at h
  split at h
  · rename_i t
    cases h
    by_cases hl : 500 < (t.length : Int)
    · have hc : ckL t = (-1, 3) := by unfold ckL; rw [if_pos (by omega)]
      conv => whnf
      repeat' first
        | ((first | refine idx_kn (by assumption) ?_ | refine idx_ki (by assumption) (by omega) ?_ | refine br_true (by first | with_reducible exact rfl | assumption | decide) ?_ | refine br_false (by first | with_reducible exact rfl | assumption | decide) ?_ | with_reducible first | refine br_kt (by assumption) ?_ | refine br_kf (by assumption) ?_ | refine br_nt (by assumption) ?_ | refine br_nf (by assumption) ?_ | refine br_et (by assumption) ?_ | refine br_ef (by assumption) ?_); conv => whnf)
        | ((with_reducible first | refine br_dec (fun h => ?_) (fun h => ?_) | refine br_ndec (fun h => ?_) (fun h => ?_) | refine br_ne (fun h => ?_) (fun h => ?_) | refine br_eq (fun h => ?_) (fun h => ?_)) <;> first | (exfalso; omega) | conv => whnf)
        | (refine br_intro (fun h => ?_) (fun h => ?_) <;> conv => whnf)
        | ((first | refine need_in (by first | exact trivial | assumption | exact ⟨rfl, Nat.le_refl _⟩ | exact ⟨rfl, rfl⟩ | (simp only [inR]; omega) | omega | (simp only [roomP, true_and, and_true, List.length_take, List.length_drop, List.length_append, List.length_cons, List.length_nil, List.length_set, List.length_replicate]; omega) | (refine ⟨by first | exact trivial | rfl, by first | exact Nat.le_refl _ | omega | (simp; omega), ?_⟩; change roomP _ _ 1; simp only [roomP]; omega) | (change roomP _ _ 1; simp only [roomP]; omega) | (simp; omega) | (simp [inR]; omega) | (simp [inR]; done) | decide | (simp; done)) ?_ | refine idx_nat (by omega) (fun x hx => ?_) | refine frz_auto ?_ | refine draw_plain ?_ | refine idx_intro (by first | omega | (simp; omega) | (simp; done)) (by first | omega | (simp; omega) | (simp; done)) (fun x hx => ?_)); conv => whnf)
      rw [hc]
    · have hc0 : ckL t = ckGo none 0 t := by unfold ckL; rw [if_neg (by omega)]
      conv => whnf
      repeat' first
        | ((first | refine idx_kn (by assumption) ?_ | refine idx_ki (by assumption) (by omega) ?_ | refine br_true (by first | with_reducible exact rfl | assumption | decide) ?_ | refine br_false (by first | with_reducible exact rfl | assumption | decide) ?_ | with_reducible first | refine br_kt (by assumption) ?_ | refine br_kf (by assumption) ?_ | refine br_nt (by assumption) ?_ | refine br_nf (by assumption) ?_ | refine br_et (by assumption) ?_ | refine br_ef (by assumption) ?_); conv => whnf)
        | ((with_reducible first | refine br_dec (fun h => ?_) (fun h => ?_) | refine br_ndec (fun h => ?_) (fun h => ?_) | refine br_ne (fun h => ?_) (fun h => ?_) | refine br_eq (fun h => ?_) (fun h => ?_)) <;> first | (exfalso; omega) | conv => whnf)
        | (refine br_intro (fun h => ?_) (fun h => ?_) <;> conv => whnf)
        | ((first | refine need_in (by first | exact trivial | assumption | exact ⟨rfl, Nat.le_refl _⟩ | exact ⟨rfl, rfl⟩ | (simp only [inR]; omega) | omega | (simp only [roomP, true_and, and_true, List.length_take, List.length_drop, List.length_append, List.length_cons, List.length_nil, List.length_set, List.length_replicate]; omega) | (refine ⟨by first | exact trivial | rfl, by first | exact Nat.le_refl _ | omega | (simp; omega), ?_⟩; change roomP _ _ 1; simp only [roomP]; omega) | (change roomP _ _ 1; simp only [roomP]; omega) | (simp; omega) | (simp [inR]; omega) | (simp [inR]; done) | decide | (simp; done)) ?_ | refine idx_nat (by omega) (fun x hx => ?_) | refine frz_auto ?_ | refine draw_plain ?_ | refine idx_intro (by first | omega | (simp; omega) | (simp; done)) (by first | omega | (simp; omega) | (simp; done)) (fun x hx => ?_)); conv => whnf)
      refine loop_inv [] [11] (fun vs h => ∃ i : Nat, vs = [.int .i64 (i : Int)] ∧ h = [] ∧ i ≤ t.length ∧ ckL t = ckGo (pvC t i) (i : Int) (t.drop i)) (fun vs _ => match vs with | [.int _ k] => t.length - k.toNat | _ => 0) ?_
      refine ⟨⟨0, rfl, rfl, by omega, hc0⟩, ?_⟩
      rintro vs h' - ⟨i, rfl, rfl, hi, hc⟩
      by_cases hil : i < t.length
      · obtain ⟨⟨a, m, u⟩, hx⟩ : ∃ x, t[i]? = some x := ⟨_, List.getElem?_eq_getElem hil⟩
        rw [ck_step hx] at hc
        cases hk : knownI a with
        | false =>
          have hk' : (!knownI a) = true := by rw [hk]; rfl
          rw [if_pos (.inl hk)] at hc
          conv => whnf
          repeat' first
            | ((first | refine idx_kn (by assumption) ?_ | refine idx_ki (by assumption) (by omega) ?_ | refine br_true (by first | with_reducible exact rfl | assumption | decide) ?_ | refine br_false (by first | with_reducible exact rfl | assumption | decide) ?_ | with_reducible first | refine br_kt (by assumption) ?_ | refine br_kf (by assumption) ?_ | refine br_nt (by assumption) ?_ | refine br_nf (by assumption) ?_ | refine br_et (by assumption) ?_ | refine br_ef (by assumption) ?_); conv => whnf)
            | ((with_reducible first | refine br_dec (fun h => ?_) (fun h => ?_) | refine br_ndec (fun h => ?_) (fun h => ?_) | refine br_ne (fun h => ?_) (fun h => ?_) | refine br_eq (fun h => ?_) (fun h => ?_)) <;> first | (exfalso; omega) | conv => whnf)
            | (refine br_intro (fun h => ?_) (fun h => ?_) <;> conv => whnf)
            | ((first | refine need_in (by first | exact trivial | assumption | exact ⟨rfl, Nat.le_refl _⟩ | exact ⟨rfl, rfl⟩ | (simp only [inR]; omega) | omega | (simp only [roomP, true_and, and_true, List.length_take, List.length_drop, List.length_append, List.length_cons, List.length_nil, List.length_set, List.length_replicate]; omega) | (refine ⟨by first | exact trivial | rfl, by first | exact Nat.le_refl _ | omega | (simp; omega), ?_⟩; change roomP _ _ 1; simp only [roomP]; omega) | (change roomP _ _ 1; simp only [roomP]; omega) | (simp; omega) | (simp [inR]; omega) | (simp [inR]; done) | decide | (simp; done)) ?_ | refine idx_nat (by omega) (fun x hx => ?_) | refine frz_auto ?_ | refine draw_plain ?_ | refine idx_intro (by first | omega | (simp; omega) | (simp; done)) (by first | omega | (simp; omega) | (simp; done)) (fun x hx => ?_)); conv => whnf)
          rw [hc]
        | true =>
          have hk' : (!knownI a) = false := by rw [hk]; rfl
          by_cases h1 : m < 1
          · rw [if_pos (.inr (.inl h1))] at hc
            conv => whnf
            repeat' first
              | ((first | refine idx_kn (by assumption) ?_ | refine idx_ki (by assumption) (by omega) ?_ | refine br_true (by first | with_reducible exact rfl | assumption | decide) ?_ | refine br_false (by first | with_reducible exact rfl | assumption | decide) ?_ | with_reducible first | refine br_kt (by assumption) ?_ | refine br_kf (by assumption) ?_ | refine br_nt (by assumption) ?_ | refine br_nf (by assumption) ?_ | refine br_et (by assumption) ?_ | refine br_ef (by assumption) ?_); conv => whnf)
              | ((with_reducible first | refine br_dec (fun h => ?_) (fun h => ?_) | refine br_ndec (fun h => ?_) (fun h => ?_) | refine br_ne (fun h => ?_) (fun h => ?_) | refine br_eq (fun h => ?_) (fun h => ?_)) <;> first | (exfalso; omega) | conv => whnf)
              | (refine br_intro (fun h => ?_) (fun h => ?_) <;> conv => whnf)
              | ((first | refine need_in (by first | exact trivial | assumption | exact ⟨rfl, Nat.le_refl _⟩ | exact ⟨rfl, rfl⟩ | (simp only [inR]; omega) | omega | (simp only [roomP, true_and, and_true, List.length_take, List.length_drop, List.length_append, List.length_cons, List.length_nil, List.length_set, List.length_replicate]; omega) | (refine ⟨by first | exact trivial | rfl, by first | exact Nat.le_refl _ | omega | (simp; omega), ?_⟩; change roomP _ _ 1; simp only [roomP]; omega) | (change roomP _ _ 1; simp only [roomP]; omega) | (simp; omega) | (simp [inR]; omega) | (simp [inR]; done) | decide | (simp; done)) ?_ | refine idx_nat (by omega) (fun x hx => ?_) | refine frz_auto ?_ | refine draw_plain ?_ | refine idx_intro (by first | omega | (simp; omega) | (simp; done)) (by first | omega | (simp; omega) | (simp; done)) (fun x hx => ?_)); conv => whnf)
            rw [hc]
          · by_cases h2 : 1000000 < m
            · rw [if_pos (.inr (.inr h2))] at hc
              conv => whnf
              repeat' first
                | ((first | refine idx_kn (by assumption) ?_ | refine idx_ki (by assumption) (by omega) ?_ | refine br_true (by first | with_reducible exact rfl | assumption | decide) ?_ | refine br_false (by first | with_reducible exact rfl | assumption | decide) ?_ | with_reducible first | refine br_kt (by assumption) ?_ | refine br_kf (by assumption) ?_ | refine br_nt (by assumption) ?_ | refine br_nf (by assumption) ?_ | refine br_et (by assumption) ?_ | refine br_ef (by assumption) ?_); conv => whnf)
                | ((with_reducible first | refine br_dec (fun h => ?_) (fun h => ?_) | refine br_ndec (fun h => ?_) (fun h => ?_) | refine br_ne (fun h => ?_) (fun h => ?_) | refine br_eq (fun h => ?_) (fun h => ?_)) <;> first | (exfalso; omega) | conv => whnf)
                | (refine br_intro (fun h => ?_) (fun h => ?_) <;> conv => whnf)
                | ((first | refine need_in (by first | exact trivial | assumption | exact ⟨rfl, Nat.le_refl _⟩ | exact ⟨rfl, rfl⟩ | (simp only [inR]; omega) | omega | (simp only [roomP, true_and, and_true, List.length_take, List.length_drop, List.length_append, List.length_cons, List.length_nil, List.length_set, List.length_replicate]; omega) | (refine ⟨by first | exact trivial | rfl, by first | exact Nat.le_refl _ | omega | (simp; omega), ?_⟩; change roomP _ _ 1; simp only [roomP]; omega) | (change roomP _ _ 1; simp only [roomP]; omega) | (simp; omega) | (simp [inR]; omega) | (simp [inR]; done) | decide | (simp; done)) ?_ | refine idx_nat (by omega) (fun x hx => ?_) | refine frz_auto ?_ | refine draw_plain ?_ | refine idx_intro (by first | omega | (simp; omega) | (simp; done)) (by first | omega | (simp; omega) | (simp; done)) (fun x hx => ?_)); conv => whnf)
              rw [hc]
            · rw [if_neg (fun e => by rcases e with e | e | e; exact absurd (hk.symm.trans e) (by decide); exact h1 e; exact h2 e)] at hc
              cases i with
              | zero =>
                rw [if_neg (by simp [pvC, fallC])] at hc
                conv => whnf
                repeat' first
                  | ((first | refine idx_kn (by assumption) ?_ | refine idx_ki (by assumption) (by omega) ?_ | refine br_true (by first | with_reducible exact rfl | assumption | decide) ?_ | refine br_false (by first | with_reducible exact rfl | assumption | decide) ?_ | with_reducible first | refine br_kt (by assumption) ?_ | refine br_kf (by assumption) ?_ | refine br_nt (by assumption) ?_ | refine br_nf (by assumption) ?_ | refine br_et (by assumption) ?_ | refine br_ef (by assumption) ?_); conv => whnf)
                  | ((with_reducible first | refine br_dec (fun h => ?_) (fun h => ?_) | refine br_ndec (fun h => ?_) (fun h => ?_) | refine br_ne (fun h => ?_) (fun h => ?_) | refine br_eq (fun h => ?_) (fun h => ?_)) <;> first | (exfalso; omega) | conv => whnf)
                  | (refine br_intro (fun h => ?_) (fun h => ?_) <;> conv => whnf)
                  | ((first | refine need_in (by first | exact trivial | assumption | exact ⟨rfl, Nat.le_refl _⟩ | exact ⟨rfl, rfl⟩ | (simp only [inR]; omega) | omega | (simp only [roomP, true_and, and_true, List.length_take, List.length_drop, List.length_append, List.length_cons, List.length_nil, List.length_set, List.length_replicate]; omega) | (refine ⟨by first | exact trivial | rfl, by first | exact Nat.le_refl _ | omega | (simp; omega), ?_⟩; change roomP _ _ 1; simp only [roomP]; omega) | (change roomP _ _ 1; simp only [roomP]; omega) | (simp; omega) | (simp [inR]; omega) | (simp [inR]; done) | decide | (simp; done)) ?_ | refine idx_nat (by omega) (fun x hx => ?_) | refine frz_auto ?_ | refine draw_plain ?_ | refine idx_intro (by first | omega | (simp; omega) | (simp; done)) (by first | omega | (simp; omega) | (simp; done)) (fun x hx => ?_)); conv => whnf)
                refine back_intro (by conv => whnf) rfl ⟨1, rfl, rfl, by omega, hc⟩ ?_
                show t.length - ((0 : Int) + 1).toNat < t.length - (0 : Int).toNat
                omega
              | succ j =>
                obtain ⟨⟨b, q, u2⟩, hy⟩ : ∃ y, t[j]? = some y := ⟨_, List.getElem?_eq_getElem (by omega)⟩
                have hpv : pvC t (j + 1) = some b := by show (t[j]?).map _ = _; rw [hy]; rfl
                rw [hpv] at hc
                have hy' : t[(((j + 1 : Nat) : Int) - 1).toNat]? = some (b, q, u2) := by rw [show (((j + 1 : Nat) : Int) - 1).toNat = j by omega]; exact hy
                by_cases h3 : a ≤ b
                · rw [if_pos (show fallC (some b) (idC (a, m, u)) from h3)] at hc
                  conv => whnf
                  repeat' first
                    | ((first | refine idx_kn (by assumption) ?_ | refine idx_ki (by assumption) (by omega) ?_ | refine br_true (by first | with_reducible exact rfl | assumption | decide) ?_ | refine br_false (by first | with_reducible exact rfl | assumption | decide) ?_ | with_reducible first | refine br_kt (by assumption) ?_ | refine br_kf (by assumption) ?_ | refine br_nt (by assumption) ?_ | refine br_nf (by assumption) ?_ | refine br_et (by assumption) ?_ | refine br_ef (by assumption) ?_); conv => whnf)
                    | ((with_reducible first | refine br_dec (fun h => ?_) (fun h => ?_) | refine br_ndec (fun h => ?_) (fun h => ?_) | refine br_ne (fun h => ?_) (fun h => ?_) | refine br_eq (fun h => ?_) (fun h => ?_)) <;> first | (exfalso; omega) | conv => whnf)
                    | (refine br_intro (fun h => ?_) (fun h => ?_) <;> conv => whnf)
                    | ((first | refine need_in (by first | exact trivial | assumption | exact ⟨rfl, Nat.le_refl _⟩ | exact ⟨rfl, rfl⟩ | (simp only [inR]; omega) | omega | (simp only [roomP, true_and, and_true, List.length_take, List.length_drop, List.length_append, List.length_cons, List.length_nil, List.length_set, List.length_replicate]; omega) | (refine ⟨by first | exact trivial | rfl, by first | exact Nat.le_refl _ | omega | (simp; omega), ?_⟩; change roomP _ _ 1; simp only [roomP]; omega) | (change roomP _ _ 1; simp only [roomP]; omega) | (simp; omega) | (simp [inR]; omega) | (simp [inR]; done) | decide | (simp; done)) ?_ | refine idx_nat (by omega) (fun x hx => ?_) | refine frz_auto ?_ | refine draw_plain ?_ | refine idx_intro (by first | omega | (simp; omega) | (simp; done)) (by first | omega | (simp; omega) | (simp; done)) (fun x hx => ?_)); conv => whnf)
                  rw [hc]
                · rw [if_neg (show ¬ fallC (some b) (idC (a, m, u)) from h3)] at hc
                  conv => whnf
                  repeat' first
                    | ((first | refine idx_kn (by assumption) ?_ | refine idx_ki (by assumption) (by omega) ?_ | refine br_true (by first | with_reducible exact rfl | assumption | decide) ?_ | refine br_false (by first | with_reducible exact rfl | assumption | decide) ?_ | with_reducible first | refine br_kt (by assumption) ?_ | refine br_kf (by assumption) ?_ | refine br_nt (by assumption) ?_ | refine br_nf (by assumption) ?_ | refine br_et (by assumption) ?_ | refine br_ef (by assumption) ?_); conv => whnf)
                    | ((with_reducible first | refine br_dec (fun h => ?_) (fun h => ?_) | refine br_ndec (fun h => ?_) (fun h => ?_) | refine br_ne (fun h => ?_) (fun h => ?_) | refine br_eq (fun h => ?_) (fun h => ?_)) <;> first | (exfalso; omega) | conv => whnf)
                    | (refine br_intro (fun h => ?_) (fun h => ?_) <;> conv => whnf)
                    | ((first | refine need_in (by first | exact trivial | assumption | exact ⟨rfl, Nat.le_refl _⟩ | exact ⟨rfl, rfl⟩ | (simp only [inR]; omega) | omega | (simp only [roomP, true_and, and_true, List.length_take, List.length_drop, List.length_append, List.length_cons, List.length_nil, List.length_set, List.length_replicate]; omega) | (refine ⟨by first | exact trivial | rfl, by first | exact Nat.le_refl _ | omega | (simp; omega), ?_⟩; change roomP _ _ 1; simp only [roomP]; omega) | (change roomP _ _ 1; simp only [roomP]; omega) | (simp; omega) | (simp [inR]; omega) | (simp [inR]; done) | decide | (simp; done)) ?_ | refine idx_nat (by omega) (fun x hx => ?_) | refine frz_auto ?_ | refine draw_plain ?_ | refine idx_intro (by first | omega | (simp; omega) | (simp; done)) (by first | omega | (simp; omega) | (simp; done)) (fun x hx => ?_)); conv => whnf)
                  refine back_intro (by conv => whnf) rfl ⟨j + 2, rfl, rfl, by omega, hc⟩ ?_
                  show t.length - (((j + 1 : Nat) : Int) + 1).toNat < t.length - ((j + 1 : Nat) : Int).toNat
                  omega
      · have hcz : ckL t = (0, 0) := by rw [hc, List.drop_eq_nil_of_le (by omega)]; rfl
        conv => whnf
        repeat' first
          | ((first | refine idx_kn (by assumption) ?_ | refine idx_ki (by assumption) (by omega) ?_ | refine br_true (by first | with_reducible exact rfl | assumption | decide) ?_ | refine br_false (by first | with_reducible exact rfl | assumption | decide) ?_ | with_reducible first | refine br_kt (by assumption) ?_ | refine br_kf (by assumption) ?_ | refine br_nt (by assumption) ?_ | refine br_nf (by assumption) ?_ | refine br_et (by assumption) ?_ | refine br_ef (by assumption) ?_); conv => whnf)
          | ((with_reducible first | refine br_dec (fun h => ?_) (fun h => ?_) | refine br_ndec (fun h => ?_) (fun h => ?_) | refine br_ne (fun h => ?_) (fun h => ?_) | refine br_eq (fun h => ?_) (fun h => ?_)) <;> first | (exfalso; omega) | conv => whnf)
          | (refine br_intro (fun h => ?_) (fun h => ?_) <;> conv => whnf)
          | ((first | refine need_in (by first | exact trivial | assumption | exact ⟨rfl, Nat.le_refl _⟩ | exact ⟨rfl, rfl⟩ | (simp only [inR]; omega) | omega | (simp only [roomP, true_and, and_true, List.length_take, List.length_drop, List.length_append, List.length_cons, List.length_nil, List.length_set, List.length_replicate]; omega) | (refine ⟨by first | exact trivial | rfl, by first | exact Nat.le_refl _ | omega | (simp; omega), ?_⟩; change roomP _ _ 1; simp only [roomP]; omega) | (change roomP _ _ 1; simp only [roomP]; omega) | (simp; omega) | (simp [inR]; omega) | (simp [inR]; done) | decide | (simp; done)) ?_ | refine idx_nat (by omega) (fun x hx => ?_) | refine frz_auto ?_ | refine draw_plain ?_ | refine idx_intro (by first | omega | (simp; omega) | (simp; done)) (by first | omega | (simp; omega) | (simp; done)) (fun x hx => ?_)); conv => whnf)
        rw [hcz]
  · cases h
end Go.Proofs.Ytadckioheabliaa
namespace Go.Proofs.Ytadckioheabliaa
open Av

theorem cast_self {t : Ty} (h : t = t) (l : List t.El) : (h ▸ l : List t.El) = l := rfl
def fdC (n : Int) : List rcT.El → Nat
  | [] => 0
  | x :: t => if idC x < n then fdC n t + 1 else 0
theorem fdC_le (n : Int) : ∀ t, fdC n t ≤ t.length
  | [] => Nat.le_refl _
  | x :: t => by
    unfold fdC
    split
    · have := fdC_le n t; rw [List.length_cons]; omega
    · omega
def countC (t : List rcT.El) (n : Int) : Int := match t[fdC n t]? with
  | some x => if idC x = n then nC x else 0
  | none => 0
def restC (n : Int) : List rcT.El → List rcT.El
  | [] => []
  | x :: r => if idC x = n then r else x :: r
def withC (t : List rcT.El) (n m : Int) : List rcT.El := t.take (fdC n t) ++ ((if 0 < m then [(n, m, ())] else []) ++ restC n (t.drop (fdC n t)))
theorem restC_len (n : Int) (l : List rcT.El) : (restC n l).length ≤ l.length := by
  cases l with
  | nil => exact Nat.le_refl _
  | cons x r =>
    show (if idC x = n then r else x :: r).length ≤ (x :: r).length
    split
    · exact Nat.le_succ _
    · exact Nat.le_refl _
theorem withC_len (t : List rcT.El) (n m : Int) : (withC t n m).length ≤ t.length + 1 := by
  unfold withC
  have h1 := restC_len n (t.drop (fdC n t))
  have h2 := fdC_le n t
  have h3 : (if 0 < m then [(n, m, ())] else [] : List rcT.El).length ≤ 1 := by split <;> simp
  rw [List.length_append, List.length_append, List.length_take]
  rw [List.length_drop] at h1
  omega
end Go.Proofs.Ytadckioheabliaa
