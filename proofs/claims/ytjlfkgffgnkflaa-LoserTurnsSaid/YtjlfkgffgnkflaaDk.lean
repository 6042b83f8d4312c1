/-
  Trees that are given away: their arrays are new.
-/
import Derived.Test.YtjlfkgffgnkflaaDh
import Derived.Test.YtjlfkgffgnkflaaSo6
namespace Go.Proofs.Ytjlfkgffgnkflaa
open Av Lz

def gTree : GSpec
  | [.lst (.st [.str, .bool]) ks] => some (okKs ks ∧ 1 ≤ ks.length ∧ ks.length ≤ 32, ⟨[⟨39, keyT, ks⟩, ⟨3, intT, loseL ks⟩], .agg [.own 0 0 ks.length, .own 1 0 ks.length, .int .i64 (winI ks)]⟩)
  | _ => none
theorem two_get {a b : FRes} {P : Nat → FRes → Prop} (h0 : P 0 a) (h1 : P 1 b) : ∀ i x, [a, b][i]? = some x → P i x
  | 0, x, h => by cases h; exact h0
  | 1, x, h => by cases h; exact h1
  | i + 2, x, h => by simp at h
def two (p q : Nat × Nat) (i : Nat) : Nat × Nat := match i with | 0 => p | _ => q
theorem two_inj {p q : Nat × Nat} (h : p.1 ≠ q.1) : ∀ i j, i < 2 → j < 2 → (two p q i).1 = (two p q j).1 → i = j := by
  intro i j hi hj e
  rcases (show i = 0 ∨ i = 1 by omega) with rfl | rfl <;> rcases (show j = 0 ∨ j = 1 by omega) with rfl | rfl
  · rfl
  · exact absurd e h
  · exact absurd e.symm h
  · rfl
set_option maxRecDepth 100000 in
set_option maxHeartbeats 4000000 in
theorem gPlay_ok : GOk Try.prog 26 gTree := by
  refine gen_body (C := cxG) mixed tbOk specsG (callN_ok (C := cxG) mixed tbOk specsG fnsG 2) fnOk_lPlay ?_
  intro ys p r h hp
  unfold gTree at h
  split at h
  · rename_i ks
    cases h
    obtain ⟨hk, h1, h2⟩ := hp
    conv => whnf
    repeat' first
      | (refine br_true (by first | with_reducible exact rfl | assumption | decide) ?_; conv => whnf)
      | (refine br_false (by first | with_reducible exact rfl | assumption | decide) ?_; conv => whnf)
      | ((with_reducible refine br_kt (by assumption) ?_); conv => whnf)
      | ((with_reducible refine br_kf (by assumption) ?_); conv => whnf)
      | ((with_reducible refine br_nt (by assumption) ?_); conv => whnf)
      | ((with_reducible refine br_nf (by assumption) ?_); conv => whnf)
      | ((with_reducible refine br_et (by assumption) ?_); conv => whnf)
      | ((with_reducible refine br_ef (by assumption) ?_); conv => whnf)
      | ((with_reducible refine br_dec (fun h => ?_) (fun h => ?_)) <;> first | (exfalso; omega) | conv => whnf)
      | ((with_reducible refine br_ndec (fun h => ?_) (fun h => ?_)) <;> first | (exfalso; omega) | conv => whnf)
      | ((with_reducible refine br_ne (fun h => ?_) (fun h => ?_)) <;> first | (exfalso; omega) | conv => whnf)
      | ((with_reducible refine br_eq (fun h => ?_) (fun h => ?_)) <;> first | (exfalso; omega) | conv => whnf)
      | (refine br_intro (fun h => ?_) (fun h => ?_) <;> conv => whnf)
      | (refine need_in (by first | exact trivial | assumption | exact ⟨rfl, Nat.le_refl _⟩ | exact ⟨rfl, rfl⟩ | (simp only [inR]; omega) | omega | (simp only [roomP, true_and, and_true, List.length_take, List.length_drop, List.length_append, List.length_cons, List.length_nil, List.length_set, List.length_replicate]; omega) | (refine ⟨by first | exact trivial | rfl, by first | exact Nat.le_refl _ | omega, ?_⟩; change roomP _ _ 1; simp only [roomP]; omega) | (change roomP _ _ 1; simp only [roomP]; omega) | (simp; omega) | (simp [inR]; omega) | (simp [inR]; done) | decide | (simp; done)) ?_; conv => whnf)
      | (refine idx_nat (by omega) (fun x hx => ?_); conv => whnf)
      | (refine frz_auto ?_; conv => whnf)
      | (refine draw_plain ?_; conv => whnf)
      | (refine idx_intro (by omega) (by omega) (fun x hx => ?_); conv => whnf)
      | (refine idx_intro (by first | omega | (simp; omega) | (simp; done)) (by first | omega | (simp; omega) | (simp; done)) (fun x hx => ?_); conv => whnf)
      | fail
    have e2 : (2 * (ks.length : Int)).toNat = 2 * ks.length := by omega
    refine loop_inv [] [7] (fun vs h => ∃ i : Nat, vs = [.int .i64 (i : Int)] ∧ h = hpP ks (PLd ks i) (LOd ks i) ∧ i ≤ 2 * ks.length - 1) (fun vs _ => match vs with | [.int _ k] => k.toNat | _ => 0) ?_
    refine ⟨⟨2 * ks.length - 1, ?_, ?_, Nat.le_refl _⟩, ?_⟩
    · rw [show ((2 * ks.length - 1 : Nat) : Int) = 2 * (ks.length : Int) - 1 by omega]
      rfl
    · rw [PLd_top ks (by omega), LOd_top ks (by omega), ← e2]
      rfl
    rintro vs h' - ⟨i, rfl, rfl, hi⟩
    unfold hpP
    have hl1 := PLd_len ks i
    have hl2 := LOd_len ks i
    conv => whnf
    by_cases hi0 : i = 0
    · subst hi0
      have hg1 := PLd_get ks (i := 0) (j := 1) (by omega) (by omega)
      repeat' first
        | (refine idx_kn (by assumption) ?_; conv => whnf)
        | (refine idx_ki (by assumption) (by omega) ?_; conv => whnf)
        | (refine br_true (by first | with_reducible exact rfl | assumption | decide) ?_; conv => whnf)
        | (refine br_false (by first | with_reducible exact rfl | assumption | decide) ?_; conv => whnf)
        | ((with_reducible refine br_kt (by assumption) ?_); conv => whnf)
        | ((with_reducible refine br_kf (by assumption) ?_); conv => whnf)
        | ((with_reducible refine br_nt (by assumption) ?_); conv => whnf)
        | ((with_reducible refine br_nf (by assumption) ?_); conv => whnf)
        | ((with_reducible refine br_et (by assumption) ?_); conv => whnf)
        | ((with_reducible refine br_ef (by assumption) ?_); conv => whnf)
        | ((with_reducible refine br_dec (fun h => ?_) (fun h => ?_)) <;> first | (exfalso; omega) | conv => whnf)
        | ((with_reducible refine br_ndec (fun h => ?_) (fun h => ?_)) <;> first | (exfalso; omega) | conv => whnf)
        | ((with_reducible refine br_ne (fun h => ?_) (fun h => ?_)) <;> first | (exfalso; omega) | conv => whnf)
        | ((with_reducible refine br_eq (fun h => ?_) (fun h => ?_)) <;> first | (exfalso; omega) | conv => whnf)
        | (refine br_intro (fun h => ?_) (fun h => ?_) <;> conv => whnf)
        | (refine need_in (by first | exact trivial | assumption | exact ⟨rfl, Nat.le_refl _⟩ | exact ⟨rfl, rfl⟩ | (simp only [inR]; omega) | omega | (simp only [roomP, true_and, and_true, List.length_take, List.length_drop, List.length_append, List.length_cons, List.length_nil, List.length_set, List.length_replicate]; omega) | (refine ⟨by first | exact trivial | rfl, by first | exact Nat.le_refl _ | omega, ?_⟩; change roomP _ _ 1; simp only [roomP]; omega) | (change roomP _ _ 1; simp only [roomP]; omega) | (simp; omega) | (simp [inR]; omega) | (simp [inR]; done) | decide | (simp; done)) ?_; conv => whnf)
        | (refine idx_nat (by omega) (fun x hx => ?_); conv => whnf)
        | (refine frz_auto ?_; conv => whnf)
        | (refine draw_plain ?_; conv => whnf)
        | (refine idx_intro (by omega) (by omega) (fun x hx => ?_); conv => whnf)
        | (refine idx_intro (by first | omega | (simp; omega) | (simp; done)) (by first | omega | (simp; omega) | (simp; done)) (fun x hx => ?_); conv => whnf)
        | fail
      refine ⟨two (4, 0) (6, 0), rfl, two_get ⟨false, rfl⟩ ⟨true, by rw [← LOd_zero]; rfl⟩, two_inj (by decide)⟩
    · by_cases hin : ks.length ≤ i
      · have hpl := pl_leaf hin
        repeat' first
          | (refine idx_kn (by assumption) ?_; conv => whnf)
          | (refine idx_ki (by assumption) (by omega) ?_; conv => whnf)
          | (refine br_true (by first | with_reducible exact rfl | assumption | decide) ?_; conv => whnf)
          | (refine br_false (by first | with_reducible exact rfl | assumption | decide) ?_; conv => whnf)
          | ((with_reducible refine br_kt (by assumption) ?_); conv => whnf)
          | ((with_reducible refine br_kf (by assumption) ?_); conv => whnf)
          | ((with_reducible refine br_nt (by assumption) ?_); conv => whnf)
          | ((with_reducible refine br_nf (by assumption) ?_); conv => whnf)
          | ((with_reducible refine br_et (by assumption) ?_); conv => whnf)
          | ((with_reducible refine br_ef (by assumption) ?_); conv => whnf)
          | ((with_reducible refine br_dec (fun h => ?_) (fun h => ?_)) <;> first | (exfalso; omega) | conv => whnf)
          | ((with_reducible refine br_ndec (fun h => ?_) (fun h => ?_)) <;> first | (exfalso; omega) | conv => whnf)
          | ((with_reducible refine br_ne (fun h => ?_) (fun h => ?_)) <;> first | (exfalso; omega) | conv => whnf)
          | ((with_reducible refine br_eq (fun h => ?_) (fun h => ?_)) <;> first | (exfalso; omega) | conv => whnf)
          | (refine br_intro (fun h => ?_) (fun h => ?_) <;> conv => whnf)
          | (refine need_in (by first | exact trivial | assumption | exact ⟨rfl, Nat.le_refl _⟩ | exact ⟨rfl, rfl⟩ | (simp only [inR]; omega) | omega | (simp only [roomP, true_and, and_true, List.length_take, List.length_drop, List.length_append, List.length_cons, List.length_nil, List.length_set, List.length_replicate]; omega) | (refine ⟨by first | exact trivial | rfl, by first | exact Nat.le_refl _ | omega, ?_⟩; change roomP _ _ 1; simp only [roomP]; omega) | (change roomP _ _ 1; simp only [roomP]; omega) | (simp; omega) | (simp [inR]; omega) | (simp [inR]; done) | decide | (simp; done)) ?_; conv => whnf)
          | (refine idx_nat (by omega) (fun x hx => ?_); conv => whnf)
          | (refine frz_auto ?_; conv => whnf)
          | (refine draw_plain ?_; conv => whnf)
          | (refine idx_intro (by omega) (by omega) (fun x hx => ?_); conv => whnf)
          | (refine idx_intro (by first | omega | (simp; omega) | (simp; done)) (by first | omega | (simp; omega) | (simp; done)) (fun x hx => ?_); conv => whnf)
          | fail
        refine back_intro (by conv => whnf) rfl ⟨i - 1, ?_, ?_, by omega⟩ ?_
        · rw [show ((i - 1 : Nat) : Int) = (i : Int) - 1 by omega]; rfl
        · rw [← LOd_leaf ks hin, ← PLd_set ks (show 1 ≤ i by omega), hpl, show ((i - ks.length : Nat) : Int) = (i : Int) - ks.length by omega]; rfl
        · show ((i : Int) - 1).toNat < (i : Int).toNat
          omega
      · have hga := PLd_get ks (i := i) (j := 2 * i) (by omega) (by omega)
        have hgb := PLd_get ks (i := i) (j := 2 * i + 1) (by omega) (by omega)
        have ha := pl_lt1 (ks := ks) (node := 2 * i) (by omega) (by omega)
        have hb := pl_lt1 (ks := ks) (node := 2 * i + 1) (by omega) (by omega)
        obtain ⟨x, hx⟩ : ∃ x, ks[(pl ks (2 * i)).1]? = some x := ⟨_, List.getElem?_eq_getElem ha⟩
        obtain ⟨y, hy⟩ : ∃ y, ks[(pl ks (2 * i + 1)).1]? = some y := ⟨_, List.getElem?_eq_getElem hb⟩
        have hg := pl_node (ks := ks) (node := i) (by omega) (by omega)
        have hwb : winB ks (pl ks (2 * i)).1 (pl ks (2 * i + 1)).1 = beatE x y (pl ks (2 * i)).1 (pl ks (2 * i + 1)).1 := by
          simp only [winB, hx, hy]
        have fin : ∀ a b : Nat, pl ks i = (a, b) → hpP ks ((PLd ks i).set i (a : Int)) ((LOd ks i).set i (b : Int)) = hpP ks (PLd ks (i - 1)) (LOd ks (i - 1)) := by
          intro a b e
          rw [← PLd_set ks (show 1 ≤ i by omega), ← LOd_set ks (show 1 ≤ i by omega), e]
        repeat' first
          | (refine idx_kn (by assumption) ?_; conv => whnf)
          | (refine idx_ki (by assumption) (by omega) ?_; conv => whnf)
          | (refine br_true (by first | with_reducible exact rfl | assumption | decide) ?_; conv => whnf)
          | (refine br_false (by first | with_reducible exact rfl | assumption | decide) ?_; conv => whnf)
          | ((with_reducible refine br_kt (by assumption) ?_); conv => whnf)
          | ((with_reducible refine br_kf (by assumption) ?_); conv => whnf)
          | ((with_reducible refine br_nt (by assumption) ?_); conv => whnf)
          | ((with_reducible refine br_nf (by assumption) ?_); conv => whnf)
          | ((with_reducible refine br_et (by assumption) ?_); conv => whnf)
          | ((with_reducible refine br_ef (by assumption) ?_); conv => whnf)
          | ((with_reducible refine br_dec (fun h => ?_) (fun h => ?_)) <;> first | (exfalso; omega) | conv => whnf)
          | ((with_reducible refine br_ndec (fun h => ?_) (fun h => ?_)) <;> first | (exfalso; omega) | conv => whnf)
          | ((with_reducible refine br_ne (fun h => ?_) (fun h => ?_)) <;> first | (exfalso; omega) | conv => whnf)
          | ((with_reducible refine br_eq (fun h => ?_) (fun h => ?_)) <;> first | (exfalso; omega) | conv => whnf)
          | (refine br_intro (fun h => ?_) (fun h => ?_) <;> conv => whnf)
          | (refine need_in (by first | exact trivial | assumption | exact ⟨rfl, Nat.le_refl _⟩ | exact ⟨rfl, rfl⟩ | (simp only [inR]; omega) | omega | (simp only [roomP, true_and, and_true, List.length_take, List.length_drop, List.length_append, List.length_cons, List.length_nil, List.length_set, List.length_replicate]; omega) | (refine ⟨by first | exact trivial | rfl, by first | exact Nat.le_refl _ | omega, ?_⟩; change roomP _ _ 1; simp only [roomP]; omega) | (change roomP _ _ 1; simp only [roomP]; omega) | (simp; omega) | (simp [inR]; omega) | (simp [inR]; done) | decide | (simp; done)) ?_; conv => whnf)
          | (refine idx_nat (by omega) (fun x hx => ?_); conv => whnf)
          | (refine frz_auto ?_; conv => whnf)
          | (refine draw_plain ?_; conv => whnf)
          | (refine idx_intro (by omega) (by omega) (fun x hx => ?_); conv => whnf)
          | (refine idx_intro (by first | omega | (simp; omega) | (simp; done)) (by first | omega | (simp; omega) | (simp; done)) (fun x hx => ?_); conv => whnf)
          | fail
        all_goals
          refine back_intro (by conv => whnf) rfl ⟨i - 1, ?_, ?_, by omega⟩ ?_
          · rw [show ((i - 1 : Nat) : Int) = (i : Int) - 1 by omega]; rfl
          · refine fin _ _ ?_
            rw [hg, game, hwb, beatE]
            clear fin hga hgb
            simp_all
            try omega
          · show ((i : Int) - 1).toNat < (i : Int).toNat
            omega
  · cases h
set_option maxRecDepth 100000 in
set_option maxHeartbeats 4000000 in
theorem grTree_ok : GOk Try.prog 28 gTree := by
  refine gen_body (C := cxT) mixed tbOk specsT (callN_ok (C := cxT) mixed tbOk specsT FnsOk.nil 0) fnOk_rTree ?_
  intro ys p r h hp
  unfold gTree at h
  split at h
  · rename_i ks
    cases h
    obtain ⟨hk, h1, h2⟩ := hp
    conv => whnf
    repeat' first
      | (refine br_true (by first | with_reducible exact rfl | assumption | decide) ?_; conv => whnf)
      | (refine br_false (by first | with_reducible exact rfl | assumption | decide) ?_; conv => whnf)
      | ((with_reducible refine br_kt (by assumption) ?_); conv => whnf)
      | ((with_reducible refine br_kf (by assumption) ?_); conv => whnf)
      | ((with_reducible refine br_nt (by assumption) ?_); conv => whnf)
      | ((with_reducible refine br_nf (by assumption) ?_); conv => whnf)
      | ((with_reducible refine br_et (by assumption) ?_); conv => whnf)
      | ((with_reducible refine br_ef (by assumption) ?_); conv => whnf)
      | ((with_reducible refine br_dec (fun h => ?_) (fun h => ?_)) <;> first | (exfalso; omega) | conv => whnf)
      | ((with_reducible refine br_ndec (fun h => ?_) (fun h => ?_)) <;> first | (exfalso; omega) | conv => whnf)
      | ((with_reducible refine br_ne (fun h => ?_) (fun h => ?_)) <;> first | (exfalso; omega) | conv => whnf)
      | ((with_reducible refine br_eq (fun h => ?_) (fun h => ?_)) <;> first | (exfalso; omega) | conv => whnf)
      | (refine br_intro (fun h => ?_) (fun h => ?_) <;> conv => whnf)
      | (refine need_in (by first | exact trivial | assumption | exact ⟨rfl, Nat.le_refl _⟩ | exact ⟨rfl, rfl⟩ | (simp only [inR]; omega) | omega | (simp only [roomP, true_and, and_true, List.length_take, List.length_drop, List.length_append, List.length_cons, List.length_nil, List.length_set, List.length_replicate]; omega) | (refine ⟨by first | exact trivial | rfl, by first | exact Nat.le_refl _ | omega, ?_⟩; change roomP _ _ 1; simp only [roomP]; omega) | (change roomP _ _ 1; simp only [roomP]; omega) | (simp; omega) | (simp [inR]; omega) | (simp [inR]; done) | decide | (simp; done)) ?_; conv => whnf)
      | (refine idx_nat (by omega) (fun x hx => ?_); conv => whnf)
      | (refine frz_auto ?_; conv => whnf)
      | (refine draw_plain ?_; conv => whnf)
      | (refine idx_intro (by omega) (by omega) (fun x hx => ?_); conv => whnf)
      | (refine idx_intro (by first | omega | (simp; omega) | (simp; done)) (by first | omega | (simp; omega) | (simp; done)) (fun x hx => ?_); conv => whnf)
      | fail
    refine loop_inv [] [4] (fun vs h => ∃ i : Nat, vs = [.int .i64 (i : Int)] ∧ h = hpT ks (LOu ks i) ∧ 1 ≤ i ∧ i ≤ ks.length) (fun vs _ => match vs with | [.int _ k] => ks.length - k.toNat | _ => 0) ?_
    refine ⟨⟨1, rfl, by simp only [hpT, LOu_one, cast_self, Nat.zero_add, List.take_zero, List.nil_append, Int.toNat_natCast], Nat.le_refl _, by omega⟩, ?_⟩
    rintro vs h' - ⟨i, rfl, rfl, hi1, hi2⟩
    unfold hpT
    have hlen := LOu_len ks i
    conv => whnf
    by_cases hil : i < ks.length
    · have p1 : okKs ks ∧ ks.length ≤ 32 ∧ 1 ≤ (i : Int) ∧ (i : Int) < 2 * ks.length ∧ ks.length - ((i : Int)).toNat < 100 := ⟨hk, h2, by omega, by omega, by omega⟩
      repeat' first
        | (refine br_true (by first | with_reducible exact rfl | assumption | decide) ?_; conv => whnf)
        | (refine br_false (by first | with_reducible exact rfl | assumption | decide) ?_; conv => whnf)
        | ((with_reducible refine br_kt (by assumption) ?_); conv => whnf)
        | ((with_reducible refine br_kf (by assumption) ?_); conv => whnf)
        | ((with_reducible refine br_nt (by assumption) ?_); conv => whnf)
        | ((with_reducible refine br_nf (by assumption) ?_); conv => whnf)
        | ((with_reducible refine br_et (by assumption) ?_); conv => whnf)
        | ((with_reducible refine br_ef (by assumption) ?_); conv => whnf)
        | ((with_reducible refine br_dec (fun h => ?_) (fun h => ?_)) <;> first | (exfalso; omega) | conv => whnf)
        | ((with_reducible refine br_ndec (fun h => ?_) (fun h => ?_)) <;> first | (exfalso; omega) | conv => whnf)
        | ((with_reducible refine br_ne (fun h => ?_) (fun h => ?_)) <;> first | (exfalso; omega) | conv => whnf)
        | ((with_reducible refine br_eq (fun h => ?_) (fun h => ?_)) <;> first | (exfalso; omega) | conv => whnf)
        | (refine br_intro (fun h => ?_) (fun h => ?_) <;> conv => whnf)
        | (refine need_in (by first | exact trivial | assumption | exact ⟨rfl, Nat.le_refl _⟩ | exact ⟨rfl, rfl⟩ | (simp only [inR]; omega) | omega | (simp only [roomP, true_and, and_true, List.length_take, List.length_drop, List.length_append, List.length_cons, List.length_nil, List.length_set, List.length_replicate]; omega) | (refine ⟨by first | exact trivial | rfl, by first | exact Nat.le_refl _ | omega, ?_⟩; change roomP _ _ 1; simp only [roomP]; omega) | (change roomP _ _ 1; simp only [roomP]; omega) | (simp; omega) | (simp [inR]; omega) | (simp [inR]; done) | decide | (simp; done)) ?_; conv => whnf)
        | (refine idx_nat (by omega) (fun x hx => ?_); conv => whnf)
        | (refine frz_auto ?_; conv => whnf)
        | (refine draw_plain ?_; conv => whnf)
        | (refine idx_intro (by omega) (by omega) (fun x hx => ?_); conv => whnf)
        | (refine idx_intro (by first | omega | (simp; omega) | (simp; done)) (by first | omega | (simp; omega) | (simp; done)) (fun x hx => ?_); conv => whnf)
        | fail
      refine back_intro (by conv => whnf) rfl ⟨i + 1, rfl, ?_, by omega, by omega⟩ ?_
      · have := LOu_set ks hi1
        simp only [hpT, ← this, Int.toNat_natCast]
        rfl
      · show ks.length - ((i : Int) + 1).toNat < ks.length - (i : Int).toNat
        omega
    · have p1 : okKs ks ∧ ks.length ≤ 32 ∧ 1 ≤ (1 : Int) ∧ (1 : Int) < 2 * ks.length ∧ ks.length - ((1 : Int)).toNat < 100 := ⟨hk, h2, by omega, by omega, by omega⟩
      repeat' first
        | (refine br_true (by first | with_reducible exact rfl | assumption | decide) ?_; conv => whnf)
        | (refine br_false (by first | with_reducible exact rfl | assumption | decide) ?_; conv => whnf)
        | ((with_reducible refine br_kt (by assumption) ?_); conv => whnf)
        | ((with_reducible refine br_kf (by assumption) ?_); conv => whnf)
        | ((with_reducible refine br_nt (by assumption) ?_); conv => whnf)
        | ((with_reducible refine br_nf (by assumption) ?_); conv => whnf)
        | ((with_reducible refine br_et (by assumption) ?_); conv => whnf)
        | ((with_reducible refine br_ef (by assumption) ?_); conv => whnf)
        | ((with_reducible refine br_dec (fun h => ?_) (fun h => ?_)) <;> first | (exfalso; omega) | conv => whnf)
        | ((with_reducible refine br_ndec (fun h => ?_) (fun h => ?_)) <;> first | (exfalso; omega) | conv => whnf)
        | ((with_reducible refine br_ne (fun h => ?_) (fun h => ?_)) <;> first | (exfalso; omega) | conv => whnf)
        | ((with_reducible refine br_eq (fun h => ?_) (fun h => ?_)) <;> first | (exfalso; omega) | conv => whnf)
        | (refine br_intro (fun h => ?_) (fun h => ?_) <;> conv => whnf)
        | (refine need_in (by first | exact trivial | assumption | exact ⟨rfl, Nat.le_refl _⟩ | exact ⟨rfl, rfl⟩ | (simp only [inR]; omega) | omega | (simp only [roomP, true_and, and_true, List.length_take, List.length_drop, List.length_append, List.length_cons, List.length_nil, List.length_set, List.length_replicate]; omega) | (refine ⟨by first | exact trivial | rfl, by first | exact Nat.le_refl _ | omega, ?_⟩; change roomP _ _ 1; simp only [roomP]; omega) | (change roomP _ _ 1; simp only [roomP]; omega) | (simp; omega) | (simp [inR]; omega) | (simp [inR]; done) | decide | (simp; done)) ?_; conv => whnf)
        | (refine idx_nat (by omega) (fun x hx => ?_); conv => whnf)
        | (refine frz_auto ?_; conv => whnf)
        | (refine draw_plain ?_; conv => whnf)
        | (refine idx_intro (by omega) (by omega) (fun x hx => ?_); conv => whnf)
        | (refine idx_intro (by first | omega | (simp; omega) | (simp; done)) (by first | omega | (simp; omega) | (simp; done)) (fun x hx => ?_); conv => whnf)
        | fail
      have e := LOu_end ks (i := i) (by omega)
      refine ⟨two (1, 1) (6, 0), rfl, two_get ⟨false, rfl⟩ ⟨true, by rw [← e]; rfl⟩, two_inj (by decide)⟩
  · cases h
/-! ### Build, Replace -/
def gBuild : GSpec
  | [.lst (.st [.str, .bool]) ks] => some (rightE ks = 0, ⟨[⟨39, keyT, ks⟩, ⟨3, intT, loseL ks⟩], .tup [.agg [.own 0 0 ks.length, .own 1 0 ks.length, .int .i64 (winI ks)], .int .i64 0]⟩)
  | _ => none
noncomputable def cxk : Cx := ⟨tb, [], [(25, spRight), (27, spRight)]⟩
theorem specsk : SpecsOk Try.prog cxk.specs := .cons lCheck_ok (.cons rRight_ok .nil)
def gk : List (FuncId × GSpec) := [(26, gTree), (28, gTree)]
theorem gsk : GsOk Try.prog gk := .cons gPlay_ok (.cons grTree_ok .nil)
set_option maxRecDepth 100000 in
set_option maxHeartbeats 2000000 in
theorem gBuild_ok : GOk Try.prog 11 gBuild := by
  refine gen_body (C := cxk) mixed tbOk specsk (callG_ok (C := cxk) mixed tbOk specsk FnsOk.nil gsk 1) fnOk_lBuild ?_
  intro ys p r h hp
  unfold gBuild at h
  split at h
  · rename_i ks
    cases h
    obtain ⟨h1, h2, h3⟩ := rightE_ok hp
    have hpre : okKs ks ∧ 1 ≤ ks.length ∧ ks.length ≤ 32 := ⟨h3, h1, h2⟩
    conv => whnf
    repeat' first
      | (refine br_true (by first | with_reducible exact rfl | assumption | decide) ?_; conv => whnf)
      | (refine br_false (by first | with_reducible exact rfl | assumption | decide) ?_; conv => whnf)
      | ((with_reducible refine br_kt (by assumption) ?_); conv => whnf)
      | ((with_reducible refine br_kf (by assumption) ?_); conv => whnf)
      | ((with_reducible refine br_nt (by assumption) ?_); conv => whnf)
      | ((with_reducible refine br_nf (by assumption) ?_); conv => whnf)
      | ((with_reducible refine br_et (by assumption) ?_); conv => whnf)
      | ((with_reducible refine br_ef (by assumption) ?_); conv => whnf)
      | ((with_reducible refine br_dec (fun h => ?_) (fun h => ?_)) <;> first | (exfalso; omega) | conv => whnf)
      | ((with_reducible refine br_ndec (fun h => ?_) (fun h => ?_)) <;> first | (exfalso; omega) | conv => whnf)
      | ((with_reducible refine br_ne (fun h => ?_) (fun h => ?_)) <;> first | (exfalso; omega) | conv => whnf)
      | ((with_reducible refine br_eq (fun h => ?_) (fun h => ?_)) <;> first | (exfalso; omega) | conv => whnf)
      | (refine br_intro (fun h => ?_) (fun h => ?_) <;> conv => whnf)
      | (refine need_in (by first | exact trivial | assumption | exact ⟨rfl, Nat.le_refl _⟩ | exact ⟨rfl, rfl⟩ | (simp only [inR]; omega) | omega | (simp only [roomP, true_and, and_true, List.length_take, List.length_drop, List.length_append, List.length_cons, List.length_nil, List.length_set, List.length_replicate]; omega) | (refine ⟨by first | exact trivial | rfl, by first | exact Nat.le_refl _ | omega, ?_⟩; change roomP _ _ 1; simp only [roomP]; omega) | (change roomP _ _ 1; simp only [roomP]; omega) | (simp; omega) | (simp [inR]; omega) | (simp [inR]; done) | decide | (simp; done)) ?_; conv => whnf)
      | (refine idx_nat (by omega) (fun x hx => ?_); conv => whnf)
      | (refine frz_auto ?_; conv => whnf)
      | (refine draw_plain ?_; conv => whnf)
      | (refine idx_intro (by omega) (by omega) (fun x hx => ?_); conv => whnf)
      | (refine idx_intro (by first | omega | (simp; omega) | (simp; done)) (by first | omega | (simp; omega) | (simp; done)) (fun x hx => ?_); conv => whnf)
      | fail
    exact ⟨two (1, 0) (2, 0), rfl, two_get ⟨false, rfl⟩ ⟨false, rfl⟩, two_inj (by decide)⟩
  · cases h
set_option maxRecDepth 100000 in
set_option maxHeartbeats 2000000 in
theorem grBuild_ok : GOk Try.prog 12 gBuild := by
  refine gen_body (C := cxk) mixed tbOk specsk (callG_ok (C := cxk) mixed tbOk specsk FnsOk.nil gsk 1) fnOk_rBuild ?_
  intro ys p r h hp
  unfold gBuild at h
  split at h
  · rename_i ks
    cases h
    obtain ⟨h1, h2, h3⟩ := rightE_ok hp
    have hpre : okKs ks ∧ 1 ≤ ks.length ∧ ks.length ≤ 32 := ⟨h3, h1, h2⟩
    conv => whnf
    repeat' first
      | (refine br_true (by first | with_reducible exact rfl | assumption | decide) ?_; conv => whnf)
      | (refine br_false (by first | with_reducible exact rfl | assumption | decide) ?_; conv => whnf)
      | ((with_reducible refine br_kt (by assumption) ?_); conv => whnf)
      | ((with_reducible refine br_kf (by assumption) ?_); conv => whnf)
      | ((with_reducible refine br_nt (by assumption) ?_); conv => whnf)
      | ((with_reducible refine br_nf (by assumption) ?_); conv => whnf)
      | ((with_reducible refine br_et (by assumption) ?_); conv => whnf)
      | ((with_reducible refine br_ef (by assumption) ?_); conv => whnf)
      | ((with_reducible refine br_dec (fun h => ?_) (fun h => ?_)) <;> first | (exfalso; omega) | conv => whnf)
      | ((with_reducible refine br_ndec (fun h => ?_) (fun h => ?_)) <;> first | (exfalso; omega) | conv => whnf)
      | ((with_reducible refine br_ne (fun h => ?_) (fun h => ?_)) <;> first | (exfalso; omega) | conv => whnf)
      | ((with_reducible refine br_eq (fun h => ?_) (fun h => ?_)) <;> first | (exfalso; omega) | conv => whnf)
      | (refine br_intro (fun h => ?_) (fun h => ?_) <;> conv => whnf)
      | (refine need_in (by first | exact trivial | assumption | exact ⟨rfl, Nat.le_refl _⟩ | exact ⟨rfl, rfl⟩ | (simp only [inR]; omega) | omega | (simp only [roomP, true_and, and_true, List.length_take, List.length_drop, List.length_append, List.length_cons, List.length_nil, List.length_set, List.length_replicate]; omega) | (refine ⟨by first | exact trivial | rfl, by first | exact Nat.le_refl _ | omega, ?_⟩; change roomP _ _ 1; simp only [roomP]; omega) | (change roomP _ _ 1; simp only [roomP]; omega) | (simp; omega) | (simp [inR]; omega) | (simp [inR]; done) | decide | (simp; done)) ?_; conv => whnf)
      | (refine idx_nat (by omega) (fun x hx => ?_); conv => whnf)
      | (refine frz_auto ?_; conv => whnf)
      | (refine draw_plain ?_; conv => whnf)
      | (refine idx_intro (by omega) (by omega) (fun x hx => ?_); conv => whnf)
      | (refine idx_intro (by first | omega | (simp; omega) | (simp; done)) (by first | omega | (simp; omega) | (simp; done)) (fun x hx => ?_); conv => whnf)
      | fail
    exact ⟨two (1, 0) (2, 0), rfl, two_get ⟨false, rfl⟩ ⟨false, rfl⟩, two_inj (by decide)⟩
  · cases h
def gRepl : GSpec
  | [.agg [.lst (.st [.str, .bool]) ks, .lst (.int .i64) lo, .int .i64 w], .agg [.str k, .bool d]] => some (repE ks lo w (mkK k d) = 0, ⟨[⟨39, keyT, ks.set w.toNat (mkK k d)⟩, ⟨3, intT, loseL (ks.set w.toNat (mkK k d))⟩], .tup [.agg [.own 0 0 ks.length, .own 1 0 (loseL ks).length, .int .i64 (winI (ks.set w.toNat (mkK k d)))], .int .i64 ((gm (ks.length + w.toNat) : Nat) : Int), .int .i64 0]⟩)
  | _ => none
set_option maxRecDepth 100000 in
set_option maxHeartbeats 8000000 in
theorem gRepl_ok : GOk Try.prog 21 gRepl := by
  refine gen_body (C := cx9) mixed tbOk specs9 (callN_ok (C := cx9) mixed tbOk specs9 fns9 2) fnOk_lRepl ?_
  intro ys p r h hp
  unfold gRepl at h
  split at h
  · rename_i ks lo w k d
    cases h
    by_cases hc : opE ks lo w = 0
    · obtain ⟨q, hw, hq, hwin⟩ := win_lt (op_zero hc).1
      subst hw
      obtain ⟨h0, hlo, _⟩ := chk_zero (op_zero hc).1
      obtain ⟨h1, h2, h3⟩ := rightE_ok h0
      subst hlo
      obtain ⟨x, hx⟩ : ∃ x, ks[q]? = some x := ⟨_, List.getElem?_eq_getElem hq⟩
      have hre : repE ks (loseL ks) q (mkK k d) = if badK (mkK k d) = true then 2 else if (!d && sLt k x.1) = true then 6 else 0 := by
        rw [repE, if_neg (by omega), keyAt_get hx]
      have hr1 : rightE (List.take 1 [(k, d, ())]) = if badK (mkK k d) = true then 2 else 0 := right_one (mkK k d)
      rw [hre] at hp
      have hb : badK (mkK k d) = false := by
        cases hb : badK (mkK k d) with
        | false => rfl
        | true => rw [hb, if_pos rfl] at hp; cases hp
      rw [hb] at hp hr1
      simp only [Bool.false_eq_true, if_false] at hp hr1
      have hd : (!d && sLt k x.1) = false := by
        cases hd : (!d && sLt k x.1) with
        | false => rfl
        | true => rw [hd, if_pos rfl] at hp; cases hp
      simp only [Int.toNat_natCast]
      have hlen : (ks.set q (mkK k d)).length = ks.length := List.length_set ..
      have hll := loseL_len ks
      have hp1 : 1 ≤ (loseL ks).length ∧ (loseL ks).length ≤ 1000 := by omega
      have hp2 : 1 ≤ ks.length ∧ ks.length ≤ 1000 := by omega
      have dead : ∀ {P : Prop}, d = false → sLt k x.1 = true → P := by
        intro P e1 e2
        rw [e1, e2] at hd
        cases hd
      conv => whnf
      repeat' first
        | (refine idx_kn (by assumption) ?_; conv => whnf)
        | (refine idx_ki (by assumption) (by omega) ?_; conv => whnf)
        | (refine br_true (by first | with_reducible exact rfl | assumption | decide) ?_; conv => whnf)
        | (refine br_false (by first | with_reducible exact rfl | assumption | decide) ?_; conv => whnf)
        | ((with_reducible refine br_kt (by assumption) ?_); conv => whnf)
        | ((with_reducible refine br_kf (by assumption) ?_); conv => whnf)
        | ((with_reducible refine br_nt (by assumption) ?_); conv => whnf)
        | ((with_reducible refine br_nf (by assumption) ?_); conv => whnf)
        | ((with_reducible refine br_et (by assumption) ?_); conv => whnf)
        | ((with_reducible refine br_ef (by assumption) ?_); conv => whnf)
        | ((with_reducible refine br_dec (fun h => ?_) (fun h => ?_)) <;> first | (exfalso; omega) | conv => whnf)
        | ((with_reducible refine br_ndec (fun h => ?_) (fun h => ?_)) <;> first | (exfalso; omega) | conv => whnf)
        | ((with_reducible refine br_ne (fun h => ?_) (fun h => ?_)) <;> first | (exfalso; omega) | conv => whnf)
        | ((with_reducible refine br_eq (fun h => ?_) (fun h => ?_)) <;> first | (exfalso; omega) | conv => whnf)
        | (refine br_intro (fun h => ?_) (fun h => ?_) <;> conv => whnf)
        | (refine need_in (by first | exact trivial | assumption | exact ⟨rfl, Nat.le_refl _⟩ | exact ⟨rfl, rfl⟩ | (simp only [inR]; omega) | omega | (simp only [roomP, true_and, and_true, List.length_take, List.length_drop, List.length_append, List.length_cons, List.length_nil, List.length_set, List.length_replicate]; omega) | (refine ⟨by first | exact trivial | rfl, by first | exact Nat.le_refl _ | omega, ?_⟩; change roomP _ _ 1; simp only [roomP]; omega) | (change roomP _ _ 1; simp only [roomP]; omega) | (simp; omega) | (simp [inR]; omega) | (simp [inR]; done) | decide | (simp; done)) ?_; conv => whnf)
        | (refine idx_nat (by omega) (fun x hx => ?_); conv => whnf)
        | (refine frz_auto ?_; conv => whnf)
        | (refine draw_plain ?_; conv => whnf)
        | (refine idx_intro (by omega) (by omega) (fun x hx => ?_); conv => whnf)
        | (refine idx_intro (by first | omega | (simp; omega) | (simp; done)) (by first | omega | (simp; omega) | (simp; done)) (fun x hx => ?_); conv => whnf)
        | fail
      · exact dead (by simpa using ‹(!d) = true›) h
      all_goals
        have hqn : q < ks.length := hq
        have hl' := LOm_len ks (ks.set q (mkK k d))
        refine loop_inv [] [5, 10] (fun vs h => ∃ g v e : Nat, vs = [.int .i64 (g : Int), .int .i64 (v : Int)] ∧ h = hpR ks k d q (ks.set q (mkK k d)) (LOm ks (ks.set q (mkK k d)) v) ((pl (ks.set q (mkK k d)) v).1 : Int) ∧ (ks.length + q) / 2 ^ e = v ∧ 1 ≤ v ∧ g + gm v = gm (ks.length + q)) (fun vs _ => match vs with | [_, .int _ k] => k.toNat | _ => 0) ?_
        refine ⟨⟨0, ks.length + q, 0, ?_, ?_, by simp, by omega, by omega⟩, ?_⟩
        · rw [show ((ks.length + q : Nat) : Int) = (ks.length : Int) + (q : Int) by omega]
          rfl
        · rw [LOm_top ks _ (by omega), pl_leaf (by omega)]
          simp only [hlen, Nat.add_sub_cancel_left]
          rfl
        rintro vs h' - ⟨g, v, e, rfl, rfl, he, hv1, hs⟩
        unfold hpR
        have hvn : v ≤ ks.length + q := by
          rw [← he]
          exact Nat.div_le_self _ _
        have hgm := gm_pow _ _ (Nat.le_refl _) (show 1 ≤ ks.length + q by omega)
        have hg9 : g ≤ 1000 := by
          have : gm (ks.length + q) < 2 ^ gm (ks.length + q) := Nat.lt_two_pow_self
          omega
        have hl := hl' v
        have hdv : (v : Int) / 2 = ((v / 2 : Nat) : Int) := by omega
        by_cases hv2 : 2 ≤ v
        · have hstep := gm_succ (m := v) (by omega)
          have hwg := way_game (ks := ks) (k := mkK k d) hwin.symm h1 he hv2
          have hset := LOm_set (ks := ks) (k := mkK k d) hqn he hv2
          have hgl := LOm_get ks (ks.set q (mkK k d)) (v := v) (j := v / 2) (by omega) (by omega) (by omega)
          have hp2l := pl_lt2 (ks := ks) (node := v / 2) (by omega) (by omega)
          have hr1l := pl_lt1 (ks := ks.set q (mkK k d)) (node := v) (by omega) (by omega)
          obtain ⟨a, ha⟩ : ∃ a, a = (pl ks (v / 2)).2 := ⟨_, rfl⟩
          obtain ⟨b, hb2⟩ : ∃ b, b = (pl (ks.set q (mkK k d)) v).1 := ⟨_, rfl⟩
          rw [← ha] at hgl hp2l hwg
          rw [← hb2] at hr1l hwg ⊢
          obtain ⟨y, hy⟩ : ∃ y, (ks.set q (mkK k d))[a]? = some y := ⟨_, List.getElem?_eq_getElem (by omega)⟩
          obtain ⟨z, hz⟩ : ∃ z, (ks.set q (mkK k d))[b]? = some z := ⟨_, List.getElem?_eq_getElem (by omega)⟩
          have hwb : winB (ks.set q (mkK k d)) a b = beatE y z a b := by
            simp only [winB, hy, hz]
          conv => whnf
          rw [hdv]
          have finT : winB (ks.set q (mkK k d)) a b = true → hpR ks k d q (ks.set q (mkK k d)) ((LOm ks (ks.set q (mkK k d)) v).set (v / 2) (b : Int)) (a : Int) = hpR ks k d q (ks.set q (mkK k d)) (LOm ks (ks.set q (mkK k d)) (v / 2)) ((pl (ks.set q (mkK k d)) (v / 2)).1 : Int) := by
            intro hwin
            rw [if_pos hwin] at hwg
            rw [← hset, hwg]
          have finF : winB (ks.set q (mkK k d)) a b = false → hpR ks k d q (ks.set q (mkK k d)) (LOm ks (ks.set q (mkK k d)) v) (b : Int) = hpR ks k d q (ks.set q (mkK k d)) (LOm ks (ks.set q (mkK k d)) (v / 2)) ((pl (ks.set q (mkK k d)) (v / 2)).1 : Int) := by
            intro hwin
            rw [if_neg (by rw [hwin]; decide)] at hwg
            rw [← hset, hwg, set_get hgl]
          clear hwg hset
          repeat' first
            | (refine idx_kn (by assumption) ?_; conv => whnf)
            | (refine idx_ki (by assumption) (by omega) ?_; conv => whnf)
            | (refine br_true (by first | with_reducible exact rfl | assumption | decide) ?_; conv => whnf)
            | (refine br_false (by first | with_reducible exact rfl | assumption | decide) ?_; conv => whnf)
            | ((with_reducible refine br_kt (by assumption) ?_); conv => whnf)
            | ((with_reducible refine br_kf (by assumption) ?_); conv => whnf)
            | ((with_reducible refine br_nt (by assumption) ?_); conv => whnf)
            | ((with_reducible refine br_nf (by assumption) ?_); conv => whnf)
            | ((with_reducible refine br_et (by assumption) ?_); conv => whnf)
            | ((with_reducible refine br_ef (by assumption) ?_); conv => whnf)
            | ((with_reducible refine br_dec (fun h => ?_) (fun h => ?_)) <;> first | (exfalso; omega) | conv => whnf)
            | ((with_reducible refine br_ndec (fun h => ?_) (fun h => ?_)) <;> first | (exfalso; omega) | conv => whnf)
            | ((with_reducible refine br_ne (fun h => ?_) (fun h => ?_)) <;> first | (exfalso; omega) | conv => whnf)
            | ((with_reducible refine br_eq (fun h => ?_) (fun h => ?_)) <;> first | (exfalso; omega) | conv => whnf)
            | (refine br_intro (fun h => ?_) (fun h => ?_) <;> conv => whnf)
            | (refine need_in (by first | exact trivial | assumption | exact ⟨rfl, Nat.le_refl _⟩ | exact ⟨rfl, rfl⟩ | (simp only [inR]; omega) | omega | (simp only [roomP, true_and, and_true, List.length_take, List.length_drop, List.length_append, List.length_cons, List.length_nil, List.length_set, List.length_replicate]; omega) | (refine ⟨by first | exact trivial | rfl, by first | exact Nat.le_refl _ | omega, ?_⟩; change roomP _ _ 1; simp only [roomP]; omega) | (change roomP _ _ 1; simp only [roomP]; omega) | (simp; omega) | (simp [inR]; omega) | (simp [inR]; done) | decide | (simp; done)) ?_; conv => whnf)
            | (refine idx_nat (by omega) (fun x hx => ?_); conv => whnf)
            | (refine frz_auto ?_; conv => whnf)
            | (refine draw_plain ?_; conv => whnf)
            | (refine idx_intro (by omega) (by omega) (fun x hx => ?_); conv => whnf)
            | (refine idx_intro (by first | omega | (simp; omega) | (simp; done)) (by first | omega | (simp; omega) | (simp; done)) (fun x hx => ?_); conv => whnf)
            | fail
          all_goals
            refine back_intro (by conv => whnf) rfl ⟨g + 1, v / 2, e + 1, rfl, ?_, way_up he, by omega, by omega⟩ ?_
            · clear hstep hgm hs
              first
                | (refine finT ?_; rw [hwb, beatE]; clear finT finF; simp_all; done)
                | (refine finF ?_; rw [hwb, beatE]; clear finT finF; simp_all; done)
                | (refine finT ?_; rw [hwb, beatE]; clear finT finF; simp_all; omega)
                | (refine finF ?_; rw [hwb, beatE]; clear finT finF; simp_all; omega)
            · show ((v / 2 : Nat) : Int).toNat < (v : Int).toNat
              omega
        · have hv1 : v = 1 := by omega
          subst hv1
          have e1 := LOm_one ks (ks.set q (mkK k d)) hlen
          have hgs : g = gm (ks.length + q) := hs
          have htk : List.take ks.length (ks.set q (mkK k d)) = ks.set q (mkK k d) := List.take_of_length_le (by omega)
          have htl : List.take (loseL ks).length (LOm ks (ks.set q (mkK k d)) 1) = LOm ks (ks.set q (mkK k d)) 1 := List.take_of_length_le (by omega)
          conv => whnf
          repeat' first
            | (refine idx_kn (by assumption) ?_; conv => whnf)
            | (refine idx_ki (by assumption) (by omega) ?_; conv => whnf)
            | (refine br_true (by first | with_reducible exact rfl | assumption | decide) ?_; conv => whnf)
            | (refine br_false (by first | with_reducible exact rfl | assumption | decide) ?_; conv => whnf)
            | ((with_reducible refine br_kt (by assumption) ?_); conv => whnf)
            | ((with_reducible refine br_kf (by assumption) ?_); conv => whnf)
            | ((with_reducible refine br_nt (by assumption) ?_); conv => whnf)
            | ((with_reducible refine br_nf (by assumption) ?_); conv => whnf)
            | ((with_reducible refine br_et (by assumption) ?_); conv => whnf)
            | ((with_reducible refine br_ef (by assumption) ?_); conv => whnf)
            | ((with_reducible refine br_dec (fun h => ?_) (fun h => ?_)) <;> first | (exfalso; omega) | conv => whnf)
            | ((with_reducible refine br_ndec (fun h => ?_) (fun h => ?_)) <;> first | (exfalso; omega) | conv => whnf)
            | ((with_reducible refine br_ne (fun h => ?_) (fun h => ?_)) <;> first | (exfalso; omega) | conv => whnf)
            | ((with_reducible refine br_eq (fun h => ?_) (fun h => ?_)) <;> first | (exfalso; omega) | conv => whnf)
            | (refine br_intro (fun h => ?_) (fun h => ?_) <;> conv => whnf)
            | (refine need_in (by first | exact trivial | assumption | exact ⟨rfl, Nat.le_refl _⟩ | exact ⟨rfl, rfl⟩ | (simp only [inR]; omega) | omega | (simp only [roomP, true_and, and_true, List.length_take, List.length_drop, List.length_append, List.length_cons, List.length_nil, List.length_set, List.length_replicate]; omega) | (refine ⟨by first | exact trivial | rfl, by first | exact Nat.le_refl _ | omega, ?_⟩; change roomP _ _ 1; simp only [roomP]; omega) | (change roomP _ _ 1; simp only [roomP]; omega) | (simp; omega) | (simp [inR]; omega) | (simp [inR]; done) | decide | (simp; done)) ?_; conv => whnf)
            | (refine idx_nat (by omega) (fun x hx => ?_); conv => whnf)
            | (refine frz_auto ?_; conv => whnf)
            | (refine draw_plain ?_; conv => whnf)
            | (refine idx_intro (by omega) (by omega) (fun x hx => ?_); conv => whnf)
            | (refine idx_intro (by first | omega | (simp; omega) | (simp; done)) (by first | omega | (simp; omega) | (simp; done)) (fun x hx => ?_); conv => whnf)
            | fail
          rw [hgs]
          exact ⟨two (6, 0) (9, 0), rfl, two_get ⟨false, by rw [← htk]; rfl⟩ ⟨false, by rw [← e1, ← htl]; rfl⟩, two_inj (by decide)⟩
    · rw [repE, if_pos hc] at hp
      exact absurd hp hc
  · cases h
/-! ### The same, of functions by names -/
theorem gok_sub {P : Go.Program} {g : FuncId} {sp sp' : GSpec} (h : GOk P g sp) (hs : ∀ ys p r, sp' ys = some (p, r) → p → ∃ p', sp ys = some (p', r) ∧ p') : GOk P g sp' := ⟨h.1, fun ys p r e hp => by obtain ⟨p', e', hp'⟩ := hs ys p r e hp; exact h.2 ys p' r e' hp'⟩
def gB (F : LzF) : GSpec
  | [.lst (.st [.str, .bool]) ks] => some (F.bE ks = 0, ⟨[⟨39, keyT, ks⟩, ⟨3, intT, F.bL ks⟩], .tup [.agg [.own 0 0 ks.length, .own 1 0 ks.length, .int .i64 (F.bW ks)], .int .i64 0]⟩)
  | _ => none
theorem gB_sub {F : LzF} (h : F = stdF) : ∀ ys p r, gB F ys = some (p, r) → p → ∃ p', gBuild ys = some (p', r) ∧ p' := by
  subst h
  intro ys p r e hp
  unfold gB at e
  split at e
  · rename_i ks
    cases e
    have h0 : rightE ks = 0 := hp
    refine ⟨_, ?_, h0⟩
    have e1 : stdF.bL ks = loseL ks := bL_ok h0
    have e2 : stdF.bW ks = winI ks := bW_ok h0
    rw [e1, e2]
    rfl
  · cases e
theorem gB_ok {F : LzF} (h : F = stdF) : GOk Try.prog 11 (gB F) := gok_sub gBuild_ok (gB_sub h)
theorem gBr_ok {F : LzF} (h : F = stdF) : GOk Try.prog 12 (gB F) := gok_sub grBuild_ok (gB_sub h)
def gR (F : LzF) : GSpec
  | [.agg [.lst (.st [.str, .bool]) ks, .lst (.int .i64) lo, .int .i64 w], .agg [.str k, .bool d]] => some (F.rE ks lo w k d = 0, ⟨[⟨39, keyT, F.rK ks lo w k d⟩, ⟨3, intT, F.rL ks lo w k d⟩], .tup [.agg [.own 0 0 ks.length, .own 1 0 ks.length, .int .i64 (F.rW ks lo w k d)], .int .i64 (F.rG ks lo w k d), .int .i64 0]⟩)
  | _ => none
theorem gR_sub {F : LzF} (h : F = stdF) : ∀ ys p r, gR F ys = some (p, r) → p → ∃ p', gRepl ys = some (p', r) ∧ p' := by
  subst h
  intro ys p r e hp
  unfold gR at e
  split at e
  · rename_i ks lo w k d
    cases e
    have h0 : repE ks lo w (mkK k d) = 0 := hp
    refine ⟨_, ?_, h0⟩
    obtain ⟨q, hf⟩ := repF h0
    have e1 : stdF.rK ks lo w k d = ks.set w.toNat (mkK k d) := by have := hf.K; rw [hf.hw] at this ⊢; exact this
    have e2 : stdF.rL ks lo w k d = loseL (ks.set w.toNat (mkK k d)) := by have := hf.L; rw [hf.hw] at this ⊢; exact this
    have e3 : stdF.rW ks lo w k d = winI (ks.set w.toNat (mkK k d)) := by have := hf.W; rw [hf.hw] at this ⊢; exact this
    have e4 : stdF.rG ks lo w k d = ((gm (ks.length + w.toNat) : Nat) : Int) := by have := hf.G; rw [hf.hw] at this ⊢; exact this
    rw [e1, e2, e3, e4]
    show gRepl _ = _
    simp only [gRepl, loseL_len]
  · cases e
theorem gR_ok {F : LzF} (h : F = stdF) : GOk Try.prog 21 (gR F) := gok_sub gRepl_ok (gR_sub h)
end Go.Proofs.Ytjlfkgffgnkflaa
