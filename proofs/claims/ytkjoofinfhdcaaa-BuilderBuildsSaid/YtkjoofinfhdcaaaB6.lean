/-
  A builder has the room that it says.
-/
import Derived.Test.YtkjoofinfhdcaaaB5
namespace Go.Proofs.Ytkjoofinfhdcaaa
open Av Bk

theorem fnOk_lRo : FnOk Try.prog 6 Try.f6 := ⟨by rfl, by kernel_rfl, by
  show okCode _ _ = true ∧ drawsOk _ = true
  exact ⟨by kernel_rfl, by kernel_rfl⟩⟩
noncomputable abbrev lRo_C : Cx := lKn_C
abbrev lRo_D := lKn_D
abbrev lRo_F := lKn_F
abbrev lRo_N : Nat := 4
abbrev lRo_T : List Ty := [.int .u8, .int .u8, .bool]
abbrev lRo_FN := fnOk_lRo
def entN (dead : Bool) (i : Nat) : entT.El := mkE (bytesOf [107, (i : Int)]) ⟨#[]⟩ dead ((i : Int) + 1)
def ents (dead : Bool) (m : Nat) : List entT.El := (List.range m).map (entN dead)
theorem ents_len (dead : Bool) (m : Nat) : (ents dead m).length = m := by simp [ents]
theorem ents_get {dead : Bool} {m i : Nat} (h : i < m) : (ents dead m)[i]? = some (entN dead i) := by simp [ents, h]
theorem ents_succ (dead : Bool) (m : Nat) : ents dead (m + 1) = ents dead m ++ [entN dead m] := by simp [ents, List.range_succ]
theorem key_err {i : Nat} {dead : Bool} (h : i < 1000) : errE (bytesOf [107, (i : Int)]) ⟨#[]⟩ dead ((i : Int) + 1) = 0 := by
  have h1 : ((bytesOf [107, (i : Int)]).size : Int) = 2 := rfl
  have h2 : ((⟨#[]⟩ : ByteArray).size : Int) = 0 := rfl
  have h3 : sEq ⟨#[]⟩ ⟨#[]⟩ = true := rfl
  unfold errE
  rw [h1, h2, h3]
  have a1 : decide ((i : Int) + 1 < 1) = false := by simp; omega
  have a2 : decide (1000000000 < (i : Int) + 1) = false := by simp; omega
  rw [a1, a2]
  cases dead <;> rfl
theorem key_lt {j i : Nat} (h : j < i) (hi : i < 256) : (!sLt (bytesOf [107, (j : Int)]) (bytesOf [107, (i : Int)])) = false := by
  have e : ∀ k : Nat, (bytesOf [107, (k : Int)]).data.toList = [107, UInt8.ofNat k] := fun k => by simp [bytesOf]
  unfold sLt
  rw [e, e]
  have h2 : UInt8.ofNat j < UInt8.ofNat i := by
    rw [UInt8.lt_iff_toNat_lt, UInt8.toNat_ofNat', UInt8.toNat_ofNat']
    omega
  simp [Op.bytesLess, h2]
theorem last_get {t : Ty} {l : List t.El} {c : Nat} (hl : l.length = c) (e : t.El) (n : Nat) (hn : n = c) : (List.take c l ++ List.take 1 [e])[n]? = some e := by
  subst hn
  rw [← hl, List.take_length, List.getElem?_append_right (Nat.le_refl _)]
  simp
theorem ents_last {dead : Bool} {c : Nat} (h : 0 < c) : (ents dead c)[((c : Int) - 1).toNat]? = some (entN dead (c - 1)) := by
  rw [show ((c : Int) - 1).toNat = c - 1 by omega]
  exact ents_get (by omega)
theorem bheap {T U : TypeId} {r s : AV} {g n c : Nat} {l m : List entT.El} (hn : n = c) (hl : l = m) : [AObj.cells T [r, .own 1 g n, s], .arr U entT l false g] = [.cells T [r, .own 1 g c, s], .arr U entT m false g] := by
  subst hn hl
  rfl
theorem app_ents (dead : Bool) (c : Nat) : List.take c (ents dead c) ++ List.take 1 [entN dead c] = ents dead (c + 1) := by
  rw [ents_succ, List.take_of_length_le (by rw [ents_len]; exact Nat.le_refl _)]
  rfl
theorem clGo_ok : ∀ (l : List entT.El) (i : Int) (pv : Option ByteArray), (∀ x ∈ l, errX x = 0) → (∀ k x y, l[k]? = some x → l[k + 1]? = some y → sLt x.1 y.1 = true) → (∀ x, l[0]? = some x → falls pv x = false) → clGo pv i l = (0, 0)
  | [], _, _, _, _, _ => rfl
  | x :: l, i, pv, h1, h2, h3 => by
    rw [clGo, if_neg (by rw [h1 x (by simp)]; simp), if_neg (by rw [h3 x rfl]; simp)]
    refine clGo_ok l _ _ (fun y hy => h1 y (by simp [hy])) (fun k y z hy hz => h2 (k + 1) y z (by simpa using hy) (by simpa using hz)) (fun y hy => ?_)
    have := h2 0 x y rfl (by simpa using hy)
    simp only [falls, this]
    rfl
theorem clL_ents (dead : Bool) {c : Nat} (h : c ≤ 60) : clL (ents dead c) = (0, 0) := by
  rw [clL, if_neg (by rw [ents_len]; omega)]
  refine clGo_ok _ _ _ (fun x hx => ?_) (fun k x y hx hy => ?_) (fun x _ => rfl)
  · obtain ⟨k, hk⟩ := List.mem_iff_getElem?.1 hx
    have hkc : k < c := by have := (List.getElem?_eq_some_iff.1 hk).1; rw [ents_len] at this; exact this
    rw [ents_get hkc] at hk
    cases hk
    exact key_err (i := k) (by omega)
  · have hkc : k + 1 < c := by have := (List.getElem?_eq_some_iff.1 hy).1; rw [ents_len] at this; exact this
    rw [ents_get (by omega)] at hx
    rw [ents_get hkc] at hy
    cases hx
    cases hy
    exact bnf (key_lt (j := k) (i := k + 1) (by omega) (by omega))
theorem of_ents (dead : Bool) (c : Nat) (h : c ≤ 60) : ofR 1 (List.take c (ents dead c)) = if c = 0 then (0, [], 4) else (1, ents dead c, 0) := by
  have ht : List.take c (ents dead c) = ents dead c := List.take_of_length_le (by rw [ents_len]; exact Nat.le_refl _)
  rw [ht, ofR, if_neg (by omega), clL_ents dead h, if_neg (by simp), ents_len]
set_option maxRecDepth 100000 in
set_option maxHeartbeats 4000000 in
theorem lRo' (a n : Nat) (dead : Bool) (h1 : a ≤ 255) (h2 : n ≤ 255) : bodyA lRo_C (callN lRo_C lRo_N) Try.f6 [.int .u8 (a : Int), .int .u8 (n : Int), .bool dead] [] (fun v _ => v = .bool true) := by
  conv => whnf
  repeat' first
    | (refine br_true (by first | with_reducible exact rfl | assumption | decide) ?_; conv => whnf)
    | (refine br_false (by first | with_reducible exact rfl | assumption | decide) ?_; conv => whnf)
    | ((with_reducible refine br_kt (by assumption) ?_); conv => whnf)
    | ((with_reducible refine br_kf (by assumption) ?_); conv => whnf)
    | ((with_reducible refine br_nt (by assumption) ?_); conv => whnf)
    | ((with_reducible refine br_nf (by assumption) ?_); conv => whnf)
    | ((with_reducible refine br_et (by assumption) ?_); conv => whnf)
    | ((with_reducible refine br_ef (by assumption) ?_); conv => whnf)
    | ((with_reducible refine br_dec (fun h => ?_) (fun h => ?_)) <;> first | (exfalso; omega) | conv => whnf)
    | ((with_reducible refine br_ndec (fun h => ?_) (fun h => ?_)) <;> first | (exfalso; omega) | conv => whnf)
    | ((with_reducible refine br_ne (fun h => ?_) (fun h => ?_)) <;> first | (exfalso; omega) | conv => whnf)
    | ((with_reducible refine br_eq (fun h => ?_) (fun h => ?_)) <;> first | (exfalso; omega) | conv => whnf)
    | (refine br_intro (fun h => ?_) (fun h => ?_) <;> conv => whnf)
    | (refine need_in (by first | exact trivial | assumption | exact ⟨rfl, Nat.le_refl _⟩ | exact ⟨rfl, rfl⟩ | (simp only [inR]; omega) | omega | (simp only [roomP, true_and, and_true, List.length_take, List.length_drop, List.length_append, List.length_cons, List.length_nil, List.length_set, List.length_replicate]; omega) | (refine ⟨by first | exact trivial | rfl, by first | exact Nat.le_refl _ | omega, ?_⟩; change roomP _ _ 1; simp only [roomP]; omega) | (change roomP _ _ 1; simp only [roomP]; omega) | (simp; omega) | (simp [inR]; omega) | (simp [inR]; done) | (simp; done)) ?_; conv => whnf)
    | (refine idx_nat (by omega) (fun x hx => ?_); conv => whnf)
    | (refine frz_auto ?_; conv => whnf)
    | (refine idx_intro (by omega) (by omega) (fun x hx => ?_); conv => whnf)
    | (refine idx_intro (by first | omega | (simp; omega) | (simp; done)) (by first | omega | (simp; omega) | (simp; done)) (fun x hx => ?_); conv => whnf)
    | fail
  obtain ⟨r, hr, hr2⟩ : ∃ r : Nat, ((a : Int) % 40 + 1) = r ∧ r ≤ 40 := ⟨a % 40 + 1, by omega, by omega⟩
  obtain ⟨m, hm, hm2⟩ : ∃ m : Nat, ((n : Int) % 60) = m ∧ m < 60 := ⟨n % 60, by omega, by omega⟩
  rw [hr, hm]
  refine loop_inv [.cell 0 1 25 entT] [11] (fun vs h => ∃ (i g c : Nat), vs = [.int .i64 (i : Int)] ∧ h = [.cells 65 [.int .i64 (r : Int), .own 1 g c, .int .i64 1], .arr 25 entT (ents dead c) false g] ∧ i ≤ m ∧ (i < r ∧ c = i ∨ r ≤ i ∧ c = r)) (fun vs _ => match vs with | [.int _ k] => m - k.toNat | _ => 0) ?_
  conv => whnf
  refine ⟨⟨0, 0, 0, rfl, rfl, Nat.zero_le _, by omega⟩, ?_⟩
  rintro vs h' - ⟨i, g, c, rfl, rfl, hi, hc⟩
  have hel := ents_len dead c
  have hE : i < m → errE (bytesOf [107, (i : Int)]) ⟨#[]⟩ dead ((i : Int) + 1) = 0 := fun h => key_err (by omega)
  have hr1 : 1 ≤ r := by omega
  by_cases him : i < m
  · have hE := hE him
    have hL : ∀ j : Nat, j < i → (!sLt (bytesOf [107, (j : Int)]) (bytesOf [107, (i : Int)])) = false := fun j hj => key_lt hj (by omega)
    rcases hc with ⟨hir, rfl⟩ | ⟨hir, rfl⟩
    · conv => whnf
      repeat' first
        | ((with_reducible refine br_kt ?_ ?_); (· assumption); (conv => whnf))
        | ((with_reducible refine br_kf ?_ ?_); (· assumption); (conv => whnf))
        | ((with_reducible refine br_nt ?_ ?_); (· assumption); (conv => whnf))
        | ((with_reducible refine br_nf ?_ ?_); (· assumption); (conv => whnf))
        | ((with_reducible refine br_et ?_ ?_); (· assumption); (conv => whnf))
        | ((with_reducible refine br_ef ?_ ?_); (· assumption); (conv => whnf))
        | ((refine br_true ?_ ?_); (· assumption); (conv => whnf))
        | ((refine br_false ?_ ?_); (· assumption); (conv => whnf))
        | (refine br_true (by first | with_reducible exact rfl | assumption | decide) ?_; conv => whnf)
        | (refine br_false (by first | with_reducible exact rfl | assumption | decide) ?_; conv => whnf)
        | ((with_reducible refine br_kt (by assumption) ?_); conv => whnf)
        | ((with_reducible refine br_kf (by assumption) ?_); conv => whnf)
        | ((with_reducible refine br_nt (by assumption) ?_); conv => whnf)
        | ((with_reducible refine br_nf (by assumption) ?_); conv => whnf)
        | ((with_reducible refine br_et (by assumption) ?_); conv => whnf)
        | ((with_reducible refine br_ef (by assumption) ?_); conv => whnf)
        | ((with_reducible refine br_dec (fun h => ?_) (fun h => ?_)) <;> first | (exfalso; omega) | conv => whnf)
        | ((with_reducible refine br_ndec (fun h => ?_) (fun h => ?_)) <;> first | (exfalso; omega) | conv => whnf)
        | ((with_reducible refine br_ne (fun h => ?_) (fun h => ?_)) <;> first | (exfalso; omega) | conv => whnf)
        | ((with_reducible refine br_eq (fun h => ?_) (fun h => ?_)) <;> first | (exfalso; omega) | conv => whnf)
        | (refine br_intro (fun h => ?_) (fun h => ?_) <;> conv => whnf)
        | (refine need_in (by first | exact trivial | assumption | exact ⟨rfl, Nat.le_refl _⟩ | exact ⟨rfl, rfl⟩ | (simp only [inR]; omega) | omega | (simp only [roomP, true_and, and_true, List.length_take, List.length_drop, List.length_append, List.length_cons, List.length_nil, List.length_set, List.length_replicate]; omega) | (refine ⟨by first | exact trivial | rfl, by first | exact Nat.le_refl _ | omega, ?_⟩; change roomP _ _ 1; simp only [roomP]; omega) | (change roomP _ _ 1; simp only [roomP]; omega) | (simp; omega) | (simp [inR]; omega) | (simp [inR]; done) | (simp; done)) ?_; conv => whnf)
        | (refine idx_nat (by omega) (fun x hx => ?_); conv => whnf)
        | (refine frz_auto ?_; conv => whnf)
        | (refine idx_intro (by omega) (by omega) (fun x hx => ?_); conv => whnf)
        | (refine idx_intro (by first | omega | (simp; omega) | (simp; done)) (by first | omega | (simp; omega) | (simp; done)) (fun x hx => ?_); conv => whnf)
        | fail
      all_goals first
        | (refine absurd ?_ h
           show ((c + 1 : Nat) : Int) = if (r : Int) < (c : Int) + 1 then (r : Int) else (c : Int) + 1
           split <;> omega)
        | (exfalso
           rename_i q
           have q : ((c + 1 : Nat) : Int) = 0 := q
           omega)
        | (obtain rfl := Option.some.inj (hx.symm.trans (last_get hel _ _ (by simp)))
           exact absurd (h.symm.trans (congrArg (fun b => !b) (eqT_refl _))) (by decide))
        | (rename_i a1 a2 y hy q a3
           obtain rfl := Option.some.inj (hy.symm.trans (ents_last (by omega)))
           exact absurd (q.symm.trans (hL (c - 1) (by omega))) (by decide))
        | (refine back_intro (by conv => whnf) rfl ⟨c + 1, g + 1, c + 1, rfl, bheap ?_ ?_, by omega, by omega⟩ ?_
           · rfl
           · exact app_ents dead c
           · show m - ((c : Int) + 1).toNat < m - (c : Int).toNat
             omega)
    · have hL0 := hL (c - 1) (by omega)
      conv => whnf
      repeat' first
        | ((with_reducible refine br_kt ?_ ?_); (· assumption); (conv => whnf))
        | ((with_reducible refine br_kf ?_ ?_); (· assumption); (conv => whnf))
        | ((with_reducible refine br_nt ?_ ?_); (· assumption); (conv => whnf))
        | ((with_reducible refine br_nf ?_ ?_); (· assumption); (conv => whnf))
        | ((with_reducible refine br_et ?_ ?_); (· assumption); (conv => whnf))
        | ((with_reducible refine br_ef ?_ ?_); (· assumption); (conv => whnf))
        | ((refine br_true ?_ ?_); (· assumption); (conv => whnf))
        | ((refine br_false ?_ ?_); (· assumption); (conv => whnf))
        | (refine br_true (by first | with_reducible exact rfl | assumption | decide) ?_; conv => whnf)
        | (refine br_false (by first | with_reducible exact rfl | assumption | decide) ?_; conv => whnf)
        | ((with_reducible refine br_kt (by assumption) ?_); conv => whnf)
        | ((with_reducible refine br_kf (by assumption) ?_); conv => whnf)
        | ((with_reducible refine br_nt (by assumption) ?_); conv => whnf)
        | ((with_reducible refine br_nf (by assumption) ?_); conv => whnf)
        | ((with_reducible refine br_et (by assumption) ?_); conv => whnf)
        | ((with_reducible refine br_ef (by assumption) ?_); conv => whnf)
        | ((with_reducible refine br_dec (fun h => ?_) (fun h => ?_)) <;> first | (exfalso; omega) | conv => whnf)
        | ((with_reducible refine br_ndec (fun h => ?_) (fun h => ?_)) <;> first | (exfalso; omega) | conv => whnf)
        | ((with_reducible refine br_ne (fun h => ?_) (fun h => ?_)) <;> first | (exfalso; omega) | conv => whnf)
        | ((with_reducible refine br_eq (fun h => ?_) (fun h => ?_)) <;> first | (exfalso; omega) | conv => whnf)
        | (refine br_intro (fun h => ?_) (fun h => ?_) <;> conv => whnf)
        | (refine need_in (by first | exact trivial | assumption | exact ⟨rfl, Nat.le_refl _⟩ | exact ⟨rfl, rfl⟩ | (simp only [inR]; omega) | omega | (simp only [roomP, true_and, and_true, List.length_take, List.length_drop, List.length_append, List.length_cons, List.length_nil, List.length_set, List.length_replicate]; omega) | (refine ⟨by first | exact trivial | rfl, by first | exact Nat.le_refl _ | omega, ?_⟩; change roomP _ _ 1; simp only [roomP]; omega) | (change roomP _ _ 1; simp only [roomP]; omega) | (simp; omega) | (simp [inR]; omega) | (simp [inR]; done) | (simp; done)) ?_; conv => whnf)
        | (refine idx_nat (by omega) (fun x hx => ?_); conv => whnf)
        | (refine frz_auto ?_; conv => whnf)
        | (refine idx_intro (by omega) (by omega) (fun x hx => ?_); conv => whnf)
        | (refine idx_intro (by first | omega | (simp; omega) | (simp; done)) (by first | omega | (simp; omega) | (simp; done)) (fun x hx => ?_); conv => whnf)
        | fail
      all_goals first
        | (rename_i a1 a2 y hy q a3 a4
           obtain rfl := Option.some.inj (hy.symm.trans (ents_last (by omega)))
           exact absurd (q.symm.trans hL0) (by decide))
        | (obtain rfl := Option.some.inj (hx.symm.trans (ents_last (by omega)))
           exact absurd (show (((c - 1 : Nat) : Int) + 1 = c) by omega) h)
        | (refine back_intro (by conv => whnf) rfl ⟨i + 1, g, c, rfl, rfl, by omega, by omega⟩ ?_
           show m - ((i : Int) + 1).toNat < m - (i : Int).toNat
           omega)
  · have hof := of_ents dead c (by omega)
    have e1 : (ofR 1 (List.take c (ents dead c))).2.2 = if c = 0 then 4 else 0 := by rw [hof]; split <;> rfl
    have e2 : (ofR 1 (List.take c (ents dead c))).2.1.length = c := by
      rw [hof]
      split
      · rename_i h0; rw [h0]; rfl
      · exact hel
    have e3 : (List.take c (ents dead c)).length = c := by rw [List.length_take]; omega
    have hmi : i = m := by omega
    conv => whnf
    repeat' first
      | ((with_reducible refine br_kt ?_ ?_); (· assumption); (conv => whnf))
      | ((with_reducible refine br_kf ?_ ?_); (· assumption); (conv => whnf))
      | ((with_reducible refine br_nt ?_ ?_); (· assumption); (conv => whnf))
      | ((with_reducible refine br_nf ?_ ?_); (· assumption); (conv => whnf))
      | ((with_reducible refine br_et ?_ ?_); (· assumption); (conv => whnf))
      | ((with_reducible refine br_ef ?_ ?_); (· assumption); (conv => whnf))
      | ((refine br_true ?_ ?_); (· assumption); (conv => whnf))
      | ((refine br_false ?_ ?_); (· assumption); (conv => whnf))
      | (refine br_true (by first | with_reducible exact rfl | assumption | decide) ?_; conv => whnf)
      | (refine br_false (by first | with_reducible exact rfl | assumption | decide) ?_; conv => whnf)
      | ((with_reducible refine br_kt (by assumption) ?_); conv => whnf)
      | ((with_reducible refine br_kf (by assumption) ?_); conv => whnf)
      | ((with_reducible refine br_nt (by assumption) ?_); conv => whnf)
      | ((with_reducible refine br_nf (by assumption) ?_); conv => whnf)
      | ((with_reducible refine br_et (by assumption) ?_); conv => whnf)
      | ((with_reducible refine br_ef (by assumption) ?_); conv => whnf)
      | ((with_reducible refine br_dec (fun h => ?_) (fun h => ?_)) <;> first | (exfalso; omega) | conv => whnf)
      | ((with_reducible refine br_ndec (fun h => ?_) (fun h => ?_)) <;> first | (exfalso; omega) | conv => whnf)
      | ((with_reducible refine br_ne (fun h => ?_) (fun h => ?_)) <;> first | (exfalso; omega) | conv => whnf)
      | ((with_reducible refine br_eq (fun h => ?_) (fun h => ?_)) <;> first | (exfalso; omega) | conv => whnf)
      | (refine br_intro (fun h => ?_) (fun h => ?_) <;> conv => whnf)
      | (refine need_in (by first | exact trivial | assumption | exact ⟨rfl, Nat.le_refl _⟩ | exact ⟨rfl, rfl⟩ | (simp only [inR]; omega) | omega | (simp only [roomP, true_and, and_true, List.length_take, List.length_drop, List.length_append, List.length_cons, List.length_nil, List.length_set, List.length_replicate]; omega) | (refine ⟨by first | exact trivial | rfl, by first | exact Nat.le_refl _ | omega, ?_⟩; change roomP _ _ 1; simp only [roomP]; omega) | (change roomP _ _ 1; simp only [roomP]; omega) | (simp; omega) | (simp [inR]; omega) | (simp [inR]; done) | (simp; done)) ?_; conv => whnf)
      | (refine idx_nat (by omega) (fun x hx => ?_); conv => whnf)
      | (refine frz_auto ?_; conv => whnf)
      | (refine idx_intro (by omega) (by omega) (fun x hx => ?_); conv => whnf)
      | (refine idx_intro (by first | omega | (simp; omega) | (simp; done)) (by first | omega | (simp; omega) | (simp; done)) (fun x hx => ?_); conv => whnf)
      | fail
    all_goals (exfalso; grind)
theorem lRo : ∀ es : Ty.Els lRo_T, tyOks lRo_T es → bodyA lRo_C (callN lRo_C lRo_N) Try.f6 (avTs lRo_T es) [] (fun v _ => v = .bool true) := by
  rintro ⟨most, many, dead, _⟩ ⟨h1, h2, -⟩
  obtain ⟨a, ha, ha2⟩ : ∃ a : Nat, most = (a : Int) ∧ a ≤ 255 := by
    have h1 : inR .u8 most := h1
    simp only [inR] at h1
    exact ⟨Int.toNat most, (Int.toNat_of_nonneg h1.1).symm, by have := h1.2; omega⟩
  obtain ⟨n, hn, hn2⟩ : ∃ n : Nat, many = (n : Int) ∧ n ≤ 255 := by
    have h2 : inR .u8 many := h2
    simp only [inR] at h2
    exact ⟨Int.toNat many, (Int.toNat_of_nonneg h2.1).symm, by have := h2.2; omega⟩
  show bodyA _ _ _ [.int .u8 most, .int .u8 many, .bool dead] [] _
  have := lRo' a n dead ha2 hn2
  rw [← ha, ← hn] at this
  exact this
end Go.Proofs.Ytkjoofinfhdcaaa
