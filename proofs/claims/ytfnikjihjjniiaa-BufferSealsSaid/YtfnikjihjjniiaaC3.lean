/-
  The place of a key.
-/
import Derived.Test.YtfnikjihjjniiaaC2
namespace Go.Proofs.Ytfnikjihjjniiaa
open Av Bk

def ascS (l : List entT.El) : Prop := ∀ (k : Nat) (x y : entT.El), l[k]? = some x → l[k + 1]? = some y → sLt x.1 y.1 = true
/-- How many keys at the beginning are less than one. -/
def lb (key : ByteArray) : List entT.El → Nat
  | [] => 0
  | y :: l => if sLt y.1 key = true then lb key l + 1 else 0
theorem lb_le (key : ByteArray) : ∀ l, lb key l ≤ l.length
  | [] => Nat.le_refl _
  | y :: l => by
    simp only [lb]
    split
    · have := lb_le key l; simp; omega
    · exact Nat.zero_le _
theorem lb_lt {key : ByteArray} : ∀ {l : List entT.El} {k : Nat} {y : entT.El}, k < lb key l → l[k]? = some y → sLt y.1 key = true
  | [], k, y, h, _ => by simp [lb] at h
  | x :: l, 0, y, h, hy => by
    cases hy
    simp only [lb] at h
    split at h
    · assumption
    · omega
  | x :: l, k + 1, y, h, hy => by
    simp only [lb] at h
    split at h
    · exact lb_lt (l := l) (k := k) (by omega) (by simpa using hy)
    · omega
theorem sLt_trans {a b c : ByteArray} (h1 : sLt a b = true) (h2 : sLt b c = true) : sLt a c = true := bl_trans _ _ _ h1 h2
theorem sLt_irrefl (a : ByteArray) : sLt a a = false := bl_irrefl _
theorem ascS_tail {x : entT.El} {l : List entT.El} (h : ascS (x :: l)) : ascS l := fun k y z hy hz => h (k + 1) y z (by simpa using hy) (by simpa using hz)
theorem ascS_head {l : List entT.El} : ∀ {x y : entT.El} {k : Nat}, ascS (x :: l) → l[k]? = some y → sLt x.1 y.1 = true := by
  induction l with
  | nil => intro x y k _ h; simp at h
  | cons z l ih =>
    intro x y k h hy
    have h0 : sLt x.1 z.1 = true := h 0 x z rfl rfl
    cases k with
    | zero => cases hy; exact h0
    | succ k => exact sLt_trans h0 (ih (ascS_tail h) (by simpa using hy))
theorem lb_ge {key : ByteArray} : ∀ {l : List entT.El} {k : Nat} {y : entT.El}, ascS l → lb key l ≤ k → l[k]? = some y → sLt y.1 key = false
  | [], k, y, _, _, hy => by simp at hy
  | x :: l, 0, y, ha, h, hy => by
    cases hy
    simp only [lb] at h
    split at h
    · omega
    · rename_i hn; simpa using hn
  | x :: l, k + 1, y, ha, h, hy => by
    simp only [lb] at h
    split at h
    · exact lb_ge (l := l) (k := k) (ascS_tail ha) (by omega) (by simpa using hy)
    · rename_i hn
      cases hlt : sLt y.1 key with
      | false => rfl
      | true => exact absurd (sLt_trans (ascS_head ha (by simpa using hy)) hlt) hn
def foundK (key : ByteArray) (l : List entT.El) : Bool := match l[lb key l]? with
  | some y => sEq y.1 key
  | none => false
def spFind : DSpec
  | [.lst (.st [.str, .str, .bool, .int .i64]) l, .str key] => some (ascS l ∧ l.length ≤ 100000, .tup [.int .i64 (lb key l : Nat), .bool (foundK key l)])
  | _ => none
theorem two_int {a b c d : Int} (h1 : a = c) (h2 : b = d) : [AV.int .i64 a, .int .i64 b] = [AV.int .i64 c, .int .i64 d] := by rw [h1, h2]
theorem fnOk_bFind : FnOk Try.prog 39 Try.f39 := ⟨by rfl, by kernel_rfl, by
  show okCode _ _ = true ∧ drawsOk _ = true
  exact ⟨by kernel_rfl, by kernel_rfl⟩⟩
theorem fnOk_bFind1 : FnOk Try.prog 48 Try.f48 := ⟨by rfl, by kernel_rfl, by
  show okCode _ _ = true ∧ drawsOk _ = true
  exact ⟨by kernel_rfl, by kernel_rfl⟩⟩
theorem fnOk_search : FnOk Try.prog 47 Try.f47 := ⟨by rfl, by kernel_rfl, by
  show okCode _ _ = true ∧ drawsOk _ = true
  exact ⟨by kernel_rfl, by kernel_rfl⟩⟩
noncomputable def cx30 : Cx := ⟨tb, [(47, Try.f47), (48, Try.f48)], []⟩
theorem fns30 : FnsOk Try.prog cx30.fns := .cons fnOk_search (.cons fnOk_bFind1 .nil)
set_option maxRecDepth 100000 in
set_option maxHeartbeats 2000000 in
theorem bFind_ok : SpecOk Try.prog 39 spFind := by
  refine spec_body (C := cx30) mixed tbOk SpecsOk.nil (callN_ok (C := cx30) mixed tbOk SpecsOk.nil fns30 3) fnOk_bFind ?_
  intro ys p r h hp
  unfold spFind at h
  split at h
  · rename_i l key
    cases h
    obtain ⟨ha, hl⟩ := hp
    have hle := lb_le key l
    conv => whnf
    refine loop_inv [] [5, 6] (fun vs h => ∃ i j : Nat, vs = [.int .i64 (i : Int), .int .i64 (j : Int)] ∧ h = [.cells 22 [.lst entT l], .cells 9 [.str key]] ∧ i ≤ lb key l ∧ lb key l ≤ j ∧ j ≤ l.length) (fun vs _ => match vs with | [.int _ i, .int _ j] => j.toNat - i.toNat | _ => 0) ?_
    conv => whnf
    refine ⟨⟨0, l.length, rfl, rfl, Nat.zero_le _, hle, Nat.le_refl _⟩, ?_⟩
    rintro vs h' - ⟨i, j, rfl, rfl, hi, hj, hjl⟩
    have hm : ((i : Int) + j) / 2 ^ Int.toNat 1 = (((i + j) / 2 : Nat) : Int) := by
      show ((i : Int) + j) / 2 = _
      omega
    conv => whnf
    repeat' first
      | (refine br_true (by first | with_reducible exact rfl | assumption | decide) ?_; conv => whnf)
      | (refine br_false (by first | with_reducible exact rfl | assumption | decide) ?_; conv => whnf)
      | ((with_reducible refine br_kt (by assumption) ?_); conv => whnf)
      | ((with_reducible refine br_kf (by assumption) ?_); conv => whnf)
      | ((with_reducible refine br_nt (by assumption) ?_); conv => whnf)
      | ((with_reducible refine br_nf (by assumption) ?_); conv => whnf)
      | ((with_reducible refine br_et (by assumption) ?_); conv => whnf)
      | ((with_reducible refine br_ef (by assumption) ?_); conv => whnf)
      | ((with_reducible refine br_dec (fun h => ?_) (fun h => ?_)) <;> first | (exfalso; omega) | conv => whnf)
      | ((with_reducible refine br_ndec (fun h => ?_) (fun h => ?_)) <;> first | (exfalso; omega) | conv => whnf)
      | ((with_reducible refine br_ne (fun h => ?_) (fun h => ?_)) <;> first | (exfalso; omega) | conv => whnf)
      | ((with_reducible refine br_eq (fun h => ?_) (fun h => ?_)) <;> first | (exfalso; omega) | conv => whnf)
      | (refine br_intro (fun h => ?_) (fun h => ?_) <;> conv => whnf)
      | (refine need_in (by first | exact trivial | assumption | exact ⟨rfl, Nat.le_refl _⟩ | exact ⟨rfl, rfl⟩ | (simp only [inR]; omega) | omega | (simp only [roomP, true_and, and_true, List.length_take, List.length_drop, List.length_append, List.length_cons, List.length_nil, List.length_set, List.length_replicate]; omega) | (refine ⟨by first | exact trivial | rfl, by first | exact Nat.le_refl _ | omega, ?_⟩; change roomP _ _ 1; simp only [roomP]; omega) | (change roomP _ _ 1; simp only [roomP]; omega) | (simp; omega) | (simp [inR]; omega) | (simp [inR]; done) | decide | (simp; done)) ?_; conv => whnf)
      | (refine idx_nat (by omega) (fun x hx => ?_); conv => whnf)
      | (refine frz_auto ?_; conv => whnf)
      | (refine draw_plain ?_; conv => whnf)
      | (refine idx_intro (by omega) (by omega) (fun x hx => ?_); conv => whnf)
      | (refine idx_intro (by first | omega | (simp; omega) | (simp; done)) (by first | omega | (simp; omega) | (simp; done)) (fun x hx => ?_); conv => whnf)
      | fail
    · rw [hm] at hx
      have hx : l[(i + j) / 2]? = some x := hx
      have hlt : (i + j) / 2 < lb key l := by
        rcases Nat.lt_or_ge ((i + j) / 2) (lb key l) with h1 | h1
        · exact h1
        · rw [lb_ge ha h1 hx] at h; cases h
      refine back_intro (by conv => whnf) rfl ⟨(i + j) / 2 + 1, j, ?_, rfl, by omega, hj, hjl⟩ ?_
      · exact two_int (by rw [hm]; rfl) rfl
      · show (j : Int).toNat - (((i : Int) + j) / 2 ^ Int.toNat 1 + 1).toNat < (j : Int).toNat - (i : Int).toNat
        rw [hm]
        omega
    · rw [hm] at hx
      have hx : l[(i + j) / 2]? = some x := hx
      have hge : lb key l ≤ (i + j) / 2 := by
        rcases Nat.lt_or_ge ((i + j) / 2) (lb key l) with h1 | h1
        · rw [lb_lt h1 hx] at h; cases h
        · exact h1
      refine back_intro (by conv => whnf) rfl ⟨i, (i + j) / 2, ?_, rfl, hi, hge, by omega⟩ ?_
      · exact two_int rfl hm
      · show (((i : Int) + j) / 2 ^ Int.toNat 1).toNat - (i : Int).toNat < (j : Int).toNat - (i : Int).toNat
        rw [hm]
        omega
    · have e : i = lb key l := by omega
      subst e
      rw [foundK, hx]
    · have e : i = lb key l := by omega
      subst e
      rw [foundK, List.getElem?_eq_none (by omega)]
  · cases h
end Go.Proofs.Ytfnikjihjjniiaa
