/-
  The law of what replacing turns.
-/
import Derived.Test.YtjlfkgffgnkflaaDh
namespace Go.Proofs.Ytjlfkgffgnkflaa
open Av Lz

theorem fnOk_lGa : FnOk Try.prog 6 Try.f6 := ⟨by rfl, by kernel_rfl, by
  show okCode _ _ = true ∧ drawsOk _ = true
  exact ⟨by kernel_rfl, by kernel_rfl⟩⟩
noncomputable def lGa_C (F : LzF) : Cx := ⟨tb, [], [(9, spFar), (10, spAwake), (11, spB F), (21, spR F), (13, spSameT)]⟩
theorem lGa_D {F : LzF} (h : F = stdF) : SpecsOk Try.prog (lGa_C F).specs := .cons lFar_ok (.cons awake_ok (.cons (spB_ok h) (.cons (spR_ok h) (.cons rSameT_ok .nil))))
abbrev lGa_T : List Ty := [.sl keyT, keyT]
abbrev lGa_FN := fnOk_lGa
def hpG (F : LzF) (ks : List keyT.El) (k : ByteArray) (d : Bool) : Hp := [.cells 39 [.str k, .bool d], .cells 27 [.lst keyT (F.bK ks), .lst intT (F.bL ks), .int .i64 (F.bW ks)], .cells 27 [.lst keyT (F.rK (F.bK ks) (F.bL ks) (F.bW ks) k d), .lst intT (F.rL (F.bK ks) (F.bL ks) (F.bW ks) k d), .int .i64 (F.rW (F.bK ks) (F.bL ks) (F.bW ks) k d)]]
set_option maxRecDepth 100000 in
set_option maxHeartbeats 8000000 in
theorem lGa : ∀ es : Ty.Els lGa_T, tyOks lGa_T es → WalkOk Try.prog Try.f6 (avTs lGa_T es) := by
  rintro ⟨ks, ⟨k, d, _⟩, _⟩ -
  obtain ⟨F, hstd⟩ : ∃ F, F = stdF := ⟨_, rfl⟩
  refine ⟨lGa_C F, callN (lGa_C F) 0, tbOk, lGa_D hstd, callN_ok mixed tbOk (lGa_D hstd) FnsOk.nil 0, ?_⟩
  show bodyA _ _ _ [.lst keyT ks, .agg [.str k, .bool d]] [] _
  cases hF : farL ks with
  | true =>
    conv => whnf
    repeat' first
      | (refine idx_kn (by assumption) ?_; conv => whnf)
      | (refine br_true (by first | with_reducible exact rfl | assumption | decide) ?_; conv => whnf)
      | (refine br_false (by first | with_reducible exact rfl | assumption | decide) ?_; conv => whnf)
      | ((with_reducible refine br_kt (by assumption) ?_); conv => whnf)
      | ((with_reducible refine br_kf (by assumption) ?_); conv => whnf)
      | ((with_reducible refine br_nt (by assumption) ?_); conv => whnf)
      | ((with_reducible refine br_nf (by assumption) ?_); conv => whnf)
      | ((with_reducible refine br_et (by assumption) ?_); conv => whnf)
      | ((with_reducible refine br_ef (by assumption) ?_); conv => whnf)
      | ((with_reducible refine br_dec (fun h => ?_) (fun h => ?_)) <;> first | (exfalso; omega) | conv => whnf)
      | ((with_reducible refine br_ndec (fun h => ?_) (fun h => ?_)) <;> first | (exfalso; omega) | conv => whnf)
      | ((with_reducible refine br_ne (fun h => ?_) (fun h => ?_)) <;> first | (exfalso; omega) | conv => whnf)
      | ((with_reducible refine br_eq (fun h => ?_) (fun h => ?_)) <;> first | (exfalso; omega) | conv => whnf)
      | (refine br_intro (fun h => ?_) (fun h => ?_) <;> conv => whnf)
      | (refine need_in (by first | exact trivial | assumption | exact ⟨rfl, Nat.le_refl _⟩ | exact ⟨rfl, rfl⟩ | (simp only [inR]; omega) | omega | (simp only [roomP, true_and, and_true, List.length_take, List.length_drop, List.length_append, List.length_cons, List.length_nil, List.length_set, List.length_replicate]; omega) | (refine ⟨by first | exact trivial | rfl, by first | exact Nat.le_refl _ | omega, ?_⟩; change roomP _ _ 1; simp only [roomP]; omega) | (change roomP _ _ 1; simp only [roomP]; omega) | (simp; omega) | (simp [inR]; omega) | (simp [inR]; done) | decide | (simp; done)) ?_; conv => whnf)
      | (refine idx_nat (by omega) (fun x hx => ?_); conv => whnf)
      | (refine frz_auto ?_; conv => whnf)
      | (refine draw_plain ?_; conv => whnf)
      | (refine idx_intro (by omega) (by omega) (fun x hx => ?_); conv => whnf)
      | (refine idx_intro (by first | omega | (simp; omega) | (simp; done)) (by first | omega | (simp; omega) | (simp; done)) (fun x hx => ?_); conv => whnf)
      | fail
  | false =>
    by_cases hk : 100 < k.size
    · conv => whnf
      repeat' first
        | (refine idx_kn (by assumption) ?_; conv => whnf)
        | (refine br_true (by first | with_reducible exact rfl | assumption | decide) ?_; conv => whnf)
        | (refine br_false (by first | with_reducible exact rfl | assumption | decide) ?_; conv => whnf)
        | ((with_reducible refine br_kt (by assumption) ?_); conv => whnf)
        | ((with_reducible refine br_kf (by assumption) ?_); conv => whnf)
        | ((with_reducible refine br_nt (by assumption) ?_); conv => whnf)
        | ((with_reducible refine br_nf (by assumption) ?_); conv => whnf)
        | ((with_reducible refine br_et (by assumption) ?_); conv => whnf)
        | ((with_reducible refine br_ef (by assumption) ?_); conv => whnf)
        | ((with_reducible refine br_dec (fun h => ?_) (fun h => ?_)) <;> first | (exfalso; omega) | conv => whnf)
        | ((with_reducible refine br_ndec (fun h => ?_) (fun h => ?_)) <;> first | (exfalso; omega) | conv => whnf)
        | ((with_reducible refine br_ne (fun h => ?_) (fun h => ?_)) <;> first | (exfalso; omega) | conv => whnf)
        | ((with_reducible refine br_eq (fun h => ?_) (fun h => ?_)) <;> first | (exfalso; omega) | conv => whnf)
        | (refine br_intro (fun h => ?_) (fun h => ?_) <;> conv => whnf)
        | (refine need_in (by first | exact trivial | assumption | exact ⟨rfl, Nat.le_refl _⟩ | exact ⟨rfl, rfl⟩ | (simp only [inR]; omega) | omega | (simp only [roomP, true_and, and_true, List.length_take, List.length_drop, List.length_append, List.length_cons, List.length_nil, List.length_set, List.length_replicate]; omega) | (refine ⟨by first | exact trivial | rfl, by first | exact Nat.le_refl _ | omega, ?_⟩; change roomP _ _ 1; simp only [roomP]; omega) | (change roomP _ _ 1; simp only [roomP]; omega) | (simp; omega) | (simp [inR]; omega) | (simp [inR]; done) | decide | (simp; done)) ?_; conv => whnf)
        | (refine idx_nat (by omega) (fun x hx => ?_); conv => whnf)
        | (refine frz_auto ?_; conv => whnf)
        | (refine draw_plain ?_; conv => whnf)
        | (refine idx_intro (by omega) (by omega) (fun x hx => ?_); conv => whnf)
        | (refine idx_intro (by first | omega | (simp; omega) | (simp; done)) (by first | omega | (simp; omega) | (simp; done)) (fun x hx => ?_); conv => whnf)
        | fail
    · by_cases hr : F.bE ks = 0
      · have hr0 : rightE ks = 0 := by rw [hstd] at hr; exact hr
        have e1 : F.bK ks = ks := by rw [hstd]; exact bK_ok hr0
        have e2 : F.bL ks = loseL ks := by rw [hstd]; exact bL_ok hr0
        have e3 : F.bW ks = winI ks := by rw [hstd]; exact bW_ok hr0
        obtain ⟨n1, n2, _⟩ := rightE_ok hr0
        by_cases hrep : F.rE (F.bK ks) (F.bL ks) (F.bW ks) k d = 0
        · obtain ⟨q, hf⟩ := repF (show repE (F.bK ks) (F.bL ks) (F.bW ks) (mkK k d) = 0 by rw [hstd] at hrep ⊢; exact hrep)
          have hK : F.rK (F.bK ks) (F.bL ks) (F.bW ks) k d = (F.bK ks).set q (mkK k d) := by have := hf.K; rw [hstd] at this ⊢; exact this
          have hL : F.rL (F.bK ks) (F.bL ks) (F.bW ks) k d = loseL ((F.bK ks).set q (mkK k d)) := by have := hf.L; rw [hstd] at this ⊢; exact this
          have hW : F.rW (F.bK ks) (F.bL ks) (F.bW ks) k d = winI ((F.bK ks).set q (mkK k d)) := by have := hf.W; rw [hstd] at this ⊢; exact this
          have hG : F.rG (F.bK ks) (F.bL ks) (F.bW ks) k d = ((gm ((F.bK ks).length + q) : Nat) : Int) := by have := hf.G; rw [hstd] at this ⊢; exact this
          have hq := hf.hq
          have hw := hf.hw
          have hright := hf.right
          rw [e1] at hK hL hW hG hq hright
          have hlK : (F.rK (F.bK ks) (F.bL ks) (F.bW ks) k d).length = ks.length := by rw [e1, hK, List.length_set]
          have hlL : (F.rL (F.bK ks) (F.bL ks) (F.bW ks) k d).length = ks.length := by rw [e1, hL, loseL_len, List.length_set]
          have hlb : (F.bK ks).length = ks.length := by rw [e1]
          have hll : (F.bL ks).length = ks.length := by rw [e2, loseL_len]
          have hw0 : F.bW ks = (q : Int) := hw
          have hg5 := gm_five n1 n2 hq
          have hG0 : 0 ≤ F.rG (F.bK ks) (F.bL ks) (F.bW ks) k d ∧ F.rG (F.bK ks) (F.bL ks) (F.bW ks) k d ≤ 5 := by rw [e1, hG]; omega
          have main : (F.rG (F.bK ks) (F.bL ks) (F.bW ks) k d ≤ 0 ∨ (0 ≤ F.rG (F.bK ks) (F.bL ks) (F.bW ks) k d - 1 ∧ F.rG (F.bK ks) (F.bL ks) (F.bW ks) k d - 1 < 64 ∧ inR .i64 (1 * 2 ^ (F.rG (F.bK ks) (F.bL ks) (F.bW ks) k d - 1).toNat)) ∧ 1 * 2 ^ (F.rG (F.bK ks) (F.bL ks) (F.bW ks) k d - 1).toNat < (ks.length : Int)) := by
            by_cases hg1 : 1 ≤ gm (ks.length + q)
            · right
              have hh := gm_half n1 hq hg1
              have e : (F.rG (F.bK ks) (F.bL ks) (F.bW ks) k d - 1).toNat = gm (ks.length + q) - 1 := by rw [e1, hG]; omega
              rw [e]
              have e' : ((1 : Int) * 2 ^ (gm (ks.length + q) - 1)) = ((2 ^ (gm (ks.length + q) - 1) : Nat) : Int) := by rw [Int.one_mul]; norm_cast
              rw [e']
              have hp : 0 < 2 ^ (gm (ks.length + q) - 1) := Nat.pow_pos (by decide)
              refine ⟨⟨?_, ?_, ?_⟩, by omega⟩
              · rw [e1, hG]; omega
              · rw [e1, hG]; omega
              · simp only [inR]; omega
            · left
              rw [e1, hG]; omega
          have fin : ∀ c : Nat, c = cdT (F.rL (F.bK ks) (F.bL ks) (F.bW ks) k d) (F.bL ks) ks.length → (c : Int) ≤ F.rG (F.bK ks) (F.bL ks) (F.bW ks) k d := by
            rintro c rfl
            have := lose_cd (ks := ks) (k := mkK k d) hq
            rw [e1, hG, hL, e2]
            omega
          have hsame0 : rightE (F.rK (F.bK ks) (F.bL ks) (F.bW ks) k d) = 0 := by rw [e1, hK]; exact hright
          have hsame1 : F.bE (F.rK (F.bK ks) (F.bL ks) (F.bW ks) k d) = 0 := by
            have e : F.bE = rightE := by rw [hstd]; rfl
            rw [e]
            exact hsame0
          have hsame2 : pb (F.rK (F.bK ks) (F.bL ks) (F.bW ks) k d = F.bK (F.rK (F.bK ks) (F.bL ks) (F.bW ks) k d) ∧ F.rL (F.bK ks) (F.bL ks) (F.bW ks) k d = F.bL (F.rK (F.bK ks) (F.bL ks) (F.bW ks) k d) ∧ F.rW (F.bK ks) (F.bL ks) (F.bW ks) k d = F.bW (F.rK (F.bK ks) (F.bL ks) (F.bW ks) k d)) = true := by
            have f1 : F.bK = bK := by rw [hstd]; rfl
            have f2 : F.bL = bL := by rw [hstd]; rfl
            have f3 : F.bW = bW := by rw [hstd]; rfl
            refine pb_t ⟨?_, ?_, ?_⟩
            · have := bK_ok hsame0
              rw [← f1] at this
              exact this.symm
            · have := bL_ok hsame0
              rw [← f2] at this
              rw [this, e1, hK, hL]
            · have := bW_ok hsame0
              rw [← f3] at this
              rw [this, e1, hK, hW]
          have hlen9 : (F.rK (F.bK ks) (F.bL ks) (F.bW ks) k d).length ≤ 4611686018427387904 ∧ (F.rL (F.bK ks) (F.bL ks) (F.bW ks) k d).length ≤ 4611686018427387904 := by omega
          rcases main with hg | ⟨hg, hg2⟩
          all_goals
            conv => whnf
            repeat' first
              | (refine idx_kn (by assumption) ?_; conv => whnf)
              | (refine br_true (by first | with_reducible exact rfl | assumption | decide) ?_; conv => whnf)
              | (refine br_false (by first | with_reducible exact rfl | assumption | decide) ?_; conv => whnf)
              | ((with_reducible refine br_kt (by assumption) ?_); conv => whnf)
              | ((with_reducible refine br_kf (by assumption) ?_); conv => whnf)
              | ((with_reducible refine br_nt (by assumption) ?_); conv => whnf)
              | ((with_reducible refine br_nf (by assumption) ?_); conv => whnf)
              | ((with_reducible refine br_et (by assumption) ?_); conv => whnf)
              | ((with_reducible refine br_ef (by assumption) ?_); conv => whnf)
              | ((with_reducible refine br_dec (fun h => ?_) (fun h => ?_)) <;> first | (exfalso; omega) | conv => whnf)
              | ((with_reducible refine br_ndec (fun h => ?_) (fun h => ?_)) <;> first | (exfalso; omega) | conv => whnf)
              | ((with_reducible refine br_ne (fun h => ?_) (fun h => ?_)) <;> first | (exfalso; omega) | conv => whnf)
              | ((with_reducible refine br_eq (fun h => ?_) (fun h => ?_)) <;> first | (exfalso; omega) | conv => whnf)
              | (refine br_intro (fun h => ?_) (fun h => ?_) <;> conv => whnf)
              | (refine need_in (by first | exact trivial | assumption | exact ⟨rfl, Nat.le_refl _⟩ | exact ⟨rfl, rfl⟩ | (simp only [inR]; omega) | omega | (simp only [roomP, true_and, and_true, List.length_take, List.length_drop, List.length_append, List.length_cons, List.length_nil, List.length_set, List.length_replicate]; omega) | (refine ⟨by first | exact trivial | rfl, by first | exact Nat.le_refl _ | omega, ?_⟩; change roomP _ _ 1; simp only [roomP]; omega) | (change roomP _ _ 1; simp only [roomP]; omega) | (simp; omega) | (simp [inR]; omega) | (simp [inR]; done) | decide | (simp; done)) ?_; conv => whnf)
              | (refine idx_nat (by omega) (fun x hx => ?_); conv => whnf)
              | (refine frz_auto ?_; conv => whnf)
              | (refine draw_plain ?_; conv => whnf)
              | (refine idx_intro (by omega) (by omega) (fun x hx => ?_); conv => whnf)
              | (refine idx_intro (by first | omega | (simp; omega) | (simp; done)) (by first | omega | (simp; omega) | (simp; done)) (fun x hx => ?_); conv => whnf)
              | fail
            refine loop_inv [] [10, 11] (fun vs h => ∃ i : Nat, vs = [.int .i64 ((cdT (F.rL (F.bK ks) (F.bL ks) (F.bW ks) k d) (F.bL ks) i : Nat) : Int), .int .i64 (i : Int)] ∧ h = hpG F ks k d ∧ i ≤ ks.length) (fun vs _ => match vs with | [_, .int _ j] => ks.length - j.toNat | _ => 0) ?_
            refine ⟨⟨0, rfl, rfl, Nat.zero_le _⟩, ?_⟩
            rintro vs h' - ⟨i, rfl, rfl, hi⟩
            unfold hpG
            have hcd := cdT_le (F.rL (F.bK ks) (F.bL ks) (F.bW ks) k d) (F.bL ks) i
            have hst := cdT_step (F.rL (F.bK ks) (F.bL ks) (F.bW ks) k d) (F.bL ks) i
            conv => whnf
            by_cases hil : i < ks.length
            · obtain ⟨x, hx⟩ : ∃ x, (F.rK (F.bK ks) (F.bL ks) (F.bW ks) k d)[i]? = some x := ⟨_, List.getElem?_eq_getElem (by omega)⟩
              obtain ⟨y, hy⟩ : ∃ y, (F.bK ks)[i]? = some y := ⟨_, List.getElem?_eq_getElem (by omega)⟩
              obtain ⟨a, ha⟩ : ∃ a, (F.rL (F.bK ks) (F.bL ks) (F.bW ks) k d)[i]? = some a := ⟨_, List.getElem?_eq_getElem (by omega)⟩
              obtain ⟨b, hb⟩ : ∃ b, (F.bL ks)[i]? = some b := ⟨_, List.getElem?_eq_getElem (by omega)⟩
              rw [ha, hb] at hst
              by_cases hiq : i = q
              · have hxk : x = mkK k d := by
                  rw [e1, hK, hiq, List.getElem?_set_self hq] at hx
                  exact (Option.some.inj hx).symm
                subst hxk
                repeat' first
                  | (refine idx_kn (by assumption) ?_; conv => whnf)
                  | (refine br_true (by first | with_reducible exact rfl | assumption | decide) ?_; conv => whnf)
                  | (refine br_false (by first | with_reducible exact rfl | assumption | decide) ?_; conv => whnf)
                  | ((with_reducible refine br_kt (by assumption) ?_); conv => whnf)
                  | ((with_reducible refine br_kf (by assumption) ?_); conv => whnf)
                  | ((with_reducible refine br_nt (by assumption) ?_); conv => whnf)
                  | ((with_reducible refine br_nf (by assumption) ?_); conv => whnf)
                  | ((with_reducible refine br_et (by assumption) ?_); conv => whnf)
                  | ((with_reducible refine br_ef (by assumption) ?_); conv => whnf)
                  | ((with_reducible refine br_dec (fun h => ?_) (fun h => ?_)) <;> first | (exfalso; omega) | conv => whnf)
                  | ((with_reducible refine br_ndec (fun h => ?_) (fun h => ?_)) <;> first | (exfalso; omega) | conv => whnf)
                  | ((with_reducible refine br_ne (fun h => ?_) (fun h => ?_)) <;> first | (exfalso; omega) | conv => whnf)
                  | ((with_reducible refine br_eq (fun h => ?_) (fun h => ?_)) <;> first | (exfalso; omega) | conv => whnf)
                  | (refine br_intro (fun h => ?_) (fun h => ?_) <;> conv => whnf)
                  | (refine need_in (by first | exact trivial | assumption | exact ⟨rfl, Nat.le_refl _⟩ | exact ⟨rfl, rfl⟩ | (simp only [inR]; omega) | omega | (simp only [roomP, true_and, and_true, List.length_take, List.length_drop, List.length_append, List.length_cons, List.length_nil, List.length_set, List.length_replicate]; omega) | (refine ⟨by first | exact trivial | rfl, by first | exact Nat.le_refl _ | omega, ?_⟩; change roomP _ _ 1; simp only [roomP]; omega) | (change roomP _ _ 1; simp only [roomP]; omega) | (simp; omega) | (simp [inR]; omega) | (simp [inR]; done) | decide | (simp; done)) ?_; conv => whnf)
                  | (refine idx_nat (by omega) (fun x hx => ?_); conv => whnf)
                  | (refine frz_auto ?_; conv => whnf)
                  | (refine draw_plain ?_; conv => whnf)
                  | (refine idx_intro (by omega) (by omega) (fun x hx => ?_); conv => whnf)
                  | (refine idx_intro (by first | omega | (simp; omega) | (simp; done)) (by first | omega | (simp; omega) | (simp; done)) (fun x hx => ?_); conv => whnf)
                  | fail
                · exact absurd rfl (eqK_ne (by simpa using h))
                · rw [if_neg (fun e => h (Option.some.inj e))] at hst
                  refine back_intro (by conv => whnf) rfl ⟨i + 1, ?_, rfl, by omega⟩ ?_
                  · rw [hst]; rfl
                  · show ks.length - ((i : Int) + 1).toNat < ks.length - (i : Int).toNat
                    omega
                · rw [if_pos (congrArg some h)] at hst
                  refine back_intro (by conv => whnf) rfl ⟨i + 1, ?_, rfl, by omega⟩ ?_
                  · rw [hst]; rfl
                  · show ks.length - ((i : Int) + 1).toNat < ks.length - (i : Int).toNat
                    omega
              · have hxy : x = y := by
                  rw [e1, hK, List.getElem?_set_ne (fun e => hiq e.symm)] at hx
                  rw [e1, hx] at hy
                  exact Option.some.inj hy
                subst hxy
                repeat' first
                  | (refine idx_kn (by assumption) ?_; conv => whnf)
                  | (refine br_true (by first | with_reducible exact rfl | assumption | decide) ?_; conv => whnf)
                  | (refine br_false (by first | with_reducible exact rfl | assumption | decide) ?_; conv => whnf)
                  | ((with_reducible refine br_kt (by assumption) ?_); conv => whnf)
                  | ((with_reducible refine br_kf (by assumption) ?_); conv => whnf)
                  | ((with_reducible refine br_nt (by assumption) ?_); conv => whnf)
                  | ((with_reducible refine br_nf (by assumption) ?_); conv => whnf)
                  | ((with_reducible refine br_et (by assumption) ?_); conv => whnf)
                  | ((with_reducible refine br_ef (by assumption) ?_); conv => whnf)
                  | ((with_reducible refine br_dec (fun h => ?_) (fun h => ?_)) <;> first | (exfalso; omega) | conv => whnf)
                  | ((with_reducible refine br_ndec (fun h => ?_) (fun h => ?_)) <;> first | (exfalso; omega) | conv => whnf)
                  | ((with_reducible refine br_ne (fun h => ?_) (fun h => ?_)) <;> first | (exfalso; omega) | conv => whnf)
                  | ((with_reducible refine br_eq (fun h => ?_) (fun h => ?_)) <;> first | (exfalso; omega) | conv => whnf)
                  | (refine br_intro (fun h => ?_) (fun h => ?_) <;> conv => whnf)
                  | (refine need_in (by first | exact trivial | assumption | exact ⟨rfl, Nat.le_refl _⟩ | exact ⟨rfl, rfl⟩ | (simp only [inR]; omega) | omega | (simp only [roomP, true_and, and_true, List.length_take, List.length_drop, List.length_append, List.length_cons, List.length_nil, List.length_set, List.length_replicate]; omega) | (refine ⟨by first | exact trivial | rfl, by first | exact Nat.le_refl _ | omega, ?_⟩; change roomP _ _ 1; simp only [roomP]; omega) | (change roomP _ _ 1; simp only [roomP]; omega) | (simp; omega) | (simp [inR]; omega) | (simp [inR]; done) | decide | (simp; done)) ?_; conv => whnf)
                  | (refine idx_nat (by omega) (fun x hx => ?_); conv => whnf)
                  | (refine frz_auto ?_; conv => whnf)
                  | (refine draw_plain ?_; conv => whnf)
                  | (refine idx_intro (by omega) (by omega) (fun x hx => ?_); conv => whnf)
                  | (refine idx_intro (by first | omega | (simp; omega) | (simp; done)) (by first | omega | (simp; omega) | (simp; done)) (fun x hx => ?_); conv => whnf)
                  | fail
                · exact absurd rfl (eqK_ne (by simpa using h))
                · rw [if_neg (fun e => h (Option.some.inj e))] at hst
                  refine back_intro (by conv => whnf) rfl ⟨i + 1, ?_, rfl, by omega⟩ ?_
                  · rw [hst]; rfl
                  · show ks.length - ((i : Int) + 1).toNat < ks.length - (i : Int).toNat
                    omega
                · rw [if_pos (congrArg some h)] at hst
                  refine back_intro (by conv => whnf) rfl ⟨i + 1, ?_, rfl, by omega⟩ ?_
                  · rw [hst]; rfl
                  · show ks.length - ((i : Int) + 1).toNat < ks.length - (i : Int).toNat
                    omega
            · have hie : i = ks.length := by omega
              subst hie
              have hfin := fin _ rfl
              repeat' first
                | (refine idx_kn (by assumption) ?_; conv => whnf)
                | (refine br_true (by first | with_reducible exact rfl | assumption | decide) ?_; conv => whnf)
                | (refine br_false (by first | with_reducible exact rfl | assumption | decide) ?_; conv => whnf)
                | ((with_reducible refine br_kt (by assumption) ?_); conv => whnf)
                | ((with_reducible refine br_kf (by assumption) ?_); conv => whnf)
                | ((with_reducible refine br_nt (by assumption) ?_); conv => whnf)
                | ((with_reducible refine br_nf (by assumption) ?_); conv => whnf)
                | ((with_reducible refine br_et (by assumption) ?_); conv => whnf)
                | ((with_reducible refine br_ef (by assumption) ?_); conv => whnf)
                | ((with_reducible refine br_dec (fun h => ?_) (fun h => ?_)) <;> first | (exfalso; omega) | conv => whnf)
                | ((with_reducible refine br_ndec (fun h => ?_) (fun h => ?_)) <;> first | (exfalso; omega) | conv => whnf)
                | ((with_reducible refine br_ne (fun h => ?_) (fun h => ?_)) <;> first | (exfalso; omega) | conv => whnf)
                | ((with_reducible refine br_eq (fun h => ?_) (fun h => ?_)) <;> first | (exfalso; omega) | conv => whnf)
                | (refine br_intro (fun h => ?_) (fun h => ?_) <;> conv => whnf)
                | (refine need_in (by first | exact trivial | assumption | exact ⟨rfl, Nat.le_refl _⟩ | exact ⟨rfl, rfl⟩ | (simp only [inR]; omega) | omega | (simp only [roomP, true_and, and_true, List.length_take, List.length_drop, List.length_append, List.length_cons, List.length_nil, List.length_set, List.length_replicate]; omega) | (refine ⟨by first | exact trivial | rfl, by first | exact Nat.le_refl _ | omega, ?_⟩; change roomP _ _ 1; simp only [roomP]; omega) | (change roomP _ _ 1; simp only [roomP]; omega) | (simp; omega) | (simp [inR]; omega) | (simp [inR]; done) | decide | (simp; done)) ?_; conv => whnf)
                | (refine idx_nat (by omega) (fun x hx => ?_); conv => whnf)
                | (refine frz_auto ?_; conv => whnf)
                | (refine draw_plain ?_; conv => whnf)
                | (refine idx_intro (by omega) (by omega) (fun x hx => ?_); conv => whnf)
                | (refine idx_intro (by first | omega | (simp; omega) | (simp; done)) (by first | omega | (simp; omega) | (simp; done)) (fun x hx => ?_); conv => whnf)
                | fail
        · have hb1 : F.rK (F.bK ks) (F.bL ks) (F.bW ks) k d = [] := by rw [hstd] at hrep ⊢; exact (rep_bad hrep).1
          have hb2 : F.rG (F.bK ks) (F.bL ks) (F.bW ks) k d = 0 := by rw [hstd] at hrep ⊢; exact (rep_bad hrep).2
          conv => whnf
          repeat' first
            | (refine idx_kn (by assumption) ?_; conv => whnf)
            | (refine br_true (by first | with_reducible exact rfl | assumption | decide) ?_; conv => whnf)
            | (refine br_false (by first | with_reducible exact rfl | assumption | decide) ?_; conv => whnf)
            | ((with_reducible refine br_kt (by assumption) ?_); conv => whnf)
            | ((with_reducible refine br_kf (by assumption) ?_); conv => whnf)
            | ((with_reducible refine br_nt (by assumption) ?_); conv => whnf)
            | ((with_reducible refine br_nf (by assumption) ?_); conv => whnf)
            | ((with_reducible refine br_et (by assumption) ?_); conv => whnf)
            | ((with_reducible refine br_ef (by assumption) ?_); conv => whnf)
            | ((with_reducible refine br_dec (fun h => ?_) (fun h => ?_)) <;> first | (exfalso; omega) | conv => whnf)
            | ((with_reducible refine br_ndec (fun h => ?_) (fun h => ?_)) <;> first | (exfalso; omega) | conv => whnf)
            | ((with_reducible refine br_ne (fun h => ?_) (fun h => ?_)) <;> first | (exfalso; omega) | conv => whnf)
            | ((with_reducible refine br_eq (fun h => ?_) (fun h => ?_)) <;> first | (exfalso; omega) | conv => whnf)
            | (refine br_intro (fun h => ?_) (fun h => ?_) <;> conv => whnf)
            | (refine need_in (by first | exact trivial | assumption | exact ⟨rfl, Nat.le_refl _⟩ | exact ⟨rfl, rfl⟩ | (simp only [inR]; omega) | omega | (simp only [roomP, true_and, and_true, List.length_take, List.length_drop, List.length_append, List.length_cons, List.length_nil, List.length_set, List.length_replicate]; omega) | (refine ⟨by first | exact trivial | rfl, by first | exact Nat.le_refl _ | omega, ?_⟩; change roomP _ _ 1; simp only [roomP]; omega) | (change roomP _ _ 1; simp only [roomP]; omega) | (simp; omega) | (simp [inR]; omega) | (simp [inR]; done) | decide | (simp; done)) ?_; conv => whnf)
            | (refine idx_nat (by omega) (fun x hx => ?_); conv => whnf)
            | (refine frz_auto ?_; conv => whnf)
            | (refine draw_plain ?_; conv => whnf)
            | (refine idx_intro (by omega) (by omega) (fun x hx => ?_); conv => whnf)
            | (refine idx_intro (by first | omega | (simp; omega) | (simp; done)) (by first | omega | (simp; omega) | (simp; done)) (fun x hx => ?_); conv => whnf)
            | fail
          rw [hb1] at h
          exact absurd rfl h
      · conv => whnf
        repeat' first
          | (refine idx_kn (by assumption) ?_; conv => whnf)
          | (refine br_true (by first | with_reducible exact rfl | assumption | decide) ?_; conv => whnf)
          | (refine br_false (by first | with_reducible exact rfl | assumption | decide) ?_; conv => whnf)
          | ((with_reducible refine br_kt (by assumption) ?_); conv => whnf)
          | ((with_reducible refine br_kf (by assumption) ?_); conv => whnf)
          | ((with_reducible refine br_nt (by assumption) ?_); conv => whnf)
          | ((with_reducible refine br_nf (by assumption) ?_); conv => whnf)
          | ((with_reducible refine br_et (by assumption) ?_); conv => whnf)
          | ((with_reducible refine br_ef (by assumption) ?_); conv => whnf)
          | ((with_reducible refine br_dec (fun h => ?_) (fun h => ?_)) <;> first | (exfalso; omega) | conv => whnf)
          | ((with_reducible refine br_ndec (fun h => ?_) (fun h => ?_)) <;> first | (exfalso; omega) | conv => whnf)
          | ((with_reducible refine br_ne (fun h => ?_) (fun h => ?_)) <;> first | (exfalso; omega) | conv => whnf)
          | ((with_reducible refine br_eq (fun h => ?_) (fun h => ?_)) <;> first | (exfalso; omega) | conv => whnf)
          | (refine br_intro (fun h => ?_) (fun h => ?_) <;> conv => whnf)
          | (refine need_in (by first | exact trivial | assumption | exact ⟨rfl, Nat.le_refl _⟩ | exact ⟨rfl, rfl⟩ | (simp only [inR]; omega) | omega | (simp only [roomP, true_and, and_true, List.length_take, List.length_drop, List.length_append, List.length_cons, List.length_nil, List.length_set, List.length_replicate]; omega) | (refine ⟨by first | exact trivial | rfl, by first | exact Nat.le_refl _ | omega, ?_⟩; change roomP _ _ 1; simp only [roomP]; omega) | (change roomP _ _ 1; simp only [roomP]; omega) | (simp; omega) | (simp [inR]; omega) | (simp [inR]; done) | decide | (simp; done)) ?_; conv => whnf)
          | (refine idx_nat (by omega) (fun x hx => ?_); conv => whnf)
          | (refine frz_auto ?_; conv => whnf)
          | (refine draw_plain ?_; conv => whnf)
          | (refine idx_intro (by omega) (by omega) (fun x hx => ?_); conv => whnf)
          | (refine idx_intro (by first | omega | (simp; omega) | (simp; done)) (by first | omega | (simp; omega) | (simp; done)) (fun x hx => ?_); conv => whnf)
          | fail
end Go.Proofs.Ytjlfkgffgnkflaa
