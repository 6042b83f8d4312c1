/-
  One entry put over a list, by the reference: the walk.
-/
import Derived.Test.YtekkeajcmibbaaaPc
namespace Go.Proofs.Ytekkeajcmibbaaa
open Av Bk

theorem ordL_pos {a b : ByteArray} : 0 < ordL a.data.toList b.data.toList ↔ sLt b a = true := by
  cases h : sLt a b with
  | true =>
    have h1 := ordL_slt.2 h
    rw [sLt_asym h]
    constructor
    · intro h2; omega
    · intro h2; cases h2
  | false =>
    have h1 := ordL_sle.2 h
    by_cases he : a = b
    · subst he
      rw [sLt_irrefl]
      unfold ordL
      rw [if_pos rfl]
      simp
    · have h2 : sLt b a = true := sLt_of h he
      constructor
      · intro _; exact h2
      · intro _
        have h3 : ordL a.data.toList b.data.toList ≠ 0 := by
          unfold ordL
          rw [if_neg (fun e => he (ByteArray.ext (Array.toList_inj.1 e)))]
          split <;> decide
        omega
theorem two_eq {t : Ty} {A B : List t.El} {c : AV} (h : A = B) : [AV.lst t A, c] = [AV.lst t B, c] := by rw [h]
theorem app_fin {out : List entT.El} {x : entT.El} {j : Nat} : List.take (min j out.length + min 1 [x].length + (out.length - j)) (List.take j out ++ (List.take 1 [x] ++ List.drop j out)) = List.take j out ++ x :: List.drop j out := by
  rw [List.take_of_length_le]
  · rfl
  · simp only [List.length_append, List.length_take, List.length_drop, List.length_cons, List.length_nil]; omega
theorem ov_mem {l : List entT.El} {x z : entT.El} (h : z ∈ ovL l x) : z = x ∨ z ∈ l := by
  unfold ovL at h
  rcases List.mem_append.1 h with h | h
  · exact .inr (List.mem_filter.1 h).1
  · rcases List.mem_cons.1 h with h | h
    · exact .inl h
    · exact .inr (List.mem_filter.1 h).1
theorem ov_err {l : List entT.El} {i : Nat} {x z : entT.El} (h : ∀ y ∈ l, errX y = 0) (hx : errX x = 0) (hz : z ∈ ovL (l.take i) x) : errX z = 0 := by
  rcases ov_mem hz with rfl | hz
  · exact hx
  · exact h z (List.mem_of_mem_take hz)
def spOver : DSpec
  | [.lst (.st [.str, .str, .bool, .int .i64]) l, .lst (.st [.str, .str, .bool, .int .i64]) [x]] => some ((clL l).2 = 0 ∧ errX x = 0 ∧ l.length ≤ 1000, .tup [.lst entT (ovL l x), .int .i64 0])
  | _ => none
set_option maxRecDepth 100000 in
theorem fnOk_rfOver : FnOk Try.prog 33 Try.f33 := ⟨by rfl, by kernel_rfl, by
  show okCode _ _ = true ∧ drawsOk _ = true
  exact ⟨by kernel_rfl, by kernel_rfl⟩⟩
noncomputable def cxx1 : Cx := ⟨tb, [], [(63, spCL), (65, spAt), (60, spOrder)]⟩
theorem sxx1 : SpecsOk Try.prog cxx1.specs := .cons refCL_ok (.cons rfAt_ok (.cons refOrder_ok .nil))
set_option maxRecDepth 100000 in
set_option maxHeartbeats 4000000 in
theorem rfOver_ok : SpecOk Try.prog 33 spOver := by
  refine spec_body (C := cxx1) mixed tbOk sxx1 (callN_ok (C := cxx1) mixed tbOk sxx1 FnsOk.nil 3) fnOk_rfOver ?_
  intro ys p r h hp
  unfold spOver at h
  split at h
  · rename_i l x
    cases h
    obtain ⟨hcl, hex, hlen⟩ := hp
    have hx1 : (clL [x]).2 = 0 := by
      unfold clL
      rw [if_neg (show ¬ 5000 < [x].length by show ¬ 5000 < 1; decide), clGo, if_neg (by rw [hex]; decide), if_neg (show ¬ falls none x = true from fun e => by cases e)]
      rfl
    obtain ⟨_, herr, hasc⟩ := clL_zero hcl
    conv => whnf
    repeat' first
      | ((first | refine idx_kn (by assumption) ?_ | refine idx_ki (by assumption) (by omega) ?_ | refine br_true (by first | with_reducible exact rfl | assumption | decide) ?_ | refine br_false (by first | with_reducible exact rfl | assumption | decide) ?_ | with_reducible first | refine br_kt (by assumption) ?_ | refine br_kf (by assumption) ?_ | refine br_nt (by assumption) ?_ | refine br_nf (by assumption) ?_ | refine br_et (by assumption) ?_ | refine br_ef (by assumption) ?_); conv => whnf)
      | ((with_reducible first | refine br_dec (fun h => ?_) (fun h => ?_) | refine br_ndec (fun h => ?_) (fun h => ?_) | refine br_ne (fun h => ?_) (fun h => ?_) | refine br_eq (fun h => ?_) (fun h => ?_)) <;> first | (exfalso; omega) | conv => whnf)
      | (refine br_intro (fun h => ?_) (fun h => ?_) <;> conv => whnf)
      | ((first | refine need_in (by first | exact trivial | assumption | exact ⟨rfl, Nat.le_refl _⟩ | exact ⟨rfl, rfl⟩ | (simp only [inR]; omega) | omega | (simp only [roomP, true_and, and_true, List.length_take, List.length_drop, List.length_append, List.length_cons, List.length_nil, List.length_set, List.length_replicate]; omega) | (refine ⟨by first | exact trivial | rfl, by first | exact Nat.le_refl _ | omega | (simp; omega), ?_⟩; change roomP _ _ 1; simp only [roomP]; omega) | (change roomP _ _ 1; simp only [roomP]; omega) | (simp; omega) | (simp [inR]; omega) | (simp [inR]; done) | decide | (simp; done)) ?_ | refine idx_nat (by omega) (fun x hx => ?_) | refine frz_auto ?_ | refine draw_plain ?_ | refine idx_intro (by first | omega | (simp; omega) | (simp; done)) (by first | omega | (simp; omega) | (simp; done)) (fun x hx => ?_)); conv => whnf)
    refine loop_inv [.lst 8 entT] [8, 9] (fun vs h => ∃ i : Nat, vs = [.lst entT (ovL (l.take i) x), .int .i64 (i : Int)] ∧ h = [.arr 29 entT [] false 0, .dead] ∧ i ≤ l.length) (fun vs _ => match vs with | [_, .int _ k] => l.length - k.toNat | _ => 0) ?_
    conv => whnf
    refine need_in ⟨rfl, Nat.le_refl _⟩ ?_
    conv => whnf
    refine ⟨⟨0, rfl, rfl, Nat.zero_le _⟩, ?_⟩
    rintro vs h' - ⟨i, rfl, rfl, hi⟩
    have hol := ov_len (l.take i) x
    have htk : (l.take i).length = i := by rw [List.length_take]; omega
    rw [htk] at hol
    by_cases hil : i < l.length
    · obtain ⟨y, hy⟩ : ∃ y, l[i]? = some y := ⟨_, List.getElem?_eq_getElem hil⟩
      by_cases he : sEq x.1 y.1 = true
      · have hat : atR y.1 0 [x] = 0 := by rw [atR, if_pos he]
        conv => whnf
        repeat' first
          | ((first | refine idx_kn (by assumption) ?_ | refine idx_ki (by assumption) (by omega) ?_ | refine br_true (by first | with_reducible exact rfl | assumption | decide) ?_ | refine br_false (by first | with_reducible exact rfl | assumption | decide) ?_ | with_reducible first | refine br_kt (by assumption) ?_ | refine br_kf (by assumption) ?_ | refine br_nt (by assumption) ?_ | refine br_nf (by assumption) ?_ | refine br_et (by assumption) ?_ | refine br_ef (by assumption) ?_); conv => whnf)
          | ((with_reducible first | refine br_dec (fun h => ?_) (fun h => ?_) | refine br_ndec (fun h => ?_) (fun h => ?_) | refine br_ne (fun h => ?_) (fun h => ?_) | refine br_eq (fun h => ?_) (fun h => ?_)) <;> first | (exfalso; omega) | conv => whnf)
          | (refine br_intro (fun h => ?_) (fun h => ?_) <;> conv => whnf)
          | ((first | refine need_in (by first | exact trivial | assumption | exact ⟨rfl, Nat.le_refl _⟩ | exact ⟨rfl, rfl⟩ | (simp only [inR]; omega) | omega | (simp only [roomP, true_and, and_true, List.length_take, List.length_drop, List.length_append, List.length_cons, List.length_nil, List.length_set, List.length_replicate]; omega) | (refine ⟨by first | exact trivial | rfl, by first | exact Nat.le_refl _ | omega | (simp; omega), ?_⟩; change roomP _ _ 1; simp only [roomP]; omega) | (change roomP _ _ 1; simp only [roomP]; omega) | (simp; omega) | (simp [inR]; omega) | (simp [inR]; done) | decide | (simp; done)) ?_ | refine idx_nat (by omega) (fun x hx => ?_) | refine frz_auto ?_ | refine draw_plain ?_ | refine idx_intro (by first | omega | (simp; omega) | (simp; done)) (by first | omega | (simp; omega) | (simp; done)) (fun x hx => ?_)); conv => whnf)
        refine back_intro (by conv => whnf) rfl ⟨i + 1, two_eq (ov_same hy (sEq_iff.1 he)).symm, rfl, by omega⟩ ?_
        show l.length - ((i : Int) + 1).toNat < l.length - (i : Int).toNat
        omega
      · have hat : atR y.1 0 [x] = -1 := by rw [atR, if_neg he]; rfl
        have hne : x.1 ≠ y.1 := fun e => he (sEq_iff.2 e)
        conv => whnf
        repeat' first
          | ((first | refine idx_kn (by assumption) ?_ | refine idx_ki (by assumption) (by omega) ?_ | refine br_true (by first | with_reducible exact rfl | assumption | decide) ?_ | refine br_false (by first | with_reducible exact rfl | assumption | decide) ?_ | with_reducible first | refine br_kt (by assumption) ?_ | refine br_kf (by assumption) ?_ | refine br_nt (by assumption) ?_ | refine br_nf (by assumption) ?_ | refine br_et (by assumption) ?_ | refine br_ef (by assumption) ?_); conv => whnf)
          | ((with_reducible first | refine br_dec (fun h => ?_) (fun h => ?_) | refine br_ndec (fun h => ?_) (fun h => ?_) | refine br_ne (fun h => ?_) (fun h => ?_) | refine br_eq (fun h => ?_) (fun h => ?_)) <;> first | (exfalso; omega) | conv => whnf)
          | (refine br_intro (fun h => ?_) (fun h => ?_) <;> conv => whnf)
          | ((first | refine need_in (by first | exact trivial | assumption | exact ⟨rfl, Nat.le_refl _⟩ | exact ⟨rfl, rfl⟩ | (simp only [inR]; omega) | omega | (simp only [roomP, true_and, and_true, List.length_take, List.length_drop, List.length_append, List.length_cons, List.length_nil, List.length_set, List.length_replicate]; omega) | (refine ⟨by first | exact trivial | rfl, by first | exact Nat.le_refl _ | omega | (simp; omega), ?_⟩; change roomP _ _ 1; simp only [roomP]; omega) | (change roomP _ _ 1; simp only [roomP]; omega) | (simp; omega) | (simp [inR]; omega) | (simp [inR]; done) | decide | (simp; done)) ?_ | refine idx_nat (by omega) (fun x hx => ?_) | refine frz_auto ?_ | refine draw_plain ?_ | refine idx_intro (by first | omega | (simp; omega) | (simp; done)) (by first | omega | (simp; omega) | (simp; done)) (fun x hx => ?_)); conv => whnf)
        refine loop_inv [] [10] (fun vs h => ∃ j : Nat, vs = [.int .i64 (j : Int)] ∧ h = [.arr 29 entT [] false 0, .dead] ∧ j ≤ (ovL (l.take i) x).length ∧ ∀ z ∈ (ovL (l.take i) x).drop j, sLt y.1 z.1 = true) (fun vs _ => match vs with | [.int _ k] => k.toNat | _ => 0) ?_
        conv => whnf
        refine ⟨⟨(ovL (l.take i) x).length, rfl, rfl, Nat.le_refl _, by simp⟩, ?_⟩
        rintro vs h' - ⟨j, rfl, rfl, hj, hd⟩
        by_cases hj0 : 0 < j
        · obtain ⟨z, hz⟩ : ∃ z, (ovL (l.take i) x)[((j : Int) - 1).toNat]? = some z := ⟨_, List.getElem?_eq_getElem (by omega)⟩
          have hzm : errX z = 0 := ov_err herr hex (List.mem_of_getElem? hz)
          have hzs := errX_key hzm
          have hz' : (ovL (l.take i) x)[j - 1]? = some z := by rw [← hz]; congr 1; omega
          by_cases hyz : sLt y.1 z.1 = true
          · have ho := ordL_pos.2 hyz
            conv => whnf
            repeat' first
              | ((first | refine idx_kn (by assumption) ?_ | refine idx_ki (by assumption) (by omega) ?_ | refine br_true (by first | with_reducible exact rfl | assumption | decide) ?_ | refine br_false (by first | with_reducible exact rfl | assumption | decide) ?_ | with_reducible first | refine br_kt (by assumption) ?_ | refine br_kf (by assumption) ?_ | refine br_nt (by assumption) ?_ | refine br_nf (by assumption) ?_ | refine br_et (by assumption) ?_ | refine br_ef (by assumption) ?_); conv => whnf)
              | ((with_reducible first | refine br_dec (fun h => ?_) (fun h => ?_) | refine br_ndec (fun h => ?_) (fun h => ?_) | refine br_ne (fun h => ?_) (fun h => ?_) | refine br_eq (fun h => ?_) (fun h => ?_)) <;> first | (exfalso; omega) | conv => whnf)
              | (refine br_intro (fun h => ?_) (fun h => ?_) <;> conv => whnf)
              | ((first | refine need_in (by first | exact trivial | assumption | exact ⟨rfl, Nat.le_refl _⟩ | exact ⟨rfl, rfl⟩ | (simp only [inR]; omega) | omega | (simp only [roomP, true_and, and_true, List.length_take, List.length_drop, List.length_append, List.length_cons, List.length_nil, List.length_set, List.length_replicate]; omega) | (refine ⟨by first | exact trivial | rfl, by first | exact Nat.le_refl _ | omega | (simp; omega), ?_⟩; change roomP _ _ 1; simp only [roomP]; omega) | (change roomP _ _ 1; simp only [roomP]; omega) | (simp; omega) | (simp [inR]; omega) | (simp [inR]; done) | decide | (simp; done)) ?_ | refine idx_nat (by omega) (fun x hx => ?_) | refine frz_auto ?_ | refine draw_plain ?_ | refine idx_intro (by first | omega | (simp; omega) | (simp; done)) (by first | omega | (simp; omega) | (simp; done)) (fun x hx => ?_)); conv => whnf)
            refine back_intro (by conv => whnf) rfl ⟨j - 1, congrArg (fun z : Int => [AV.int .i64 z]) (by omega), rfl, by omega, ?_⟩ ?_
            · rw [List.drop_eq_getElem_cons (by omega)]
              intro w hw
              rcases List.mem_cons.1 hw with rfl | hw
              · rw [(List.getElem?_eq_some_iff.1 hz').2]; exact hyz
              · exact hd w (by rw [show j - 1 + 1 = j by omega] at hw; exact hw)
            · show ((j : Int) - 1).toNat < (j : Int).toNat
              omega
          · have ho : ¬ 0 < ordL z.1.data.toList y.1.data.toList := fun e => hyz (ordL_pos.1 e)
            conv => whnf
            repeat' first
              | ((first | refine idx_kn (by assumption) ?_ | refine idx_ki (by assumption) (by omega) ?_ | refine br_true (by first | with_reducible exact rfl | assumption | decide) ?_ | refine br_false (by first | with_reducible exact rfl | assumption | decide) ?_ | with_reducible first | refine br_kt (by assumption) ?_ | refine br_kf (by assumption) ?_ | refine br_nt (by assumption) ?_ | refine br_nf (by assumption) ?_ | refine br_et (by assumption) ?_ | refine br_ef (by assumption) ?_); conv => whnf)
              | ((with_reducible first | refine br_dec (fun h => ?_) (fun h => ?_) | refine br_ndec (fun h => ?_) (fun h => ?_) | refine br_ne (fun h => ?_) (fun h => ?_) | refine br_eq (fun h => ?_) (fun h => ?_)) <;> first | (exfalso; omega) | conv => whnf)
              | (refine br_intro (fun h => ?_) (fun h => ?_) <;> conv => whnf)
              | ((first | refine need_in (by first | exact trivial | assumption | exact ⟨rfl, Nat.le_refl _⟩ | exact ⟨rfl, rfl⟩ | (simp only [inR]; omega) | omega | (simp only [roomP, true_and, and_true, List.length_take, List.length_drop, List.length_append, List.length_cons, List.length_nil, List.length_set, List.length_replicate]; omega) | (refine ⟨by first | exact trivial | rfl, by first | exact Nat.le_refl _ | omega | (simp; omega), ?_⟩; change roomP _ _ 1; simp only [roomP]; omega) | (change roomP _ _ 1; simp only [roomP]; omega) | (simp; omega) | (simp [inR]; omega) | (simp [inR]; done) | decide | (simp; done)) ?_ | refine idx_nat (by omega) (fun x hx => ?_) | refine frz_auto ?_ | refine draw_plain ?_ | refine idx_intro (by first | omega | (simp; omega) | (simp; done)) (by first | omega | (simp; omega) | (simp; done)) (fun x hx => ?_)); conv => whnf)
            refine back_intro (by conv => whnf) rfl ⟨i + 1, ?_, rfl, by omega⟩ ?_
            · refine two_eq (Eq.trans ?_ (ov_ins hasc hy hne hj hd (.inr ⟨z, hz', by simpa using hyz⟩)))
              simp [cast_self, List.take_of_length_le]
              exact app_fin
            · show l.length - ((i : Int) + 1).toNat < l.length - (i : Int).toNat
              omega
        · conv => whnf
          repeat' first
            | ((first | refine idx_kn (by assumption) ?_ | refine idx_ki (by assumption) (by omega) ?_ | refine br_true (by first | with_reducible exact rfl | assumption | decide) ?_ | refine br_false (by first | with_reducible exact rfl | assumption | decide) ?_ | with_reducible first | refine br_kt (by assumption) ?_ | refine br_kf (by assumption) ?_ | refine br_nt (by assumption) ?_ | refine br_nf (by assumption) ?_ | refine br_et (by assumption) ?_ | refine br_ef (by assumption) ?_); conv => whnf)
            | ((with_reducible first | refine br_dec (fun h => ?_) (fun h => ?_) | refine br_ndec (fun h => ?_) (fun h => ?_) | refine br_ne (fun h => ?_) (fun h => ?_) | refine br_eq (fun h => ?_) (fun h => ?_)) <;> first | (exfalso; omega) | conv => whnf)
            | (refine br_intro (fun h => ?_) (fun h => ?_) <;> conv => whnf)
            | ((first | refine need_in (by first | exact trivial | assumption | exact ⟨rfl, Nat.le_refl _⟩ | exact ⟨rfl, rfl⟩ | (simp only [inR]; omega) | omega | (simp only [roomP, true_and, and_true, List.length_take, List.length_drop, List.length_append, List.length_cons, List.length_nil, List.length_set, List.length_replicate]; omega) | (refine ⟨by first | exact trivial | rfl, by first | exact Nat.le_refl _ | omega | (simp; omega), ?_⟩; change roomP _ _ 1; simp only [roomP]; omega) | (change roomP _ _ 1; simp only [roomP]; omega) | (simp; omega) | (simp [inR]; omega) | (simp [inR]; done) | decide | (simp; done)) ?_ | refine idx_nat (by omega) (fun x hx => ?_) | refine frz_auto ?_ | refine draw_plain ?_ | refine idx_intro (by first | omega | (simp; omega) | (simp; done)) (by first | omega | (simp; omega) | (simp; done)) (fun x hx => ?_)); conv => whnf)
          refine back_intro (by conv => whnf) rfl ⟨i + 1, ?_, rfl, by omega⟩ ?_
          · refine two_eq (Eq.trans ?_ (ov_ins hasc hy hne hj hd (.inl (by omega))))
            simp [cast_self, List.take_of_length_le]
            exact app_fin
          · show l.length - ((i : Int) + 1).toNat < l.length - (i : Int).toNat
            omega
    · conv => whnf
      repeat' first
        | ((first | refine idx_kn (by assumption) ?_ | refine idx_ki (by assumption) (by omega) ?_ | refine br_true (by first | with_reducible exact rfl | assumption | decide) ?_ | refine br_false (by first | with_reducible exact rfl | assumption | decide) ?_ | with_reducible first | refine br_kt (by assumption) ?_ | refine br_kf (by assumption) ?_ | refine br_nt (by assumption) ?_ | refine br_nf (by assumption) ?_ | refine br_et (by assumption) ?_ | refine br_ef (by assumption) ?_); conv => whnf)
        | ((with_reducible first | refine br_dec (fun h => ?_) (fun h => ?_) | refine br_ndec (fun h => ?_) (fun h => ?_) | refine br_ne (fun h => ?_) (fun h => ?_) | refine br_eq (fun h => ?_) (fun h => ?_)) <;> first | (exfalso; omega) | conv => whnf)
        | (refine br_intro (fun h => ?_) (fun h => ?_) <;> conv => whnf)
        | ((first | refine need_in (by first | exact trivial | assumption | exact ⟨rfl, Nat.le_refl _⟩ | exact ⟨rfl, rfl⟩ | (simp only [inR]; omega) | omega | (simp only [roomP, true_and, and_true, List.length_take, List.length_drop, List.length_append, List.length_cons, List.length_nil, List.length_set, List.length_replicate]; omega) | (refine ⟨by first | exact trivial | rfl, by first | exact Nat.le_refl _ | omega | (simp; omega), ?_⟩; change roomP _ _ 1; simp only [roomP]; omega) | (change roomP _ _ 1; simp only [roomP]; omega) | (simp; omega) | (simp [inR]; omega) | (simp [inR]; done) | decide | (simp; done)) ?_ | refine idx_nat (by omega) (fun x hx => ?_) | refine frz_auto ?_ | refine draw_plain ?_ | refine idx_intro (by first | omega | (simp; omega) | (simp; done)) (by first | omega | (simp; omega) | (simp; done)) (fun x hx => ?_)); conv => whnf)
      rw [List.take_of_length_le (by omega)]
  · cases h
end Go.Proofs.Ytekkeajcmibbaaa
