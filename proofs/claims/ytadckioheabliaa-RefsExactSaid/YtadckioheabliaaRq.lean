/-
  The table of those that are there.
-/
import Derived.Test.YtadckioheabliaaRp
namespace Go.Proofs.Ytadckioheabliaa
open Av

noncomputable def lx_C : Cx := ⟨tb, [], [(11, spShown), (26, spIn), (27, spFarR), (16, spHeld), (28, spOf), (21, spAdd), (23, spDrop), (25, spSameT)]⟩
theorem lx_D : SpecsOk Try.prog lx_C.specs := .cons lwShown_ok (.cons lwIn_ok (.cons lwFarR_ok (.cons rfHeld_ok (.cons rfOf_ok (.cons rfAdd_ok (.cons rfDrop_ok (.cons r4Same_ok .nil)))))))
theorem first_at {th : List Int} {k : Int} (h : k ∈ th) : ∃ j : Nat, th[j]? = some k ∧ ∀ i : Nat, i < j → th[i]? ≠ some k := by
  induction th with
  | nil => simp at h
  | cons x th ih =>
    by_cases hx : x = k
    · exact ⟨0, by rw [hx]; rfl, fun i hi => by omega⟩
    · obtain ⟨j, hj, hf⟩ := ih (by rcases List.mem_cons.1 h with e | e; exact absurd e.symm hx; exact e)
      refine ⟨j + 1, by simpa using hj, fun i hi => ?_⟩
      cases i with
      | zero => simpa using hx
      | succ i => simpa using hf i (by omega)
theorem vs_ex {A W : List rcT.El} {n m g : Nat} {a b : Int} (h : A = W) (h1 : n = m) (h2 : a = b) : [AV.lst rcT A, .own 1 g n, .int .i64 a] = [AV.lst rcT W, .own 1 g m, .int .i64 b] := by rw [h, h1, h2]
set_option maxRecDepth 100000 in
theorem fnOk_lEx : FnOk Try.prog 6 Try.f6 := ⟨by rfl, by kernel_rfl, by
  show okCode _ _ = true ∧ drawsOk _ = true
  exact ⟨by kernel_rfl, by kernel_rfl⟩⟩
noncomputable abbrev lEx_C : Cx := lx_C
abbrev lEx_D := lx_D
theorem lEx_F : FnsOk Try.prog lEx_C.fns := FnsOk.nil
abbrev lEx_N : Nat := 0
abbrev lEx_T : List Ty := [.sl (.sl (.int .i64)), .sl (.int .u8)]
abbrev lEx_FN := fnOk_lEx
set_option maxRecDepth 100000 in
set_option maxHeartbeats 8000000 in
theorem lEx' (l : List (List Int)) (acts : List Int) (hact : ∀ a ∈ acts, 0 ≤ a ∧ a ≤ 255) : bodyA lEx_C (callN lEx_C lEx_N) Try.f6 [.lst (.sl (.int .i64)) l, .lst (.int .u8) acts] [] (fun v _ => v = .bool true) := by
  cases hf : frB l with
  | true =>
    conv => whnf
    repeat' first
      | ((first | refine idx_kn (by assumption) ?_ | refine idx_ki (by assumption) (by omega) ?_ | refine br_true (by first | with_reducible exact rfl | assumption | decide) ?_ | refine br_false (by first | with_reducible exact rfl | assumption | decide) ?_ | with_reducible first | refine br_kt (by assumption) ?_ | refine br_kf (by assumption) ?_ | refine br_nt (by assumption) ?_ | refine br_nf (by assumption) ?_ | refine br_et (by assumption) ?_ | refine br_ef (by assumption) ?_); conv => whnf)
      | ((with_reducible first | refine br_dec (fun h => ?_) (fun h => ?_) | refine br_ndec (fun h => ?_) (fun h => ?_) | refine br_ne (fun h => ?_) (fun h => ?_) | refine br_eq (fun h => ?_) (fun h => ?_)) <;> first | (exfalso; omega) | conv => whnf)
      | (refine br_intro (fun h => ?_) (fun h => ?_) <;> conv => whnf)
      | ((first | refine need_in (by first | exact trivial | assumption | exact ⟨rfl, Nat.le_refl _⟩ | exact ⟨rfl, rfl⟩ | (simp only [inR]; omega) | omega | (simp only [roomP, true_and, and_true, List.length_take, List.length_drop, List.length_append, List.length_cons, List.length_nil, List.length_set, List.length_replicate]; omega) | (refine ⟨by first | exact trivial | rfl, by first | exact Nat.le_refl _ | omega | (simp; omega), ?_⟩; change roomP _ _ 1; simp only [roomP]; omega) | (change roomP _ _ 1; simp only [roomP]; omega) | (simp; omega) | (simp [inR]; omega) | (simp [inR]; done) | decide | (simp; done)) ?_ | refine idx_nat (by omega) (fun x hx => ?_) | refine frz_auto ?_ | refine draw_plain ?_ | refine idx_intro (by first | omega | (simp; omega) | (simp; done)) (by first | omega | (simp; omega) | (simp; done)) (fun x hx => ?_)); conv => whnf)
  | false =>
    by_cases h0 : (l.length : Int) = 0
    · conv => whnf
      repeat' first
        | ((first | refine idx_kn (by assumption) ?_ | refine idx_ki (by assumption) (by omega) ?_ | refine br_true (by first | with_reducible exact rfl | assumption | decide) ?_ | refine br_false (by first | with_reducible exact rfl | assumption | decide) ?_ | with_reducible first | refine br_kt (by assumption) ?_ | refine br_kf (by assumption) ?_ | refine br_nt (by assumption) ?_ | refine br_nf (by assumption) ?_ | refine br_et (by assumption) ?_ | refine br_ef (by assumption) ?_); conv => whnf)
        | ((with_reducible first | refine br_dec (fun h => ?_) (fun h => ?_) | refine br_ndec (fun h => ?_) (fun h => ?_) | refine br_ne (fun h => ?_) (fun h => ?_) | refine br_eq (fun h => ?_) (fun h => ?_)) <;> first | (exfalso; omega) | conv => whnf)
        | (refine br_intro (fun h => ?_) (fun h => ?_) <;> conv => whnf)
        | ((first | refine need_in (by first | exact trivial | assumption | exact ⟨rfl, Nat.le_refl _⟩ | exact ⟨rfl, rfl⟩ | (simp only [inR]; omega) | omega | (simp only [roomP, true_and, and_true, List.length_take, List.length_drop, List.length_append, List.length_cons, List.length_nil, List.length_set, List.length_replicate]; omega) | (refine ⟨by first | exact trivial | rfl, by first | exact Nat.le_refl _ | omega | (simp; omega), ?_⟩; change roomP _ _ 1; simp only [roomP]; omega) | (change roomP _ _ 1; simp only [roomP]; omega) | (simp; omega) | (simp [inR]; omega) | (simp [inR]; done) | decide | (simp; done)) ?_ | refine idx_nat (by omega) (fun x hx => ?_) | refine frz_auto ?_ | refine draw_plain ?_ | refine idx_intro (by first | omega | (simp; omega) | (simp; done)) (by first | omega | (simp; omega) | (simp; done)) (fun x hx => ?_)); conv => whnf)
    · by_cases h20 : 20 < (l.length : Int)
      · conv => whnf
        repeat' first
          | ((first | refine idx_kn (by assumption) ?_ | refine idx_ki (by assumption) (by omega) ?_ | refine br_true (by first | with_reducible exact rfl | assumption | decide) ?_ | refine br_false (by first | with_reducible exact rfl | assumption | decide) ?_ | with_reducible first | refine br_kt (by assumption) ?_ | refine br_kf (by assumption) ?_ | refine br_nt (by assumption) ?_ | refine br_nf (by assumption) ?_ | refine br_et (by assumption) ?_ | refine br_ef (by assumption) ?_); conv => whnf)
          | ((with_reducible first | refine br_dec (fun h => ?_) (fun h => ?_) | refine br_ndec (fun h => ?_) (fun h => ?_) | refine br_ne (fun h => ?_) (fun h => ?_) | refine br_eq (fun h => ?_) (fun h => ?_)) <;> first | (exfalso; omega) | conv => whnf)
          | (refine br_intro (fun h => ?_) (fun h => ?_) <;> conv => whnf)
          | ((first | refine need_in (by first | exact trivial | assumption | exact ⟨rfl, Nat.le_refl _⟩ | exact ⟨rfl, rfl⟩ | (simp only [inR]; omega) | omega | (simp only [roomP, true_and, and_true, List.length_take, List.length_drop, List.length_append, List.length_cons, List.length_nil, List.length_set, List.length_replicate]; omega) | (refine ⟨by first | exact trivial | rfl, by first | exact Nat.le_refl _ | omega | (simp; omega), ?_⟩; change roomP _ _ 1; simp only [roomP]; omega) | (change roomP _ _ 1; simp only [roomP]; omega) | (simp; omega) | (simp [inR]; omega) | (simp [inR]; done) | decide | (simp; done)) ?_ | refine idx_nat (by omega) (fun x hx => ?_) | refine frz_auto ?_ | refine draw_plain ?_ | refine idx_intro (by first | omega | (simp; omega) | (simp; done)) (by first | omega | (simp; omega) | (simp; done)) (fun x hx => ?_)); conv => whnf)
      · by_cases h60 : 60 < (acts.length : Int)
        · conv => whnf
          repeat' first
            | ((first | refine idx_kn (by assumption) ?_ | refine idx_ki (by assumption) (by omega) ?_ | refine br_true (by first | with_reducible exact rfl | assumption | decide) ?_ | refine br_false (by first | with_reducible exact rfl | assumption | decide) ?_ | with_reducible first | refine br_kt (by assumption) ?_ | refine br_kf (by assumption) ?_ | refine br_nt (by assumption) ?_ | refine br_nf (by assumption) ?_ | refine br_et (by assumption) ?_ | refine br_ef (by assumption) ?_); conv => whnf)
            | ((with_reducible first | refine br_dec (fun h => ?_) (fun h => ?_) | refine br_ndec (fun h => ?_) (fun h => ?_) | refine br_ne (fun h => ?_) (fun h => ?_) | refine br_eq (fun h => ?_) (fun h => ?_)) <;> first | (exfalso; omega) | conv => whnf)
            | (refine br_intro (fun h => ?_) (fun h => ?_) <;> conv => whnf)
            | ((first | refine need_in (by first | exact trivial | assumption | exact ⟨rfl, Nat.le_refl _⟩ | exact ⟨rfl, rfl⟩ | (simp only [inR]; omega) | omega | (simp only [roomP, true_and, and_true, List.length_take, List.length_drop, List.length_append, List.length_cons, List.length_nil, List.length_set, List.length_replicate]; omega) | (refine ⟨by first | exact trivial | rfl, by first | exact Nat.le_refl _ | omega | (simp; omega), ?_⟩; change roomP _ _ 1; simp only [roomP]; omega) | (change roomP _ _ 1; simp only [roomP]; omega) | (simp; omega) | (simp [inR]; omega) | (simp [inR]; done) | decide | (simp; done)) ?_ | refine idx_nat (by omega) (fun x hx => ?_) | refine frz_auto ?_ | refine draw_plain ?_ | refine idx_intro (by first | omega | (simp; omega) | (simp; done)) (by first | omega | (simp; omega) | (simp; done)) (fun x hx => ?_)); conv => whnf)
        · by_cases ho : (ofL l).2 = 0
          · have hg := goodR_of ho (by omega)
            conv => whnf
            repeat' first
              | ((first | refine idx_kn (by assumption) ?_ | refine idx_ki (by assumption) (by omega) ?_ | refine br_true (by first | with_reducible exact rfl | assumption | decide) ?_ | refine br_false (by first | with_reducible exact rfl | assumption | decide) ?_ | with_reducible first | refine br_kt (by assumption) ?_ | refine br_kf (by assumption) ?_ | refine br_nt (by assumption) ?_ | refine br_nf (by assumption) ?_ | refine br_et (by assumption) ?_ | refine br_ef (by assumption) ?_); conv => whnf)
              | ((with_reducible first | refine br_dec (fun h => ?_) (fun h => ?_) | refine br_ndec (fun h => ?_) (fun h => ?_) | refine br_ne (fun h => ?_) (fun h => ?_) | refine br_eq (fun h => ?_) (fun h => ?_)) <;> first | (exfalso; omega) | conv => whnf)
              | (refine br_intro (fun h => ?_) (fun h => ?_) <;> conv => whnf)
              | ((first | refine need_in (by first | exact trivial | assumption | exact ⟨rfl, Nat.le_refl _⟩ | exact ⟨rfl, rfl⟩ | (simp only [inR]; omega) | omega | (simp only [roomP, true_and, and_true, List.length_take, List.length_drop, List.length_append, List.length_cons, List.length_nil, List.length_set, List.length_replicate]; omega) | (refine ⟨by first | exact trivial | rfl, by first | exact Nat.le_refl _ | omega | (simp; omega), ?_⟩; change roomP _ _ 1; simp only [roomP]; omega) | (change roomP _ _ 1; simp only [roomP]; omega) | (simp; omega) | (simp [inR]; omega) | (simp [inR]; done) | decide | (simp; done)) ?_ | refine idx_nat (by omega) (fun x hx => ?_) | refine frz_auto ?_ | refine draw_plain ?_ | refine idx_intro (by first | omega | (simp; omega) | (simp; done)) (by first | omega | (simp; omega) | (simp; done)) (fun x hx => ?_)); conv => whnf)
            refine loop_inv [.lst 7 rcT] [7, 8, 9] (fun vs h => ∃ (th : List Int) (g i : Nat), vs = [.lst rcT (ofT [] (nowL l th)), .own 1 g th.length, .int .i64 (i : Int)] ∧ h = [.dead, .arr 3 (.int .i64) th false g] ∧ i ≤ acts.length ∧ th.length ≤ i ∧ InR l th) (fun vs _ => match vs with | [_, _, .int _ k] => acts.length - k.toNat | _ => 0) ?_
            conv => whnf
            repeat' first
              | ((first | refine idx_kn (by assumption) ?_ | refine idx_ki (by assumption) (by omega) ?_ | refine br_true (by first | with_reducible exact rfl | assumption | decide) ?_ | refine br_false (by first | with_reducible exact rfl | assumption | decide) ?_ | with_reducible first | refine br_kt (by assumption) ?_ | refine br_kf (by assumption) ?_ | refine br_nt (by assumption) ?_ | refine br_nf (by assumption) ?_ | refine br_et (by assumption) ?_ | refine br_ef (by assumption) ?_); conv => whnf)
              | ((with_reducible first | refine br_dec (fun h => ?_) (fun h => ?_) | refine br_ndec (fun h => ?_) (fun h => ?_) | refine br_ne (fun h => ?_) (fun h => ?_) | refine br_eq (fun h => ?_) (fun h => ?_)) <;> first | (exfalso; omega) | conv => whnf)
              | (refine br_intro (fun h => ?_) (fun h => ?_) <;> conv => whnf)
              | ((first | refine need_in (by first | exact trivial | assumption | exact ⟨rfl, Nat.le_refl _⟩ | exact ⟨rfl, rfl⟩ | (simp only [inR]; omega) | omega | (simp only [roomP, true_and, and_true, List.length_take, List.length_drop, List.length_append, List.length_cons, List.length_nil, List.length_set, List.length_replicate]; omega) | (refine ⟨by first | exact trivial | rfl, by first | exact Nat.le_refl _ | omega | (simp; omega), ?_⟩; change roomP _ _ 1; simp only [roomP]; omega) | (change roomP _ _ 1; simp only [roomP]; omega) | (simp; omega) | (simp [inR]; omega) | (simp [inR]; done) | decide | (simp; done)) ?_ | refine idx_nat (by omega) (fun x hx => ?_) | refine frz_auto ?_ | refine draw_plain ?_ | refine idx_intro (by first | omega | (simp; omega) | (simp; done)) (by first | omega | (simp; omega) | (simp; done)) (fun x hx => ?_)); conv => whnf)
            refine ⟨⟨[], 0, 0, rfl, rfl, Nat.zero_le _, Nat.zero_le _, fun k hk => absurd hk (by simp)⟩, ?_⟩
            rintro vs h' - ⟨th, g, i, rfl, rfl, hi, htl, hin⟩
            by_cases hia : i < acts.length
            · obtain ⟨a, hx⟩ : ∃ a : Int, (acts : List Int)[i]? = some a := ⟨_, List.getElem?_eq_getElem hia⟩
              have ha := hact a (List.mem_of_getElem? hx)
              obtain ⟨k, hk⟩ : ∃ k : Int, a / 2 % (l.length : Int) = k := ⟨_, rfl⟩
              have hk0 : 0 ≤ k := by rw [← hk]; exact Int.emod_nonneg _ h0
              have hk1 : k < l.length := by rw [← hk]; exact Int.emod_lt_of_pos _ (by omega)
              obtain ⟨ids, hxk⟩ : ∃ ids : List Int, (l : List (List Int))[k.toNat]? = some ids := ⟨_, List.getElem?_eq_getElem (by omega)⟩
              by_cases hev : a % 2 = 0
              · have hA := now_add hg hin (by omega) hk0 hk1 hxk
                have hin2 := inR_add hin hk0 hk1
                have hA1 : (addL (ofT [] (nowL l th)) ids).1 = ofT [] (nowL l (th ++ [k])) := by rw [hA]
                have hA2 : (addL (ofT [] (nowL l th)) ids).2 = 0 := by rw [hA]
                rw [← hk] at hxk hA hin2 hA1
                conv => whnf
                repeat' first
                  | ((first | refine idx_kn (by assumption) ?_ | refine idx_ki (by assumption) (by omega) ?_ | refine br_true (by first | with_reducible exact rfl | assumption | decide) ?_ | refine br_false (by first | with_reducible exact rfl | assumption | decide) ?_ | with_reducible first | refine br_kt (by assumption) ?_ | refine br_kf (by assumption) ?_ | refine br_nt (by assumption) ?_ | refine br_nf (by assumption) ?_ | refine br_et (by assumption) ?_ | refine br_ef (by assumption) ?_); conv => whnf)
                  | ((with_reducible first | refine br_dec (fun h => ?_) (fun h => ?_) | refine br_ndec (fun h => ?_) (fun h => ?_) | refine br_ne (fun h => ?_) (fun h => ?_) | refine br_eq (fun h => ?_) (fun h => ?_)) <;> first | (exfalso; omega) | conv => whnf)
                  | (refine br_intro (fun h => ?_) (fun h => ?_) <;> conv => whnf)
                  | ((first | refine need_in (by first | exact trivial | assumption | exact ⟨rfl, Nat.le_refl _⟩ | exact ⟨rfl, rfl⟩ | (simp only [inR]; omega) | omega | (simp only [roomP, true_and, and_true, List.length_take, List.length_drop, List.length_append, List.length_cons, List.length_nil, List.length_set, List.length_replicate]; omega) | (refine ⟨by first | exact trivial | rfl, by first | exact Nat.le_refl _ | omega | (simp; omega), ?_⟩; change roomP _ _ 1; simp only [roomP]; omega) | (change roomP _ _ 1; simp only [roomP]; omega) | (simp; omega) | (simp [inR]; omega) | (simp [inR]; done) | decide | (simp; done)) ?_ | refine idx_nat (by omega) (fun x hx => ?_) | refine frz_auto ?_ | refine draw_plain ?_ | refine idx_intro (by first | omega | (simp; omega) | (simp; done)) (by first | omega | (simp; omega) | (simp; done)) (fun x hx => ?_)); conv => whnf)
                simp only [cast_self, List.take_zero, List.nil_append, Nat.zero_add, List.take_length, List.take_succ_cons, List.length_cons, List.length_nil]
                have hL2 : (th ++ [a / 2 % (l.length : Int)]).length = th.length + 1 := by rw [List.length_append]; rfl
                generalize hTH : th ++ [a / 2 % (l.length : Int)] = th2 at *
                refine loop_inv [] [18, 19] (fun vs h => ∃ j g2 : Nat, vs = [.own 3 g2 j, .int .i64 (j : Int)] ∧ h = [.dead, .arr 3 (.int .i64) th2 false (g + 1), .arr 3 (.int .i64) [a / 2 % (l.length : Int)] false 0, .arr 29 (.sl (.int .i64)) (nowL l (List.take j th2)) false g2] ∧ j ≤ (th2).length) (fun vs _ => match vs with | [_, .int _ q] => (th2).length - q.toNat | _ => 0) ?_
                conv => whnf
                refine ⟨⟨0, 0, rfl, rfl, Nat.zero_le _⟩, ?_⟩
                rintro vs h' - ⟨j, g2, rfl, rfl, hj⟩
                by_cases hjl : j < (th2).length
                · obtain ⟨x, hx2⟩ : ∃ x : Int, (th2 : List Int)[j]? = some x := ⟨_, List.getElem?_eq_getElem hjl⟩
                  obtain ⟨hx0, hx1⟩ := hin2 x (List.mem_of_getElem? hx2)
                  obtain ⟨ids2, hx3⟩ : ∃ ids : List Int, (l : List (List Int))[x.toNat]? = some ids := ⟨_, List.getElem?_eq_getElem (by omega)⟩
                  have hsn := nowL_snoc hx2 hx3
                  have hnl : (nowL l (List.take j th2)).length = j := by rw [nowL_len, List.length_take]; omega
                  generalize hP : nowL l (List.take j th2) = P at *
                  conv => whnf
                  repeat' first
                    | ((first | refine idx_kn (by assumption) ?_ | refine idx_ki (by assumption) (by omega) ?_ | refine br_true (by first | with_reducible exact rfl | assumption | decide) ?_ | refine br_false (by first | with_reducible exact rfl | assumption | decide) ?_ | with_reducible first | refine br_kt (by assumption) ?_ | refine br_kf (by assumption) ?_ | refine br_nt (by assumption) ?_ | refine br_nf (by assumption) ?_ | refine br_et (by assumption) ?_ | refine br_ef (by assumption) ?_); conv => whnf)
                    | ((with_reducible first | refine br_dec (fun h => ?_) (fun h => ?_) | refine br_ndec (fun h => ?_) (fun h => ?_) | refine br_ne (fun h => ?_) (fun h => ?_) | refine br_eq (fun h => ?_) (fun h => ?_)) <;> first | (exfalso; omega) | conv => whnf)
                    | (refine br_intro (fun h => ?_) (fun h => ?_) <;> conv => whnf)
                    | ((first | refine need_in (by first | exact trivial | assumption | exact ⟨rfl, Nat.le_refl _⟩ | exact ⟨rfl, rfl⟩ | (simp only [inR]; omega) | omega | (simp only [roomP, true_and, and_true, List.length_take, List.length_drop, List.length_append, List.length_cons, List.length_nil, List.length_set, List.length_replicate]; omega) | (refine ⟨by first | exact trivial | rfl, by first | exact Nat.le_refl _ | omega | (simp; omega), ?_⟩; change roomP _ _ 1; simp only [roomP]; omega) | (change roomP _ _ 1; simp only [roomP]; omega) | (simp; omega) | (simp [inR]; omega) | (simp [inR]; done) | decide | (simp; done)) ?_ | refine idx_nat (by omega) (fun x hx => ?_) | refine frz_auto ?_ | refine draw_plain ?_ | refine idx_intro (by first | omega | (simp; omega) | (simp; done)) (by first | omega | (simp; omega) | (simp; done)) (fun x hx => ?_)); conv => whnf)
                  refine back_intro (by conv => whnf) rfl ⟨j + 1, g2 + 1, rfl, congrArg (fun y => [.dead, .arr 3 (.int .i64) th2 false (g + 1), .arr 3 (.int .i64) [a / 2 % (l.length : Int)] false 0, AObj.arr 29 (.sl (.int .i64)) y false (g2 + 1)]) ?_, by omega⟩ ?_
                  · rw [hsn]
                    show List.take j P ++ [ids2] = P ++ [ids2]
                    rw [← hnl, List.take_length]
                  · show (th2).length - ((j : Int) + 1).toNat < (th2).length - (j : Int).toNat
                    omega
                · have hjn : j = (th2).length := by omega
                  subst hjn
                  rw [List.take_length]
                  have hnl : (nowL l th2).length = (th2).length := nowL_len _ _
                  have hO1 : (ofL (List.take (th2).length (nowL l th2))).1 = ofT [] (nowL l th2) := by rw [← hnl, List.take_length, now_of hg hin2 (by omega)]
                  have hO2 : (ofL (List.take (th2).length (nowL l th2))).2 = 0 := by rw [← hnl, List.take_length, now_of hg hin2 (by omega)]
                  have hO3 : (ofL (List.take (th2).length (nowL l th2))).1.length ≤ 500 := of_len _
                  have hO4 : (addL (ofT [] (nowL l th)) ids).1.length ≤ 500 := by rw [hA1]; exact now_len hg hin2
                  have hO5 : sameL rcT (ofL (List.take (th2).length (nowL l th2))).1 (addL (ofT [] (nowL l th)) ids).1 = true := by rw [hO1, hA1]; exact sameC_refl _
                  have hO6 : (!sameL rcT (ofL (List.take (th2).length (nowL l th2))).1 (addL (ofT [] (nowL l th)) ids).1) = false := by rw [hO5]; rfl
                  generalize hP : nowL l th2 = P at *
                  conv => whnf
                  repeat' first
                    | ((first | refine idx_kn (by assumption) ?_ | refine idx_ki (by assumption) (by omega) ?_ | refine br_true (by first | with_reducible exact rfl | assumption | decide) ?_ | refine br_false (by first | with_reducible exact rfl | assumption | decide) ?_ | with_reducible first | refine br_kt (by assumption) ?_ | refine br_kf (by assumption) ?_ | refine br_nt (by assumption) ?_ | refine br_nf (by assumption) ?_ | refine br_et (by assumption) ?_ | refine br_ef (by assumption) ?_); conv => whnf)
                    | ((with_reducible first | refine br_dec (fun h => ?_) (fun h => ?_) | refine br_ndec (fun h => ?_) (fun h => ?_) | refine br_ne (fun h => ?_) (fun h => ?_) | refine br_eq (fun h => ?_) (fun h => ?_)) <;> first | (exfalso; omega) | conv => whnf)
                    | (refine br_intro (fun h => ?_) (fun h => ?_) <;> conv => whnf)
                    | ((first | refine need_in (by first | exact trivial | assumption | exact ⟨rfl, Nat.le_refl _⟩ | exact ⟨rfl, rfl⟩ | (simp only [inR]; omega) | omega | (simp only [roomP, true_and, and_true, List.length_take, List.length_drop, List.length_append, List.length_cons, List.length_nil, List.length_set, List.length_replicate]; omega) | (refine ⟨by first | exact trivial | rfl, by first | exact Nat.le_refl _ | omega | (simp; omega), ?_⟩; change roomP _ _ 1; simp only [roomP]; omega) | (change roomP _ _ 1; simp only [roomP]; omega) | (simp; omega) | (simp [inR]; omega) | (simp [inR]; done) | decide | (simp; done)) ?_ | refine idx_nat (by omega) (fun x hx => ?_) | refine draw_plain ?_ | refine idx_intro (by first | omega | (simp; omega) | (simp; done)) (by first | omega | (simp; omega) | (simp; done)) (fun x hx => ?_)); conv => whnf)
                  refine .mk [.frz 3 [159, 18] []] ?_
                  conv => whnf
                  repeat' first
                    | ((first | refine idx_kn (by assumption) ?_ | refine idx_ki (by assumption) (by omega) ?_ | refine br_true (by first | with_reducible exact rfl | assumption | decide) ?_ | refine br_false (by first | with_reducible exact rfl | assumption | decide) ?_ | with_reducible first | refine br_kt (by assumption) ?_ | refine br_kf (by assumption) ?_ | refine br_nt (by assumption) ?_ | refine br_nf (by assumption) ?_ | refine br_et (by assumption) ?_ | refine br_ef (by assumption) ?_); conv => whnf)
                    | ((with_reducible first | refine br_dec (fun h => ?_) (fun h => ?_) | refine br_ndec (fun h => ?_) (fun h => ?_) | refine br_ne (fun h => ?_) (fun h => ?_) | refine br_eq (fun h => ?_) (fun h => ?_)) <;> first | (exfalso; omega) | conv => whnf)
                    | (refine br_intro (fun h => ?_) (fun h => ?_) <;> conv => whnf)
                    | ((first | refine need_in (by first | exact trivial | assumption | exact ⟨rfl, Nat.le_refl _⟩ | exact ⟨rfl, rfl⟩ | (simp only [inR]; omega) | omega | (simp only [roomP, true_and, and_true, List.length_take, List.length_drop, List.length_append, List.length_cons, List.length_nil, List.length_set, List.length_replicate]; omega) | (refine ⟨by first | exact trivial | rfl, by first | exact Nat.le_refl _ | omega | (simp; omega), ?_⟩; change roomP _ _ 1; simp only [roomP]; omega) | (change roomP _ _ 1; simp only [roomP]; omega) | (simp; omega) | (simp [inR]; omega) | (simp [inR]; done) | decide | (simp; done)) ?_ | refine idx_nat (by omega) (fun x hx => ?_) | refine frz_auto ?_ | refine draw_plain ?_ | refine idx_intro (by first | omega | (simp; omega) | (simp; done)) (by first | omega | (simp; omega) | (simp; done)) (fun x hx => ?_)); conv => whnf)
                  refine back_intro (by conv => whnf) rfl ⟨th2, g + 1, i + 1, vs_ex (hA1.trans (by rw [← hP])) hL2.symm rfl, rfl, by omega, by omega, hin2⟩ ?_
                  show acts.length - ((i : Int) + 1).toNat < acts.length - (i : Int).toNat
                  omega
              · cases hthe : inI th k with
                | true =>
                  have hthe' : inI (List.take th.length th) (a / 2 % ↑l.length) = true := by rw [List.take_length, hk]; exact hthe
                  obtain ⟨j0, hj0, hfst⟩ := first_at (inI_iff.1 hthe)
                  have hj0l : j0 < th.length := (List.getElem?_eq_some_iff.1 hj0).1
                  obtain ⟨hdel, hfr⟩ := now_del hg hin (by omega) hj0 hxk
                  have hD1 : (dropL (ofT [] (nowL l th)) ids).1 = ofT [] (nowL l (th.take j0 ++ th.drop (j0 + 1))) := congrArg (fun x => x.1) hdel
                  have hD2 : (dropL (ofT [] (nowL l th)) ids).2.2 = 0 := congrArg (fun x => x.2.2) hdel
                  have hD3 := (drop_len (ofT [] (nowL l th)) ids).2
                  have hD4 := now_len hg hin
                  have hin2 := inR_del hin j0
                  rw [← hk] at hxk
                  conv => whnf
                  repeat' first
                    | ((first | refine idx_kn (by assumption) ?_ | refine idx_ki (by assumption) (by omega) ?_ | refine br_true (by first | with_reducible exact rfl | assumption | decide) ?_ | refine br_false (by first | with_reducible exact rfl | assumption | decide) ?_ | with_reducible first | refine br_kt (by assumption) ?_ | refine br_kf (by assumption) ?_ | refine br_nt (by assumption) ?_ | refine br_nf (by assumption) ?_ | refine br_et (by assumption) ?_ | refine br_ef (by assumption) ?_); conv => whnf)
                    | ((with_reducible first | refine br_dec (fun h => ?_) (fun h => ?_) | refine br_ndec (fun h => ?_) (fun h => ?_) | refine br_ne (fun h => ?_) (fun h => ?_) | refine br_eq (fun h => ?_) (fun h => ?_)) <;> first | (exfalso; omega) | conv => whnf)
                    | (refine br_intro (fun h => ?_) (fun h => ?_) <;> conv => whnf)
                    | ((first | refine need_in (by first | exact trivial | assumption | exact ⟨rfl, Nat.le_refl _⟩ | exact ⟨rfl, rfl⟩ | (simp only [inR]; omega) | omega | (simp only [roomP, true_and, and_true, List.length_take, List.length_drop, List.length_append, List.length_cons, List.length_nil, List.length_set, List.length_replicate]; omega) | (refine ⟨by first | exact trivial | rfl, by first | exact Nat.le_refl _ | omega | (simp; omega), ?_⟩; change roomP _ _ 1; simp only [roomP]; omega) | (change roomP _ _ 1; simp only [roomP]; omega) | (simp; omega) | (simp [inR]; omega) | (simp [inR]; done) | decide | (simp; done)) ?_ | refine idx_nat (by omega) (fun x hx => ?_) | refine frz_auto ?_ | refine draw_plain ?_ | refine idx_intro (by first | omega | (simp; omega) | (simp; done)) (by first | omega | (simp; omega) | (simp; done)) (fun x hx => ?_)); conv => whnf)
                  refine loop_inv [] [16] (fun vs h => ∃ q : Nat, vs = [.int .i64 (q : Int)] ∧ h = [.dead, .arr 3 (.int .i64) th false g] ∧ q ≤ j0) (fun vs _ => match vs with | [.int _ q] => j0 - q.toNat | _ => 0) ?_
                  conv => whnf
                  refine ⟨⟨0, rfl, rfl, Nat.zero_le _⟩, ?_⟩
                  rintro vs h' - ⟨q, rfl, rfl, hq⟩
                  obtain ⟨y, hy⟩ : ∃ y : Int, (th : List Int)[q]? = some y := ⟨_, List.getElem?_eq_getElem (by omega)⟩
                  by_cases hyk : y = a / 2 % ↑l.length
                  · have hqj : q = j0 := by
                      rcases Nat.lt_or_ge q j0 with h | h
                      · exact absurd (hy.trans (by rw [hyk, hk])) (hfst q h)
                      · omega
                    subst hqj
                    conv => whnf
                    repeat' first
                      | ((first | refine idx_kn (by assumption) ?_ | refine idx_ki (by assumption) (by omega) ?_ | refine br_true (by first | with_reducible exact rfl | assumption | decide) ?_ | refine br_false (by first | with_reducible exact rfl | assumption | decide) ?_ | with_reducible first | refine br_kt (by assumption) ?_ | refine br_kf (by assumption) ?_ | refine br_nt (by assumption) ?_ | refine br_nf (by assumption) ?_ | refine br_et (by assumption) ?_ | refine br_ef (by assumption) ?_); conv => whnf)
                      | ((with_reducible first | refine br_dec (fun h => ?_) (fun h => ?_) | refine br_ndec (fun h => ?_) (fun h => ?_) | refine br_ne (fun h => ?_) (fun h => ?_) | refine br_eq (fun h => ?_) (fun h => ?_)) <;> first | (exfalso; omega) | conv => whnf)
                      | (refine br_intro (fun h => ?_) (fun h => ?_) <;> conv => whnf)
                      | ((first | refine need_in (by first | exact trivial | assumption | exact ⟨rfl, Nat.le_refl _⟩ | exact ⟨rfl, rfl⟩ | (simp only [inR]; omega) | omega | (simp only [roomP, true_and, and_true, List.length_take, List.length_drop, List.length_append, List.length_cons, List.length_nil, List.length_set, List.length_replicate]; omega) | (refine ⟨by first | exact trivial | rfl, by first | exact Nat.le_refl _ | omega | (simp; omega), ?_⟩; change roomP _ _ 1; simp only [roomP]; omega) | (change roomP _ _ 1; simp only [roomP]; omega) | (simp; omega) | (simp [inR]; omega) | (simp [inR]; done) | decide | (simp; done)) ?_ | refine idx_nat (by omega) (fun x hx => ?_) | refine frz_auto ?_ | refine draw_plain ?_ | refine idx_intro (by first | omega | (simp; omega) | (simp; done)) (by first | omega | (simp; omega) | (simp; done)) (fun x hx => ?_)); conv => whnf)
                    simp only [cast_self, List.take_zero, List.nil_append, Nat.zero_add, List.take_length, Int.toNat_natCast]
                    have hth2 : List.take q th ++ List.take (th.length - ((q : Int) + 1).toNat) (List.drop ((q : Int) + 1).toNat th) = List.take q th ++ List.drop (q + 1) th := by
                      rw [show ((q : Int) + 1).toNat = q + 1 by omega]
                      congr 1
                      exact List.take_of_length_le (by rw [List.length_drop]; exact Nat.le_refl _)
                    have hE : (List.take q th).length + (List.take (th.length - ((q : Int) + 1).toNat) (List.drop ((q : Int) + 1).toNat th)).length = (List.take q th ++ List.drop (q + 1) th).length := by rw [← List.length_append, hth2]
                    rw [hth2, hE]
                    have hL2 : (List.take q th ++ List.drop (q + 1) th).length + 1 = th.length := by rw [List.length_append, List.length_take, List.length_drop]; omega
                    have hA1 := hD1
                    generalize hTH : List.take q th ++ List.drop (q + 1) th = th2 at *
                    have hil : ids.length ≤ 500 := (lsE_zero (ofErr_zero.1 hg.err ids (List.mem_of_getElem? hxk))).1
                    refine loop_inv [] [17] (fun vs h => ∃ p : Nat, vs = [.int .i64 (p : Int)] ∧ h = [.dead, .arr 3 (.int .i64) th false g, .arr 3 (.int .i64) th2 false 2] ∧ p ≤ (dropL (ofT [] (nowL l th)) ids).2.1.length) (fun vs _ => match vs with | [.int _ p] => (dropL (ofT [] (nowL l th)) ids).2.1.length - p.toNat | _ => 0) ?_
                    conv => whnf
                    refine ⟨⟨0, rfl, rfl, Nat.zero_le _⟩, ?_⟩
                    rintro vs h' - ⟨p, rfl, rfl, hp⟩
                    by_cases hpl : p < (dropL (ofT [] (nowL l th)) ids).2.1.length
                    · obtain ⟨n, hn⟩ : ∃ n : Int, ((dropL (ofT [] (nowL l th)) ids).2.1 : List Int)[p]? = some n := ⟨_, List.getElem?_eq_getElem hpl⟩
                      have hfn := hfr n (List.mem_of_getElem? hn)
                      have hfn' : (!inI ids n) = false := by rw [hfn]; rfl
                      conv => whnf
                      repeat' first
                        | ((first | refine idx_kn (by assumption) ?_ | refine idx_ki (by assumption) (by omega) ?_ | refine br_true (by first | with_reducible exact rfl | assumption | decide) ?_ | refine br_false (by first | with_reducible exact rfl | assumption | decide) ?_ | with_reducible first | refine br_kt (by assumption) ?_ | refine br_kf (by assumption) ?_ | refine br_nt (by assumption) ?_ | refine br_nf (by assumption) ?_ | refine br_et (by assumption) ?_ | refine br_ef (by assumption) ?_); conv => whnf)
                        | ((with_reducible first | refine br_dec (fun h => ?_) (fun h => ?_) | refine br_ndec (fun h => ?_) (fun h => ?_) | refine br_ne (fun h => ?_) (fun h => ?_) | refine br_eq (fun h => ?_) (fun h => ?_)) <;> first | (exfalso; omega) | conv => whnf)
                        | (refine br_intro (fun h => ?_) (fun h => ?_) <;> conv => whnf)
                        | ((first | refine need_in (by first | exact trivial | assumption | exact ⟨rfl, Nat.le_refl _⟩ | exact ⟨rfl, rfl⟩ | (simp only [inR]; omega) | omega | (simp only [roomP, true_and, and_true, List.length_take, List.length_drop, List.length_append, List.length_cons, List.length_nil, List.length_set, List.length_replicate]; omega) | (refine ⟨by first | exact trivial | rfl, by first | exact Nat.le_refl _ | omega | (simp; omega), ?_⟩; change roomP _ _ 1; simp only [roomP]; omega) | (change roomP _ _ 1; simp only [roomP]; omega) | (simp; omega) | (simp [inR]; omega) | (simp [inR]; done) | decide | (simp; done)) ?_ | refine idx_nat (by omega) (fun x hx => ?_) | refine frz_auto ?_ | refine draw_plain ?_ | refine idx_intro (by first | omega | (simp; omega) | (simp; done)) (by first | omega | (simp; omega) | (simp; done)) (fun x hx => ?_)); conv => whnf)
                      refine back_intro (by conv => whnf) rfl ⟨p + 1, rfl, rfl, by omega⟩ ?_
                      show (dropL (ofT [] (nowL l th)) ids).2.1.length - ((p : Int) + 1).toNat < (dropL (ofT [] (nowL l th)) ids).2.1.length - (p : Int).toNat
                      omega
                    · conv => whnf
                      repeat' first
                        | ((first | refine idx_kn (by assumption) ?_ | refine idx_ki (by assumption) (by omega) ?_ | refine br_true (by first | with_reducible exact rfl | assumption | decide) ?_ | refine br_false (by first | with_reducible exact rfl | assumption | decide) ?_ | with_reducible first | refine br_kt (by assumption) ?_ | refine br_kf (by assumption) ?_ | refine br_nt (by assumption) ?_ | refine br_nf (by assumption) ?_ | refine br_et (by assumption) ?_ | refine br_ef (by assumption) ?_); conv => whnf)
                        | ((with_reducible first | refine br_dec (fun h => ?_) (fun h => ?_) | refine br_ndec (fun h => ?_) (fun h => ?_) | refine br_ne (fun h => ?_) (fun h => ?_) | refine br_eq (fun h => ?_) (fun h => ?_)) <;> first | (exfalso; omega) | conv => whnf)
                        | (refine br_intro (fun h => ?_) (fun h => ?_) <;> conv => whnf)
                        | ((first | refine need_in (by first | exact trivial | assumption | exact ⟨rfl, Nat.le_refl _⟩ | exact ⟨rfl, rfl⟩ | (simp only [inR]; omega) | omega | (simp only [roomP, true_and, and_true, List.length_take, List.length_drop, List.length_append, List.length_cons, List.length_nil, List.length_set, List.length_replicate]; omega) | (refine ⟨by first | exact trivial | rfl, by first | exact Nat.le_refl _ | omega | (simp; omega), ?_⟩; change roomP _ _ 1; simp only [roomP]; omega) | (change roomP _ _ 1; simp only [roomP]; omega) | (simp; omega) | (simp [inR]; omega) | (simp [inR]; done) | decide | (simp; done)) ?_ | refine idx_nat (by omega) (fun x hx => ?_) | refine frz_auto ?_ | refine draw_plain ?_ | refine idx_intro (by first | omega | (simp; omega) | (simp; done)) (by first | omega | (simp; omega) | (simp; done)) (fun x hx => ?_)); conv => whnf)
                      refine loop_inv [] [18, 19] (fun vs h => ∃ j g2 : Nat, vs = [.own 3 g2 j, .int .i64 (j : Int)] ∧ h = [.dead, .arr 3 (.int .i64) th false g, .arr 3 (.int .i64) th2 false 2, .arr 29 (.sl (.int .i64)) (nowL l (List.take j th2)) false g2] ∧ j ≤ (th2).length) (fun vs _ => match vs with | [_, .int _ q] => (th2).length - q.toNat | _ => 0) ?_
                      conv => whnf
                      refine ⟨⟨0, 0, rfl, rfl, Nat.zero_le _⟩, ?_⟩
                      rintro vs h' - ⟨j, g2, rfl, rfl, hj⟩
                      by_cases hjl : j < (th2).length
                      · obtain ⟨x, hx2⟩ : ∃ x : Int, (th2 : List Int)[j]? = some x := ⟨_, List.getElem?_eq_getElem hjl⟩
                        obtain ⟨hx0, hx1⟩ := hin2 x (List.mem_of_getElem? hx2)
                        obtain ⟨ids2, hx3⟩ : ∃ ids : List Int, (l : List (List Int))[x.toNat]? = some ids := ⟨_, List.getElem?_eq_getElem (by omega)⟩
                        have hsn := nowL_snoc hx2 hx3
                        have hnl : (nowL l (List.take j th2)).length = j := by rw [nowL_len, List.length_take]; omega
                        generalize hP : nowL l (List.take j th2) = P at *
                        conv => whnf
                        repeat' first
                          | ((first | refine idx_kn (by assumption) ?_ | refine idx_ki (by assumption) (by omega) ?_ | refine br_true (by first | with_reducible exact rfl | assumption | decide) ?_ | refine br_false (by first | with_reducible exact rfl | assumption | decide) ?_ | with_reducible first | refine br_kt (by assumption) ?_ | refine br_kf (by assumption) ?_ | refine br_nt (by assumption) ?_ | refine br_nf (by assumption) ?_ | refine br_et (by assumption) ?_ | refine br_ef (by assumption) ?_); conv => whnf)
                          | ((with_reducible first | refine br_dec (fun h => ?_) (fun h => ?_) | refine br_ndec (fun h => ?_) (fun h => ?_) | refine br_ne (fun h => ?_) (fun h => ?_) | refine br_eq (fun h => ?_) (fun h => ?_)) <;> first | (exfalso; omega) | conv => whnf)
                          | (refine br_intro (fun h => ?_) (fun h => ?_) <;> conv => whnf)
                          | ((first | refine need_in (by first | exact trivial | assumption | exact ⟨rfl, Nat.le_refl _⟩ | exact ⟨rfl, rfl⟩ | (simp only [inR]; omega) | omega | (simp only [roomP, true_and, and_true, List.length_take, List.length_drop, List.length_append, List.length_cons, List.length_nil, List.length_set, List.length_replicate]; omega) | (refine ⟨by first | exact trivial | rfl, by first | exact Nat.le_refl _ | omega | (simp; omega), ?_⟩; change roomP _ _ 1; simp only [roomP]; omega) | (change roomP _ _ 1; simp only [roomP]; omega) | (simp; omega) | (simp [inR]; omega) | (simp [inR]; done) | decide | (simp; done)) ?_ | refine idx_nat (by omega) (fun x hx => ?_) | refine frz_auto ?_ | refine draw_plain ?_ | refine idx_intro (by first | omega | (simp; omega) | (simp; done)) (by first | omega | (simp; omega) | (simp; done)) (fun x hx => ?_)); conv => whnf)
                        refine back_intro (by conv => whnf) rfl ⟨j + 1, g2 + 1, rfl, congrArg (fun y => [.dead, .arr 3 (.int .i64) th false g, .arr 3 (.int .i64) th2 false 2, AObj.arr 29 (.sl (.int .i64)) y false (g2 + 1)]) ?_, by omega⟩ ?_
                        · rw [hsn]
                          show List.take j P ++ [ids2] = P ++ [ids2]
                          rw [← hnl, List.take_length]
                        · show (th2).length - ((j : Int) + 1).toNat < (th2).length - (j : Int).toNat
                          omega
                      · have hjn : j = (th2).length := by omega
                        subst hjn
                        rw [List.take_length]
                        have hnl : (nowL l th2).length = (th2).length := nowL_len _ _
                        have hO1 : (ofL (List.take (th2).length (nowL l th2))).1 = ofT [] (nowL l th2) := by rw [← hnl, List.take_length, now_of hg hin2 (by omega)]
                        have hO2 : (ofL (List.take (th2).length (nowL l th2))).2 = 0 := by rw [← hnl, List.take_length, now_of hg hin2 (by omega)]
                        have hO3 : (ofL (List.take (th2).length (nowL l th2))).1.length ≤ 500 := of_len _
                        have hO4 : (dropL (ofT [] (nowL l th)) ids).1.length ≤ 500 := by rw [hA1]; exact now_len hg hin2
                        have hO5 : sameL rcT (ofL (List.take (th2).length (nowL l th2))).1 (dropL (ofT [] (nowL l th)) ids).1 = true := by rw [hO1, hA1]; exact sameC_refl _
                        have hO6 : (!sameL rcT (ofL (List.take (th2).length (nowL l th2))).1 (dropL (ofT [] (nowL l th)) ids).1) = false := by rw [hO5]; rfl
                        generalize hP : nowL l th2 = P at *
                        conv => whnf
                        repeat' first
                          | ((first | refine idx_kn (by assumption) ?_ | refine idx_ki (by assumption) (by omega) ?_ | refine br_true (by first | with_reducible exact rfl | assumption | decide) ?_ | refine br_false (by first | with_reducible exact rfl | assumption | decide) ?_ | with_reducible first | refine br_kt (by assumption) ?_ | refine br_kf (by assumption) ?_ | refine br_nt (by assumption) ?_ | refine br_nf (by assumption) ?_ | refine br_et (by assumption) ?_ | refine br_ef (by assumption) ?_); conv => whnf)
                          | ((with_reducible first | refine br_dec (fun h => ?_) (fun h => ?_) | refine br_ndec (fun h => ?_) (fun h => ?_) | refine br_ne (fun h => ?_) (fun h => ?_) | refine br_eq (fun h => ?_) (fun h => ?_)) <;> first | (exfalso; omega) | conv => whnf)
                          | (refine br_intro (fun h => ?_) (fun h => ?_) <;> conv => whnf)
                          | ((first | refine need_in (by first | exact trivial | assumption | exact ⟨rfl, Nat.le_refl _⟩ | exact ⟨rfl, rfl⟩ | (simp only [inR]; omega) | omega | (simp only [roomP, true_and, and_true, List.length_take, List.length_drop, List.length_append, List.length_cons, List.length_nil, List.length_set, List.length_replicate]; omega) | (refine ⟨by first | exact trivial | rfl, by first | exact Nat.le_refl _ | omega | (simp; omega), ?_⟩; change roomP _ _ 1; simp only [roomP]; omega) | (change roomP _ _ 1; simp only [roomP]; omega) | (simp; omega) | (simp [inR]; omega) | (simp [inR]; done) | decide | (simp; done)) ?_ | refine idx_nat (by omega) (fun x hx => ?_) | refine draw_plain ?_ | refine idx_intro (by first | omega | (simp; omega) | (simp; done)) (by first | omega | (simp; omega) | (simp; done)) (fun x hx => ?_)); conv => whnf)
                        refine .mk [.frz 3 [159, 18] []] ?_
                        conv => whnf
                        repeat' first
                          | ((first | refine idx_kn (by assumption) ?_ | refine idx_ki (by assumption) (by omega) ?_ | refine br_true (by first | with_reducible exact rfl | assumption | decide) ?_ | refine br_false (by first | with_reducible exact rfl | assumption | decide) ?_ | with_reducible first | refine br_kt (by assumption) ?_ | refine br_kf (by assumption) ?_ | refine br_nt (by assumption) ?_ | refine br_nf (by assumption) ?_ | refine br_et (by assumption) ?_ | refine br_ef (by assumption) ?_); conv => whnf)
                          | ((with_reducible first | refine br_dec (fun h => ?_) (fun h => ?_) | refine br_ndec (fun h => ?_) (fun h => ?_) | refine br_ne (fun h => ?_) (fun h => ?_) | refine br_eq (fun h => ?_) (fun h => ?_)) <;> first | (exfalso; omega) | conv => whnf)
                          | (refine br_intro (fun h => ?_) (fun h => ?_) <;> conv => whnf)
                          | ((first | refine need_in (by first | exact trivial | assumption | exact ⟨rfl, Nat.le_refl _⟩ | exact ⟨rfl, rfl⟩ | (simp only [inR]; omega) | omega | (simp only [roomP, true_and, and_true, List.length_take, List.length_drop, List.length_append, List.length_cons, List.length_nil, List.length_set, List.length_replicate]; omega) | (refine ⟨by first | exact trivial | rfl, by first | exact Nat.le_refl _ | omega | (simp; omega), ?_⟩; change roomP _ _ 1; simp only [roomP]; omega) | (change roomP _ _ 1; simp only [roomP]; omega) | (simp; omega) | (simp [inR]; omega) | (simp [inR]; done) | decide | (simp; done)) ?_ | refine idx_nat (by omega) (fun x hx => ?_) | refine frz_auto ?_ | refine draw_plain ?_ | refine idx_intro (by first | omega | (simp; omega) | (simp; done)) (by first | omega | (simp; omega) | (simp; done)) (fun x hx => ?_)); conv => whnf)
                        refine backP.mk [.mv 8 1] ?_
                        conv => whnf
                        refine ⟨⟨rfl, rfl⟩, ?_⟩
                        conv => whnf
                        repeat' first
                          | ((first | refine idx_kn (by assumption) ?_ | refine idx_ki (by assumption) (by omega) ?_ | refine br_true (by first | with_reducible exact rfl | assumption | decide) ?_ | refine br_false (by first | with_reducible exact rfl | assumption | decide) ?_ | with_reducible first | refine br_kt (by assumption) ?_ | refine br_kf (by assumption) ?_ | refine br_nt (by assumption) ?_ | refine br_nf (by assumption) ?_ | refine br_et (by assumption) ?_ | refine br_ef (by assumption) ?_); conv => whnf)
                          | ((with_reducible first | refine br_dec (fun h => ?_) (fun h => ?_) | refine br_ndec (fun h => ?_) (fun h => ?_) | refine br_ne (fun h => ?_) (fun h => ?_) | refine br_eq (fun h => ?_) (fun h => ?_)) <;> first | (exfalso; omega) | conv => whnf)
                          | (refine br_intro (fun h => ?_) (fun h => ?_) <;> conv => whnf)
                          | ((first | refine need_in (by first | exact trivial | assumption | exact ⟨rfl, Nat.le_refl _⟩ | exact ⟨rfl, rfl⟩ | (simp only [inR]; omega) | omega | (simp only [roomP, true_and, and_true, List.length_take, List.length_drop, List.length_append, List.length_cons, List.length_nil, List.length_set, List.length_replicate]; omega) | (refine ⟨by first | exact trivial | rfl, by first | exact Nat.le_refl _ | omega | (simp; omega), ?_⟩; change roomP _ _ 1; simp only [roomP]; omega) | (change roomP _ _ 1; simp only [roomP]; omega) | (simp; omega) | (simp [inR]; omega) | (simp [inR]; done) | decide | (simp; done)) ?_ | refine idx_nat (by omega) (fun x hx => ?_) | refine frz_auto ?_ | refine draw_plain ?_ | refine idx_intro (by first | omega | (simp; omega) | (simp; done)) (by first | omega | (simp; omega) | (simp; done)) (fun x hx => ?_)); conv => whnf)
                        refine backQ_in (by conv => whnf) rfl ⟨th2, g + 1, i + 1, vs_ex (hA1.trans (by rw [← hP])) rfl rfl, rfl, by omega, by omega, hin2⟩ ?_
                        show acts.length - ((i : Int) + 1).toNat < acts.length - (i : Int).toNat
                        omega
                  · have hqj : q < j0 := by
                      rcases Nat.lt_or_ge q j0 with h | h
                      · exact h
                      · have : q = j0 := by omega
                        subst this
                        rw [hj0] at hy
                        cases hy
                        exact absurd hk.symm hyk
                    conv => whnf
                    repeat' first
                      | ((first | refine idx_kn (by assumption) ?_ | refine idx_ki (by assumption) (by omega) ?_ | refine br_true (by first | with_reducible exact rfl | assumption | decide) ?_ | refine br_false (by first | with_reducible exact rfl | assumption | decide) ?_ | with_reducible first | refine br_kt (by assumption) ?_ | refine br_kf (by assumption) ?_ | refine br_nt (by assumption) ?_ | refine br_nf (by assumption) ?_ | refine br_et (by assumption) ?_ | refine br_ef (by assumption) ?_); conv => whnf)
                      | ((with_reducible first | refine br_dec (fun h => ?_) (fun h => ?_) | refine br_ndec (fun h => ?_) (fun h => ?_) | refine br_ne (fun h => ?_) (fun h => ?_) | refine br_eq (fun h => ?_) (fun h => ?_)) <;> first | (exfalso; omega) | conv => whnf)
                      | (refine br_intro (fun h => ?_) (fun h => ?_) <;> conv => whnf)
                      | ((first | refine need_in (by first | exact trivial | assumption | exact ⟨rfl, Nat.le_refl _⟩ | exact ⟨rfl, rfl⟩ | (simp only [inR]; omega) | omega | (simp only [roomP, true_and, and_true, List.length_take, List.length_drop, List.length_append, List.length_cons, List.length_nil, List.length_set, List.length_replicate]; omega) | (refine ⟨by first | exact trivial | rfl, by first | exact Nat.le_refl _ | omega | (simp; omega), ?_⟩; change roomP _ _ 1; simp only [roomP]; omega) | (change roomP _ _ 1; simp only [roomP]; omega) | (simp; omega) | (simp [inR]; omega) | (simp [inR]; done) | decide | (simp; done)) ?_ | refine idx_nat (by omega) (fun x hx => ?_) | refine frz_auto ?_ | refine draw_plain ?_ | refine idx_intro (by first | omega | (simp; omega) | (simp; done)) (by first | omega | (simp; omega) | (simp; done)) (fun x hx => ?_)); conv => whnf)
                    refine back_intro (by conv => whnf) rfl ⟨q + 1, rfl, rfl, by omega⟩ ?_
                    show j0 - ((q : Int) + 1).toNat < j0 - (q : Int).toNat
                    omega
                | false =>
                  have hthe' : inI (List.take th.length th) (a / 2 % ↑l.length) = false := by rw [List.take_length, hk]; exact hthe
                  have hin2 := hin
                  have hA1 : ofT [] (nowL l th) = ofT [] (nowL l th) := rfl
                  conv => whnf
                  repeat' first
                    | ((first | refine idx_kn (by assumption) ?_ | refine idx_ki (by assumption) (by omega) ?_ | refine br_true (by first | with_reducible exact rfl | assumption | decide) ?_ | refine br_false (by first | with_reducible exact rfl | assumption | decide) ?_ | with_reducible first | refine br_kt (by assumption) ?_ | refine br_kf (by assumption) ?_ | refine br_nt (by assumption) ?_ | refine br_nf (by assumption) ?_ | refine br_et (by assumption) ?_ | refine br_ef (by assumption) ?_); conv => whnf)
                    | ((with_reducible first | refine br_dec (fun h => ?_) (fun h => ?_) | refine br_ndec (fun h => ?_) (fun h => ?_) | refine br_ne (fun h => ?_) (fun h => ?_) | refine br_eq (fun h => ?_) (fun h => ?_)) <;> first | (exfalso; omega) | conv => whnf)
                    | (refine br_intro (fun h => ?_) (fun h => ?_) <;> conv => whnf)
                    | ((first | refine need_in (by first | exact trivial | assumption | exact ⟨rfl, Nat.le_refl _⟩ | exact ⟨rfl, rfl⟩ | (simp only [inR]; omega) | omega | (simp only [roomP, true_and, and_true, List.length_take, List.length_drop, List.length_append, List.length_cons, List.length_nil, List.length_set, List.length_replicate]; omega) | (refine ⟨by first | exact trivial | rfl, by first | exact Nat.le_refl _ | omega | (simp; omega), ?_⟩; change roomP _ _ 1; simp only [roomP]; omega) | (change roomP _ _ 1; simp only [roomP]; omega) | (simp; omega) | (simp [inR]; omega) | (simp [inR]; done) | decide | (simp; done)) ?_ | refine idx_nat (by omega) (fun x hx => ?_) | refine frz_auto ?_ | refine draw_plain ?_ | refine idx_intro (by first | omega | (simp; omega) | (simp; done)) (by first | omega | (simp; omega) | (simp; done)) (fun x hx => ?_)); conv => whnf)
                  refine loop_inv [] [18, 19] (fun vs h => ∃ j g2 : Nat, vs = [.own 2 g2 j, .int .i64 (j : Int)] ∧ h = [.dead, .arr 3 (.int .i64) th false g, .arr 29 (.sl (.int .i64)) (nowL l (List.take j th)) false g2] ∧ j ≤ (th).length) (fun vs _ => match vs with | [_, .int _ q] => (th).length - q.toNat | _ => 0) ?_
                  conv => whnf
                  refine ⟨⟨0, 0, rfl, rfl, Nat.zero_le _⟩, ?_⟩
                  rintro vs h' - ⟨j, g2, rfl, rfl, hj⟩
                  by_cases hjl : j < (th).length
                  · obtain ⟨x, hx2⟩ : ∃ x : Int, (th : List Int)[j]? = some x := ⟨_, List.getElem?_eq_getElem hjl⟩
                    obtain ⟨hx0, hx1⟩ := hin2 x (List.mem_of_getElem? hx2)
                    obtain ⟨ids2, hx3⟩ : ∃ ids : List Int, (l : List (List Int))[x.toNat]? = some ids := ⟨_, List.getElem?_eq_getElem (by omega)⟩
                    have hsn := nowL_snoc hx2 hx3
                    have hnl : (nowL l (List.take j th)).length = j := by rw [nowL_len, List.length_take]; omega
                    generalize hP : nowL l (List.take j th) = P at *
                    conv => whnf
                    repeat' first
                      | ((first | refine idx_kn (by assumption) ?_ | refine idx_ki (by assumption) (by omega) ?_ | refine br_true (by first | with_reducible exact rfl | assumption | decide) ?_ | refine br_false (by first | with_reducible exact rfl | assumption | decide) ?_ | with_reducible first | refine br_kt (by assumption) ?_ | refine br_kf (by assumption) ?_ | refine br_nt (by assumption) ?_ | refine br_nf (by assumption) ?_ | refine br_et (by assumption) ?_ | refine br_ef (by assumption) ?_); conv => whnf)
                      | ((with_reducible first | refine br_dec (fun h => ?_) (fun h => ?_) | refine br_ndec (fun h => ?_) (fun h => ?_) | refine br_ne (fun h => ?_) (fun h => ?_) | refine br_eq (fun h => ?_) (fun h => ?_)) <;> first | (exfalso; omega) | conv => whnf)
                      | (refine br_intro (fun h => ?_) (fun h => ?_) <;> conv => whnf)
                      | ((first | refine need_in (by first | exact trivial | assumption | exact ⟨rfl, Nat.le_refl _⟩ | exact ⟨rfl, rfl⟩ | (simp only [inR]; omega) | omega | (simp only [roomP, true_and, and_true, List.length_take, List.length_drop, List.length_append, List.length_cons, List.length_nil, List.length_set, List.length_replicate]; omega) | (refine ⟨by first | exact trivial | rfl, by first | exact Nat.le_refl _ | omega | (simp; omega), ?_⟩; change roomP _ _ 1; simp only [roomP]; omega) | (change roomP _ _ 1; simp only [roomP]; omega) | (simp; omega) | (simp [inR]; omega) | (simp [inR]; done) | decide | (simp; done)) ?_ | refine idx_nat (by omega) (fun x hx => ?_) | refine frz_auto ?_ | refine draw_plain ?_ | refine idx_intro (by first | omega | (simp; omega) | (simp; done)) (by first | omega | (simp; omega) | (simp; done)) (fun x hx => ?_)); conv => whnf)
                    refine back_intro (by conv => whnf) rfl ⟨j + 1, g2 + 1, rfl, congrArg (fun y => [.dead, .arr 3 (.int .i64) th false g, AObj.arr 29 (.sl (.int .i64)) y false (g2 + 1)]) ?_, by omega⟩ ?_
                    · rw [hsn]
                      show List.take j P ++ [ids2] = P ++ [ids2]
                      rw [← hnl, List.take_length]
                    · show (th).length - ((j : Int) + 1).toNat < (th).length - (j : Int).toNat
                      omega
                  · have hjn : j = (th).length := by omega
                    subst hjn
                    rw [List.take_length]
                    have hnl : (nowL l th).length = (th).length := nowL_len _ _
                    have hO1 : (ofL (List.take (th).length (nowL l th))).1 = ofT [] (nowL l th) := by rw [← hnl, List.take_length, now_of hg hin2 (by omega)]
                    have hO2 : (ofL (List.take (th).length (nowL l th))).2 = 0 := by rw [← hnl, List.take_length, now_of hg hin2 (by omega)]
                    have hO3 : (ofL (List.take (th).length (nowL l th))).1.length ≤ 500 := of_len _
                    have hO4 : (ofT [] (nowL l th)).length ≤ 500 := by rw [hA1]; exact now_len hg hin2
                    have hO5 : sameL rcT (ofL (List.take (th).length (nowL l th))).1 (ofT [] (nowL l th)) = true := by rw [hO1, hA1]; exact sameC_refl _
                    have hO6 : (!sameL rcT (ofL (List.take (th).length (nowL l th))).1 (ofT [] (nowL l th))) = false := by rw [hO5]; rfl
                    generalize hP : nowL l th = P at *
                    conv => whnf
                    repeat' first
                      | ((first | refine idx_kn (by assumption) ?_ | refine idx_ki (by assumption) (by omega) ?_ | refine br_true (by first | with_reducible exact rfl | assumption | decide) ?_ | refine br_false (by first | with_reducible exact rfl | assumption | decide) ?_ | with_reducible first | refine br_kt (by assumption) ?_ | refine br_kf (by assumption) ?_ | refine br_nt (by assumption) ?_ | refine br_nf (by assumption) ?_ | refine br_et (by assumption) ?_ | refine br_ef (by assumption) ?_); conv => whnf)
                      | ((with_reducible first | refine br_dec (fun h => ?_) (fun h => ?_) | refine br_ndec (fun h => ?_) (fun h => ?_) | refine br_ne (fun h => ?_) (fun h => ?_) | refine br_eq (fun h => ?_) (fun h => ?_)) <;> first | (exfalso; omega) | conv => whnf)
                      | (refine br_intro (fun h => ?_) (fun h => ?_) <;> conv => whnf)
                      | ((first | refine need_in (by first | exact trivial | assumption | exact ⟨rfl, Nat.le_refl _⟩ | exact ⟨rfl, rfl⟩ | (simp only [inR]; omega) | omega | (simp only [roomP, true_and, and_true, List.length_take, List.length_drop, List.length_append, List.length_cons, List.length_nil, List.length_set, List.length_replicate]; omega) | (refine ⟨by first | exact trivial | rfl, by first | exact Nat.le_refl _ | omega | (simp; omega), ?_⟩; change roomP _ _ 1; simp only [roomP]; omega) | (change roomP _ _ 1; simp only [roomP]; omega) | (simp; omega) | (simp [inR]; omega) | (simp [inR]; done) | decide | (simp; done)) ?_ | refine idx_nat (by omega) (fun x hx => ?_) | refine draw_plain ?_ | refine idx_intro (by first | omega | (simp; omega) | (simp; done)) (by first | omega | (simp; omega) | (simp; done)) (fun x hx => ?_)); conv => whnf)
                    refine .mk [.frz 2 [159, 18] []] ?_
                    conv => whnf
                    repeat' first
                      | ((first | refine idx_kn (by assumption) ?_ | refine idx_ki (by assumption) (by omega) ?_ | refine br_true (by first | with_reducible exact rfl | assumption | decide) ?_ | refine br_false (by first | with_reducible exact rfl | assumption | decide) ?_ | with_reducible first | refine br_kt (by assumption) ?_ | refine br_kf (by assumption) ?_ | refine br_nt (by assumption) ?_ | refine br_nf (by assumption) ?_ | refine br_et (by assumption) ?_ | refine br_ef (by assumption) ?_); conv => whnf)
                      | ((with_reducible first | refine br_dec (fun h => ?_) (fun h => ?_) | refine br_ndec (fun h => ?_) (fun h => ?_) | refine br_ne (fun h => ?_) (fun h => ?_) | refine br_eq (fun h => ?_) (fun h => ?_)) <;> first | (exfalso; omega) | conv => whnf)
                      | (refine br_intro (fun h => ?_) (fun h => ?_) <;> conv => whnf)
                      | ((first | refine need_in (by first | exact trivial | assumption | exact ⟨rfl, Nat.le_refl _⟩ | exact ⟨rfl, rfl⟩ | (simp only [inR]; omega) | omega | (simp only [roomP, true_and, and_true, List.length_take, List.length_drop, List.length_append, List.length_cons, List.length_nil, List.length_set, List.length_replicate]; omega) | (refine ⟨by first | exact trivial | rfl, by first | exact Nat.le_refl _ | omega | (simp; omega), ?_⟩; change roomP _ _ 1; simp only [roomP]; omega) | (change roomP _ _ 1; simp only [roomP]; omega) | (simp; omega) | (simp [inR]; omega) | (simp [inR]; done) | decide | (simp; done)) ?_ | refine idx_nat (by omega) (fun x hx => ?_) | refine frz_auto ?_ | refine draw_plain ?_ | refine idx_intro (by first | omega | (simp; omega) | (simp; done)) (by first | omega | (simp; omega) | (simp; done)) (fun x hx => ?_)); conv => whnf)
                    refine back_intro (by conv => whnf) rfl ⟨th, g, i + 1, vs_ex (by rw [← hP]) rfl rfl, rfl, by omega, by omega, hin2⟩ ?_
                    show acts.length - ((i : Int) + 1).toNat < acts.length - (i : Int).toNat
                    omega
            · have hii : i = acts.length := by omega
              obtain ⟨hH1, hHm⟩ := now_held hg hin (by omega)
              have hH2 : (heldR (ofT [] (nowL l th))).2 = 0 := by rw [hH1]
              have hHl := held_len (ofT [] (nowL l th))
              have hTl := now_len hg hin
              have hia' : ¬ i < acts.length := hia
              conv => whnf
              repeat' first
                | ((first | refine idx_kn (by assumption) ?_ | refine idx_ki (by assumption) (by omega) ?_ | refine br_true (by first | with_reducible exact rfl | assumption | decide) ?_ | refine br_false (by first | with_reducible exact rfl | assumption | decide) ?_ | with_reducible first | refine br_kt (by assumption) ?_ | refine br_kf (by assumption) ?_ | refine br_nt (by assumption) ?_ | refine br_nf (by assumption) ?_ | refine br_et (by assumption) ?_ | refine br_ef (by assumption) ?_); conv => whnf)
                | ((with_reducible first | refine br_dec (fun h => ?_) (fun h => ?_) | refine br_ndec (fun h => ?_) (fun h => ?_) | refine br_ne (fun h => ?_) (fun h => ?_) | refine br_eq (fun h => ?_) (fun h => ?_)) <;> first | (exfalso; omega) | conv => whnf)
                | (refine br_intro (fun h => ?_) (fun h => ?_) <;> conv => whnf)
                | ((first | refine need_in (by first | exact trivial | assumption | exact ⟨rfl, Nat.le_refl _⟩ | exact ⟨rfl, rfl⟩ | (simp only [inR]; omega) | omega | (simp only [roomP, true_and, and_true, List.length_take, List.length_drop, List.length_append, List.length_cons, List.length_nil, List.length_set, List.length_replicate]; omega) | (refine ⟨by first | exact trivial | rfl, by first | exact Nat.le_refl _ | omega | (simp; omega), ?_⟩; change roomP _ _ 1; simp only [roomP]; omega) | (change roomP _ _ 1; simp only [roomP]; omega) | (simp; omega) | (simp [inR]; omega) | (simp [inR]; done) | decide | (simp; done)) ?_ | refine idx_nat (by omega) (fun x hx => ?_) | refine frz_auto ?_ | refine draw_plain ?_ | refine idx_intro (by first | omega | (simp; omega) | (simp; done)) (by first | omega | (simp; omega) | (simp; done)) (fun x hx => ?_)); conv => whnf)
              refine loop_inv [] [24] (fun vs h => ∃ q : Nat, vs = [.int .i64 (q : Int)] ∧ h = [.dead, .arr 3 (.int .i64) th false g] ∧ q ≤ l.length) (fun vs _ => match vs with | [.int _ q] => l.length - q.toNat | _ => 0) ?_
              conv => whnf
              refine ⟨⟨0, rfl, rfl, Nat.zero_le _⟩, ?_⟩
              rintro vs h' - ⟨q, rfl, rfl, hq⟩
              by_cases hql : q < l.length
              · obtain ⟨row, hrow⟩ : ∃ row : List Int, (l : List (List Int))[q]? = some row := ⟨_, List.getElem?_eq_getElem hql⟩
                have hrl : row.length ≤ 500 := (lsE_zero (ofErr_zero.1 hg.err row (List.mem_of_getElem? hrow))).1
                conv => whnf
                repeat' first
                  | ((first | refine idx_kn (by assumption) ?_ | refine idx_ki (by assumption) (by omega) ?_ | refine br_true (by first | with_reducible exact rfl | assumption | decide) ?_ | refine br_false (by first | with_reducible exact rfl | assumption | decide) ?_ | with_reducible first | refine br_kt (by assumption) ?_ | refine br_kf (by assumption) ?_ | refine br_nt (by assumption) ?_ | refine br_nf (by assumption) ?_ | refine br_et (by assumption) ?_ | refine br_ef (by assumption) ?_); conv => whnf)
                  | ((with_reducible first | refine br_dec (fun h => ?_) (fun h => ?_) | refine br_ndec (fun h => ?_) (fun h => ?_) | refine br_ne (fun h => ?_) (fun h => ?_) | refine br_eq (fun h => ?_) (fun h => ?_)) <;> first | (exfalso; omega) | conv => whnf)
                  | (refine br_intro (fun h => ?_) (fun h => ?_) <;> conv => whnf)
                  | ((first | refine need_in (by first | exact trivial | assumption | exact ⟨rfl, Nat.le_refl _⟩ | exact ⟨rfl, rfl⟩ | (simp only [inR]; omega) | omega | (simp only [roomP, true_and, and_true, List.length_take, List.length_drop, List.length_append, List.length_cons, List.length_nil, List.length_set, List.length_replicate]; omega) | (refine ⟨by first | exact trivial | rfl, by first | exact Nat.le_refl _ | omega | (simp; omega), ?_⟩; change roomP _ _ 1; simp only [roomP]; omega) | (change roomP _ _ 1; simp only [roomP]; omega) | (simp; omega) | (simp [inR]; omega) | (simp [inR]; done) | decide | (simp; done)) ?_ | refine idx_nat (by omega) (fun x hx => ?_) | refine frz_auto ?_ | refine draw_plain ?_ | refine idx_intro (by first | omega | (simp; omega) | (simp; done)) (by first | omega | (simp; omega) | (simp; done)) (fun x hx => ?_)); conv => whnf)
                refine loop_inv [] [25] (fun vs h => ∃ p : Nat, vs = [.int .i64 (p : Int)] ∧ h = [.dead, .arr 3 (.int .i64) th false g] ∧ p ≤ row.length) (fun vs _ => match vs with | [.int _ p] => row.length - p.toNat | _ => 0) ?_
                conv => whnf
                refine ⟨⟨0, rfl, rfl, Nat.zero_le _⟩, ?_⟩
                rintro vs h' - ⟨p, rfl, rfl, hp⟩
                by_cases hpl : p < row.length
                · obtain ⟨x, hx⟩ : ∃ x : Int, (row : List Int)[p]? = some x := ⟨_, List.getElem?_eq_getElem hpl⟩
                  cases hthe : inI th (q : Int) with
                  | true =>
                    have hthe' : inI (List.take th.length th) (q : Int) = true := by rw [List.take_length]; exact hthe
                    have hhx : inI (heldR (ofT [] (nowL l th))).1 x = true := by
                      refine inI_iff.2 ((hHm x).2 ⟨row, ?_, inI_iff.2 (List.mem_of_getElem? hx)⟩)
                      refine List.mem_map.2 ⟨(q : Int), inI_iff.1 hthe, ?_⟩
                      rw [List.getD_eq_getElem?_getD, show (q : Int).toNat = q from rfl, hrow]; rfl
                    have hhx' : (!inI (heldR (ofT [] (nowL l th))).1 x) = false := by rw [hhx]; rfl
                    conv => whnf
                    repeat' first
                      | ((first | refine idx_kn (by assumption) ?_ | refine idx_ki (by assumption) (by omega) ?_ | refine br_true (by first | with_reducible exact rfl | assumption | decide) ?_ | refine br_false (by first | with_reducible exact rfl | assumption | decide) ?_ | with_reducible first | refine br_kt (by assumption) ?_ | refine br_kf (by assumption) ?_ | refine br_nt (by assumption) ?_ | refine br_nf (by assumption) ?_ | refine br_et (by assumption) ?_ | refine br_ef (by assumption) ?_); conv => whnf)
                      | ((with_reducible first | refine br_dec (fun h => ?_) (fun h => ?_) | refine br_ndec (fun h => ?_) (fun h => ?_) | refine br_ne (fun h => ?_) (fun h => ?_) | refine br_eq (fun h => ?_) (fun h => ?_)) <;> first | (exfalso; omega) | conv => whnf)
                      | (refine br_intro (fun h => ?_) (fun h => ?_) <;> conv => whnf)
                      | ((first | refine need_in (by first | exact trivial | assumption | exact ⟨rfl, Nat.le_refl _⟩ | exact ⟨rfl, rfl⟩ | (simp only [inR]; omega) | omega | (simp only [roomP, true_and, and_true, List.length_take, List.length_drop, List.length_append, List.length_cons, List.length_nil, List.length_set, List.length_replicate]; omega) | (refine ⟨by first | exact trivial | rfl, by first | exact Nat.le_refl _ | omega | (simp; omega), ?_⟩; change roomP _ _ 1; simp only [roomP]; omega) | (change roomP _ _ 1; simp only [roomP]; omega) | (simp; omega) | (simp [inR]; omega) | (simp [inR]; done) | decide | (simp; done)) ?_ | refine idx_nat (by omega) (fun x hx => ?_) | refine frz_auto ?_ | refine draw_plain ?_ | refine idx_intro (by first | omega | (simp; omega) | (simp; done)) (by first | omega | (simp; omega) | (simp; done)) (fun x hx => ?_)); conv => whnf)
                    refine back_intro (by conv => whnf) rfl ⟨p + 1, rfl, rfl, by omega⟩ ?_
                    show row.length - ((p : Int) + 1).toNat < row.length - (p : Int).toNat
                    omega
                  | false =>
                    have hthe' : inI (List.take th.length th) (q : Int) = false := by rw [List.take_length]; exact hthe
                    conv => whnf
                    repeat' first
                      | ((first | refine idx_kn (by assumption) ?_ | refine idx_ki (by assumption) (by omega) ?_ | refine br_true (by first | with_reducible exact rfl | assumption | decide) ?_ | refine br_false (by first | with_reducible exact rfl | assumption | decide) ?_ | with_reducible first | refine br_kt (by assumption) ?_ | refine br_kf (by assumption) ?_ | refine br_nt (by assumption) ?_ | refine br_nf (by assumption) ?_ | refine br_et (by assumption) ?_ | refine br_ef (by assumption) ?_); conv => whnf)
                      | ((with_reducible first | refine br_dec (fun h => ?_) (fun h => ?_) | refine br_ndec (fun h => ?_) (fun h => ?_) | refine br_ne (fun h => ?_) (fun h => ?_) | refine br_eq (fun h => ?_) (fun h => ?_)) <;> first | (exfalso; omega) | conv => whnf)
                      | (refine br_intro (fun h => ?_) (fun h => ?_) <;> conv => whnf)
                      | ((first | refine need_in (by first | exact trivial | assumption | exact ⟨rfl, Nat.le_refl _⟩ | exact ⟨rfl, rfl⟩ | (simp only [inR]; omega) | omega | (simp only [roomP, true_and, and_true, List.length_take, List.length_drop, List.length_append, List.length_cons, List.length_nil, List.length_set, List.length_replicate]; omega) | (refine ⟨by first | exact trivial | rfl, by first | exact Nat.le_refl _ | omega | (simp; omega), ?_⟩; change roomP _ _ 1; simp only [roomP]; omega) | (change roomP _ _ 1; simp only [roomP]; omega) | (simp; omega) | (simp [inR]; omega) | (simp [inR]; done) | decide | (simp; done)) ?_ | refine idx_nat (by omega) (fun x hx => ?_) | refine frz_auto ?_ | refine draw_plain ?_ | refine idx_intro (by first | omega | (simp; omega) | (simp; done)) (by first | omega | (simp; omega) | (simp; done)) (fun x hx => ?_)); conv => whnf)
                    refine back_intro (by conv => whnf) rfl ⟨p + 1, rfl, rfl, by omega⟩ ?_
                    show row.length - ((p : Int) + 1).toNat < row.length - (p : Int).toNat
                    omega
                · conv => whnf
                  repeat' first
                    | ((first | refine idx_kn (by assumption) ?_ | refine idx_ki (by assumption) (by omega) ?_ | refine br_true (by first | with_reducible exact rfl | assumption | decide) ?_ | refine br_false (by first | with_reducible exact rfl | assumption | decide) ?_ | with_reducible first | refine br_kt (by assumption) ?_ | refine br_kf (by assumption) ?_ | refine br_nt (by assumption) ?_ | refine br_nf (by assumption) ?_ | refine br_et (by assumption) ?_ | refine br_ef (by assumption) ?_); conv => whnf)
                    | ((with_reducible first | refine br_dec (fun h => ?_) (fun h => ?_) | refine br_ndec (fun h => ?_) (fun h => ?_) | refine br_ne (fun h => ?_) (fun h => ?_) | refine br_eq (fun h => ?_) (fun h => ?_)) <;> first | (exfalso; omega) | conv => whnf)
                    | (refine br_intro (fun h => ?_) (fun h => ?_) <;> conv => whnf)
                    | ((first | refine need_in (by first | exact trivial | assumption | exact ⟨rfl, Nat.le_refl _⟩ | exact ⟨rfl, rfl⟩ | (simp only [inR]; omega) | omega | (simp only [roomP, true_and, and_true, List.length_take, List.length_drop, List.length_append, List.length_cons, List.length_nil, List.length_set, List.length_replicate]; omega) | (refine ⟨by first | exact trivial | rfl, by first | exact Nat.le_refl _ | omega | (simp; omega), ?_⟩; change roomP _ _ 1; simp only [roomP]; omega) | (change roomP _ _ 1; simp only [roomP]; omega) | (simp; omega) | (simp [inR]; omega) | (simp [inR]; done) | decide | (simp; done)) ?_ | refine idx_nat (by omega) (fun x hx => ?_) | refine frz_auto ?_ | refine draw_plain ?_ | refine idx_intro (by first | omega | (simp; omega) | (simp; done)) (by first | omega | (simp; omega) | (simp; done)) (fun x hx => ?_)); conv => whnf)
                  refine back_intro (by conv => whnf) rfl ⟨q + 1, rfl, rfl, by omega⟩ ?_
                  show l.length - ((q : Int) + 1).toNat < l.length - (q : Int).toNat
                  omega
              · conv => whnf
                repeat' first
                  | ((first | refine idx_kn (by assumption) ?_ | refine idx_ki (by assumption) (by omega) ?_ | refine br_true (by first | with_reducible exact rfl | assumption | decide) ?_ | refine br_false (by first | with_reducible exact rfl | assumption | decide) ?_ | with_reducible first | refine br_kt (by assumption) ?_ | refine br_kf (by assumption) ?_ | refine br_nt (by assumption) ?_ | refine br_nf (by assumption) ?_ | refine br_et (by assumption) ?_ | refine br_ef (by assumption) ?_); conv => whnf)
                  | ((with_reducible first | refine br_dec (fun h => ?_) (fun h => ?_) | refine br_ndec (fun h => ?_) (fun h => ?_) | refine br_ne (fun h => ?_) (fun h => ?_) | refine br_eq (fun h => ?_) (fun h => ?_)) <;> first | (exfalso; omega) | conv => whnf)
                  | (refine br_intro (fun h => ?_) (fun h => ?_) <;> conv => whnf)
                  | ((first | refine need_in (by first | exact trivial | assumption | exact ⟨rfl, Nat.le_refl _⟩ | exact ⟨rfl, rfl⟩ | (simp only [inR]; omega) | omega | (simp only [roomP, true_and, and_true, List.length_take, List.length_drop, List.length_append, List.length_cons, List.length_nil, List.length_set, List.length_replicate]; omega) | (refine ⟨by first | exact trivial | rfl, by first | exact Nat.le_refl _ | omega | (simp; omega), ?_⟩; change roomP _ _ 1; simp only [roomP]; omega) | (change roomP _ _ 1; simp only [roomP]; omega) | (simp; omega) | (simp [inR]; omega) | (simp [inR]; done) | decide | (simp; done)) ?_ | refine idx_nat (by omega) (fun x hx => ?_) | refine frz_auto ?_ | refine draw_plain ?_ | refine idx_intro (by first | omega | (simp; omega) | (simp; done)) (by first | omega | (simp; omega) | (simp; done)) (fun x hx => ?_)); conv => whnf)
                refine loop_inv [] [26] (fun vs h => ∃ p : Nat, vs = [.int .i64 (p : Int)] ∧ h = [.dead, .arr 3 (.int .i64) th false g] ∧ p ≤ (heldR (ofT [] (nowL l th))).1.length) (fun vs _ => match vs with | [.int _ p] => (heldR (ofT [] (nowL l th))).1.length - p.toNat | _ => 0) ?_
                conv => whnf
                refine ⟨⟨0, rfl, rfl, Nat.zero_le _⟩, ?_⟩
                rintro vs h' - ⟨p, rfl, rfl, hp⟩
                by_cases hpl : p < (heldR (ofT [] (nowL l th))).1.length
                · obtain ⟨n, hn⟩ : ∃ n : Int, ((heldR (ofT [] (nowL l th))).1 : List Int)[p]? = some n := ⟨_, List.getElem?_eq_getElem hpl⟩
                  obtain ⟨idsn, hidsn, hidn⟩ := (hHm n).1 (List.mem_of_getElem? hn)
                  conv => whnf
                  repeat' first
                    | ((first | refine idx_kn (by assumption) ?_ | refine idx_ki (by assumption) (by omega) ?_ | refine br_true (by first | with_reducible exact rfl | assumption | decide) ?_ | refine br_false (by first | with_reducible exact rfl | assumption | decide) ?_ | with_reducible first | refine br_kt (by assumption) ?_ | refine br_kf (by assumption) ?_ | refine br_nt (by assumption) ?_ | refine br_nf (by assumption) ?_ | refine br_et (by assumption) ?_ | refine br_ef (by assumption) ?_); conv => whnf)
                    | ((with_reducible first | refine br_dec (fun h => ?_) (fun h => ?_) | refine br_ndec (fun h => ?_) (fun h => ?_) | refine br_ne (fun h => ?_) (fun h => ?_) | refine br_eq (fun h => ?_) (fun h => ?_)) <;> first | (exfalso; omega) | conv => whnf)
                    | (refine br_intro (fun h => ?_) (fun h => ?_) <;> conv => whnf)
                    | ((first | refine need_in (by first | exact trivial | assumption | exact ⟨rfl, Nat.le_refl _⟩ | exact ⟨rfl, rfl⟩ | (simp only [inR]; omega) | omega | (simp only [roomP, true_and, and_true, List.length_take, List.length_drop, List.length_append, List.length_cons, List.length_nil, List.length_set, List.length_replicate]; omega) | (refine ⟨by first | exact trivial | rfl, by first | exact Nat.le_refl _ | omega | (simp; omega), ?_⟩; change roomP _ _ 1; simp only [roomP]; omega) | (change roomP _ _ 1; simp only [roomP]; omega) | (simp; omega) | (simp [inR]; omega) | (simp [inR]; done) | decide | (simp; done)) ?_ | refine idx_nat (by omega) (fun x hx => ?_) | refine frz_auto ?_ | refine draw_plain ?_ | refine idx_intro (by first | omega | (simp; omega) | (simp; done)) (by first | omega | (simp; omega) | (simp; done)) (fun x hx => ?_)); conv => whnf)
                  refine loop_inv [] [27, 28] (fun vs h => ∃ q : Nat, vs = [.bool ((nowL l (List.take q th)).any fun ids => inI ids n), .int .i64 (q : Int)] ∧ h = [.dead, .arr 3 (.int .i64) th false g] ∧ q ≤ th.length) (fun vs _ => match vs with | [_, .int _ q] => th.length - q.toNat | _ => 0) ?_
                  conv => whnf
                  refine ⟨⟨0, rfl, rfl, Nat.zero_le _⟩, ?_⟩
                  rintro vs h' - ⟨q, rfl, rfl, hq⟩
                  by_cases hql : q < th.length
                  · obtain ⟨x, hx2⟩ : ∃ x : Int, (th : List Int)[q]? = some x := ⟨_, List.getElem?_eq_getElem hql⟩
                    obtain ⟨hx0, hx1⟩ := hin x (List.mem_of_getElem? hx2)
                    obtain ⟨ids2, hx3⟩ : ∃ ids : List Int, (l : List (List Int))[x.toNat]? = some ids := ⟨_, List.getElem?_eq_getElem (by omega)⟩
                    have hl2 : ids2.length ≤ 500 := (lsE_zero (ofErr_zero.1 hg.err ids2 (List.mem_of_getElem? hx3))).1
                    have hsn := nowL_snoc hx2 hx3
                    have hsa : ((nowL l (List.take (q + 1) th)).any fun ids => inI ids n) = (((nowL l (List.take q th)).any fun ids => inI ids n) || inI ids2 n) := by
                      rw [hsn, List.any_append]; simp
                    cases hb : (nowL l (List.take q th)).any fun ids => inI ids n with
                    | true =>
                      rw [hb, Bool.true_or] at hsa
                      conv => whnf
                      repeat' first
                        | ((first | refine idx_kn (by assumption) ?_ | refine idx_ki (by assumption) (by omega) ?_ | refine br_true (by first | with_reducible exact rfl | assumption | decide) ?_ | refine br_false (by first | with_reducible exact rfl | assumption | decide) ?_ | with_reducible first | refine br_kt (by assumption) ?_ | refine br_kf (by assumption) ?_ | refine br_nt (by assumption) ?_ | refine br_nf (by assumption) ?_ | refine br_et (by assumption) ?_ | refine br_ef (by assumption) ?_); conv => whnf)
                        | ((with_reducible first | refine br_dec (fun h => ?_) (fun h => ?_) | refine br_ndec (fun h => ?_) (fun h => ?_) | refine br_ne (fun h => ?_) (fun h => ?_) | refine br_eq (fun h => ?_) (fun h => ?_)) <;> first | (exfalso; omega) | conv => whnf)
                        | (refine br_intro (fun h => ?_) (fun h => ?_) <;> conv => whnf)
                        | ((first | refine need_in (by first | exact trivial | assumption | exact ⟨rfl, Nat.le_refl _⟩ | exact ⟨rfl, rfl⟩ | (simp only [inR]; omega) | omega | (simp only [roomP, true_and, and_true, List.length_take, List.length_drop, List.length_append, List.length_cons, List.length_nil, List.length_set, List.length_replicate]; omega) | (refine ⟨by first | exact trivial | rfl, by first | exact Nat.le_refl _ | omega | (simp; omega), ?_⟩; change roomP _ _ 1; simp only [roomP]; omega) | (change roomP _ _ 1; simp only [roomP]; omega) | (simp; omega) | (simp [inR]; omega) | (simp [inR]; done) | decide | (simp; done)) ?_ | refine idx_nat (by omega) (fun x hx => ?_) | refine frz_auto ?_ | refine draw_plain ?_ | refine idx_intro (by first | omega | (simp; omega) | (simp; done)) (by first | omega | (simp; omega) | (simp; done)) (fun x hx => ?_)); conv => whnf)
                      refine back_intro (by conv => whnf) rfl ⟨q + 1, congrArg (fun b => [AV.bool b, .int .i64 ((q : Int) + 1)]) hsa.symm, rfl, by omega⟩ ?_
                      show th.length - ((q : Int) + 1).toNat < th.length - (q : Int).toNat
                      omega
                    | false =>
                      rw [hb, Bool.false_or] at hsa
                      conv => whnf
                      repeat' first
                        | ((first | refine idx_kn (by assumption) ?_ | refine idx_ki (by assumption) (by omega) ?_ | refine br_true (by first | with_reducible exact rfl | assumption | decide) ?_ | refine br_false (by first | with_reducible exact rfl | assumption | decide) ?_ | with_reducible first | refine br_kt (by assumption) ?_ | refine br_kf (by assumption) ?_ | refine br_nt (by assumption) ?_ | refine br_nf (by assumption) ?_ | refine br_et (by assumption) ?_ | refine br_ef (by assumption) ?_); conv => whnf)
                        | ((with_reducible first | refine br_dec (fun h => ?_) (fun h => ?_) | refine br_ndec (fun h => ?_) (fun h => ?_) | refine br_ne (fun h => ?_) (fun h => ?_) | refine br_eq (fun h => ?_) (fun h => ?_)) <;> first | (exfalso; omega) | conv => whnf)
                        | (refine br_intro (fun h => ?_) (fun h => ?_) <;> conv => whnf)
                        | ((first | refine need_in (by first | exact trivial | assumption | exact ⟨rfl, Nat.le_refl _⟩ | exact ⟨rfl, rfl⟩ | (simp only [inR]; omega) | omega | (simp only [roomP, true_and, and_true, List.length_take, List.length_drop, List.length_append, List.length_cons, List.length_nil, List.length_set, List.length_replicate]; omega) | (refine ⟨by first | exact trivial | rfl, by first | exact Nat.le_refl _ | omega | (simp; omega), ?_⟩; change roomP _ _ 1; simp only [roomP]; omega) | (change roomP _ _ 1; simp only [roomP]; omega) | (simp; omega) | (simp [inR]; omega) | (simp [inR]; done) | decide | (simp; done)) ?_ | refine idx_nat (by omega) (fun x hx => ?_) | refine frz_auto ?_ | refine draw_plain ?_ | refine idx_intro (by first | omega | (simp; omega) | (simp; done)) (by first | omega | (simp; omega) | (simp; done)) (fun x hx => ?_)); conv => whnf)
                      refine back_intro (by conv => whnf) rfl ⟨q + 1, congrArg (fun b => [AV.bool b, .int .i64 ((q : Int) + 1)]) hsa.symm, rfl, by omega⟩ ?_
                      show th.length - ((q : Int) + 1).toNat < th.length - (q : Int).toNat
                      omega
                  · have hqn : q = th.length := by omega
                    subst hqn
                    have hb : ((nowL l (List.take th.length th)).any fun ids => inI ids n) = true := by
                      rw [List.take_length]
                      exact List.any_eq_true.2 ⟨idsn, hidsn, hidn⟩
                    have hb' : (!((nowL l (List.take th.length th)).any fun ids => inI ids n)) = false := by rw [hb]; rfl
                    conv => whnf
                    repeat' first
                      | ((first | refine idx_kn (by assumption) ?_ | refine idx_ki (by assumption) (by omega) ?_ | refine br_true (by first | with_reducible exact rfl | assumption | decide) ?_ | refine br_false (by first | with_reducible exact rfl | assumption | decide) ?_ | with_reducible first | refine br_kt (by assumption) ?_ | refine br_kf (by assumption) ?_ | refine br_nt (by assumption) ?_ | refine br_nf (by assumption) ?_ | refine br_et (by assumption) ?_ | refine br_ef (by assumption) ?_); conv => whnf)
                      | ((with_reducible first | refine br_dec (fun h => ?_) (fun h => ?_) | refine br_ndec (fun h => ?_) (fun h => ?_) | refine br_ne (fun h => ?_) (fun h => ?_) | refine br_eq (fun h => ?_) (fun h => ?_)) <;> first | (exfalso; omega) | conv => whnf)
                      | (refine br_intro (fun h => ?_) (fun h => ?_) <;> conv => whnf)
                      | ((first | refine need_in (by first | exact trivial | assumption | exact ⟨rfl, Nat.le_refl _⟩ | exact ⟨rfl, rfl⟩ | (simp only [inR]; omega) | omega | (simp only [roomP, true_and, and_true, List.length_take, List.length_drop, List.length_append, List.length_cons, List.length_nil, List.length_set, List.length_replicate]; omega) | (refine ⟨by first | exact trivial | rfl, by first | exact Nat.le_refl _ | omega | (simp; omega), ?_⟩; change roomP _ _ 1; simp only [roomP]; omega) | (change roomP _ _ 1; simp only [roomP]; omega) | (simp; omega) | (simp [inR]; omega) | (simp [inR]; done) | decide | (simp; done)) ?_ | refine idx_nat (by omega) (fun x hx => ?_) | refine frz_auto ?_ | refine draw_plain ?_ | refine idx_intro (by first | omega | (simp; omega) | (simp; done)) (by first | omega | (simp; omega) | (simp; done)) (fun x hx => ?_)); conv => whnf)
                    refine back_intro (by conv => whnf) rfl ⟨p + 1, rfl, rfl, by omega⟩ ?_
                    show (heldR (ofT [] (nowL l th))).1.length - ((p : Int) + 1).toNat < (heldR (ofT [] (nowL l th))).1.length - (p : Int).toNat
                    omega
                · conv => whnf
                  repeat' first
                    | ((first | refine idx_kn (by assumption) ?_ | refine idx_ki (by assumption) (by omega) ?_ | refine br_true (by first | with_reducible exact rfl | assumption | decide) ?_ | refine br_false (by first | with_reducible exact rfl | assumption | decide) ?_ | with_reducible first | refine br_kt (by assumption) ?_ | refine br_kf (by assumption) ?_ | refine br_nt (by assumption) ?_ | refine br_nf (by assumption) ?_ | refine br_et (by assumption) ?_ | refine br_ef (by assumption) ?_); conv => whnf)
                    | ((with_reducible first | refine br_dec (fun h => ?_) (fun h => ?_) | refine br_ndec (fun h => ?_) (fun h => ?_) | refine br_ne (fun h => ?_) (fun h => ?_) | refine br_eq (fun h => ?_) (fun h => ?_)) <;> first | (exfalso; omega) | conv => whnf)
                    | (refine br_intro (fun h => ?_) (fun h => ?_) <;> conv => whnf)
                    | ((first | refine need_in (by first | exact trivial | assumption | exact ⟨rfl, Nat.le_refl _⟩ | exact ⟨rfl, rfl⟩ | (simp only [inR]; omega) | omega | (simp only [roomP, true_and, and_true, List.length_take, List.length_drop, List.length_append, List.length_cons, List.length_nil, List.length_set, List.length_replicate]; omega) | (refine ⟨by first | exact trivial | rfl, by first | exact Nat.le_refl _ | omega | (simp; omega), ?_⟩; change roomP _ _ 1; simp only [roomP]; omega) | (change roomP _ _ 1; simp only [roomP]; omega) | (simp; omega) | (simp [inR]; omega) | (simp [inR]; done) | decide | (simp; done)) ?_ | refine idx_nat (by omega) (fun x hx => ?_) | refine frz_auto ?_ | refine draw_plain ?_ | refine idx_intro (by first | omega | (simp; omega) | (simp; done)) (by first | omega | (simp; omega) | (simp; done)) (fun x hx => ?_)); conv => whnf)
          · conv => whnf
            repeat' first
              | ((first | refine idx_kn (by assumption) ?_ | refine idx_ki (by assumption) (by omega) ?_ | refine br_true (by first | with_reducible exact rfl | assumption | decide) ?_ | refine br_false (by first | with_reducible exact rfl | assumption | decide) ?_ | with_reducible first | refine br_kt (by assumption) ?_ | refine br_kf (by assumption) ?_ | refine br_nt (by assumption) ?_ | refine br_nf (by assumption) ?_ | refine br_et (by assumption) ?_ | refine br_ef (by assumption) ?_); conv => whnf)
              | ((with_reducible first | refine br_dec (fun h => ?_) (fun h => ?_) | refine br_ndec (fun h => ?_) (fun h => ?_) | refine br_ne (fun h => ?_) (fun h => ?_) | refine br_eq (fun h => ?_) (fun h => ?_)) <;> first | (exfalso; omega) | conv => whnf)
              | (refine br_intro (fun h => ?_) (fun h => ?_) <;> conv => whnf)
              | ((first | refine need_in (by first | exact trivial | assumption | exact ⟨rfl, Nat.le_refl _⟩ | exact ⟨rfl, rfl⟩ | (simp only [inR]; omega) | omega | (simp only [roomP, true_and, and_true, List.length_take, List.length_drop, List.length_append, List.length_cons, List.length_nil, List.length_set, List.length_replicate]; omega) | (refine ⟨by first | exact trivial | rfl, by first | exact Nat.le_refl _ | omega | (simp; omega), ?_⟩; change roomP _ _ 1; simp only [roomP]; omega) | (change roomP _ _ 1; simp only [roomP]; omega) | (simp; omega) | (simp [inR]; omega) | (simp [inR]; done) | decide | (simp; done)) ?_ | refine idx_nat (by omega) (fun x hx => ?_) | refine frz_auto ?_ | refine draw_plain ?_ | refine idx_intro (by first | omega | (simp; omega) | (simp; done)) (by first | omega | (simp; omega) | (simp; done)) (fun x hx => ?_)); conv => whnf)
theorem lEx : ∀ es : Ty.Els lEx_T, tyOks lEx_T es → bodyA lEx_C (callN lEx_C lEx_N) Try.f6 (avTs lEx_T es) [] (fun v _ => v = .bool true) := by
  rintro ⟨l, acts, _⟩ ht
  refine lEx' l acts (fun a ha => ?_)
  have h : inR .u8 a := ht.2.1.2 a ha
  exact h
end Go.Proofs.Ytadckioheabliaa
