/-
  Entries that are newer than a number, by the code.
  What a buffer has of a key, by the reference; the law of finds.
  From a law's contract to its row: every argument reads behind the call as it read before.
-/
import Derived.Test.YtfnikjihjjniiaaCf
import Derived.Test.YtfnikjihjjniiaaRows
import Derived.Test.YtfnikjihjjniiaaC3
import Derived.Test.YtfnikjihjjniiaaE2
import Derived.ProofKit
namespace Go.Proofs.Ytfnikjihjjniiaa
open Av Bk

set_option maxRecDepth 100000 in
theorem fnOk_bSince : FnOk Try.prog 28 Try.f28 := ⟨by rfl, by kernel_rfl, by
  show okCode _ _ = true ∧ drawsOk _ = true
  exact ⟨by kernel_rfl, by kernel_rfl⟩⟩
set_option maxRecDepth 100000 in
theorem fnOk_bSince1 : FnOk Try.prog 42 Try.f42 := ⟨by rfl, by kernel_rfl, by
  show okCode _ _ = true ∧ drawsOk _ = true
  exact ⟨by kernel_rfl, by kernel_rfl⟩⟩
set_option maxRecDepth 100000 in
theorem fnOk_bSince2 : FnOk Try.prog 44 Try.f44 := ⟨by rfl, by kernel_rfl, by
  show okCode _ _ = true ∧ drawsOk _ = true
  exact ⟨by kernel_rfl, by kernel_rfl⟩⟩
set_option maxRecDepth 100000 in
theorem fnOk_delEnt : FnOk Try.prog 41 Try.f41 := ⟨by rfl, by kernel_rfl, by
  show okCode _ _ = true ∧ drawsOk _ = true
  exact ⟨by kernel_rfl, by kernel_rfl⟩⟩
set_option maxRecDepth 100000 in
theorem fnOk_idxEnt : FnOk Try.prog 49 Try.f49 := ⟨by rfl, by kernel_rfl, by
  show okCode _ _ = true ∧ drawsOk _ = true
  exact ⟨by kernel_rfl, by kernel_rfl⟩⟩
set_option maxRecDepth 100000 in
theorem fnOk_stbEnt : FnOk Try.prog 43 Try.f43 := ⟨by rfl, by kernel_rfl, by
  show okCode _ _ = true ∧ drawsOk _ = true
  exact ⟨by kernel_rfl, by kernel_rfl⟩⟩
set_option maxRecDepth 100000 in
theorem fnOk_stcEnt : FnOk Try.prog 50 Try.f50 := ⟨by rfl, by kernel_rfl, by
  show okCode _ _ = true ∧ drawsOk _ = true
  exact ⟨by kernel_rfl, by kernel_rfl⟩⟩
set_option maxRecDepth 100000 in
theorem fnOk_isrEnt : FnOk Try.prog 52 Try.f52 := ⟨by rfl, by kernel_rfl, by
  show okCode _ _ = true ∧ drawsOk _ = true
  exact ⟨by kernel_rfl, by kernel_rfl⟩⟩
set_option maxRecDepth 100000 in
theorem fnOk_cmpI64 : FnOk Try.prog 45 Try.f45 := ⟨by rfl, by kernel_rfl, by
  show okCode _ _ = true ∧ drawsOk _ = true
  exact ⟨by kernel_rfl, by kernel_rfl⟩⟩
set_option maxRecDepth 100000 in
theorem fnOk_nanI64 : FnOk Try.prog 51 Try.f51 := ⟨by rfl, by kernel_rfl, by
  show okCode _ _ = true ∧ drawsOk _ = true
  exact ⟨by kernel_rfl, by kernel_rfl⟩⟩
noncomputable def cx61 : Cx := ⟨tb, [(42, Try.f42), (44, Try.f44), (41, Try.f41), (49, Try.f49), (43, Try.f43), (50, Try.f50), (52, Try.f52), (45, Try.f45), (51, Try.f51)], [(24, .d spChB), (35, .f spClE)]⟩
theorem specs61 : SpecsOk Try.prog cx61.specs := .cons bChk_ok (.consF cloneE_ok .nil)
theorem fns61 : FnsOk Try.prog cx61.fns := .cons fnOk_bSince1 (.cons fnOk_bSince2 (.cons fnOk_delEnt (.cons fnOk_idxEnt (.cons fnOk_stbEnt (.cons fnOk_stcEnt (.cons fnOk_isrEnt (.cons fnOk_cmpI64 (.cons fnOk_nanI64 .nil))))))))
def nwQ (n : Int) (x : entT.El) : Bool := decide (n < sqE x)
theorem nwQ_le {n : Int} {x : entT.El} (h : x.2.2.2.1 ≤ n) : nwQ n x = false := decide_eq_false (by have h : sqE x ≤ n := h; omega)
theorem nwQ_gt {n : Int} {x : entT.El} (h : ¬ x.2.2.2.1 ≤ n) : nwQ n x = true := decide_eq_true (by have h : ¬ sqE x ≤ n := h; omega)
theorem srtQ_one (D Z : List entT.El) : D ++ Z = srtQ (D.take 1) ++ (D.drop 1 ++ Z) := by
  cases D <;> rfl
theorem srtQ_open {D Z S : List entT.El} {a : Nat} {x : entT.El} (hx : D[a]? = some x) (hS : S.length = a) : S ++ (D.drop a ++ Z) = S.take a ++ x :: (S.drop a ++ (D.drop (a + 1) ++ Z)) := by
  obtain ⟨h, rfl⟩ := List.getElem?_eq_some_iff.1 hx
  rw [List.take_of_length_le (by omega), List.drop_of_length_le (l := S) (by omega), List.drop_eq_getElem_cons h]
  rfl
theorem getQ1 {S R : List entT.El} {b : Nat} {x : entT.El} (hb : b ≤ S.length) : (S.take b ++ x :: (S.drop b ++ R))[b]? = some x := by
  rw [List.getElem?_append_right (by rw [List.length_take]; omega), List.length_take, show b - min b S.length = 0 by omega]
  rfl
theorem getQ0 {S R : List entT.El} {b : Nat} {x : entT.El} (h0 : 0 < b) (hb : b ≤ S.length) : (S.take b ++ x :: (S.drop b ++ R))[b - 1]? = S[b - 1]? := by
  rw [List.getElem?_append_left (by rw [List.length_take]; omega), List.getElem?_take, if_pos (by omega)]
theorem setQ {S R c : List entT.El} {b : Nat} {x y : entT.El} (h0 : 0 < b) (hb : b ≤ S.length) (hy : S[b - 1]? = some y) (hc : c = S.take b ++ x :: (S.drop b ++ R)) : (c.set b y).set (b - 1) x = S.take (b - 1) ++ x :: (S.drop (b - 1) ++ R) := by
  obtain ⟨k, rfl⟩ : ∃ k, b = k + 1 := ⟨b - 1, by omega⟩
  obtain ⟨hk, rfl⟩ := List.getElem?_eq_some_iff.1 hy
  simp only [Nat.add_sub_cancel] at hk ⊢
  have hl : (S.take k).length = k := by rw [List.length_take]; omega
  rw [hc, List.take_succ_eq_append_getElem hk, List.append_assoc, List.set_append_right _ _ (by omega), hl, show k + 1 - k = 1 by omega, List.set_append_right _ _ (by omega), hl, Nat.sub_self, List.drop_eq_getElem_cons hk]
  rfl
set_option maxRecDepth 100000 in
set_option maxHeartbeats 8000000 in
theorem bSince_ok : SpecOk Try.prog 28 spSince := by
  refine spec_body (C := cx61) mixed tbOk specs61 (callN_ok (C := cx61) mixed tbOk specs61 fns61 9) fnOk_bSince ?_
  intro ys p r h hp
  unfold spSince at h
  split at h
  · rename_i m l n
    cases h
    have hl := @chB_len m l
    by_cases hc : (chB m l).2 = 0
    · by_cases hn : n < 0
      · obtain ⟨e1, e2⟩ := since_neg hc hn
        conv => whnf
        repeat' first
          | ((first | refine auIk ?_ | refine auIi ?_ | refine auT ?_ | refine auF ?_ | with_reducible first | refine auKt ?_ | refine auKf ?_ | refine auNt ?_ | refine auNf ?_ | refine auEt ?_ | refine auEf ?_); conv => whnf)
          | ((with_reducible first | refine br_dec (fun h => ?_) (fun h => ?_) | refine br_ndec (fun h => ?_) (fun h => ?_) | refine br_ne (fun h => ?_) (fun h => ?_) | refine br_eq (fun h => ?_) (fun h => ?_)) <;> first | (exfalso; omega) | conv => whnf)
          | (refine br_intro (fun h => ?_) (fun h => ?_) <;> conv => whnf)
          | ((first | refine auNd ?_ | refine idx_nat (by omega) (fun x hx => ?_) | refine frz_auto ?_ | refine draw_plain ?_ | refine auIx (fun x hx => ?_)); conv => whnf)
        all_goals exact since_eq e2 e1
      · obtain ⟨e1, e2⟩ := since_ok hc hn
        have hl := hl hc
        rw [show AV.tup [.lst entT (siL m l n), .int .i64 (siE m l n)] = AV.tup [.lst entT (srtQ (newQ n l)), .int .i64 0] by rw [e1, e2]]
        conv => whnf
        repeat' first
          | ((first | refine auIk ?_ | refine auIi ?_ | refine auT ?_ | refine auF ?_ | with_reducible first | refine auKt ?_ | refine auKf ?_ | refine auNt ?_ | refine auNf ?_ | refine auEt ?_ | refine auEf ?_); conv => whnf)
          | ((with_reducible first | refine br_dec (fun h => ?_) (fun h => ?_) | refine br_ndec (fun h => ?_) (fun h => ?_) | refine br_ne (fun h => ?_) (fun h => ?_) | refine br_eq (fun h => ?_) (fun h => ?_)) <;> first | (exfalso; omega) | conv => whnf)
          | (refine br_intro (fun h => ?_) (fun h => ?_) <;> conv => whnf)
          | ((first | refine auNd ?_ | refine idx_nat (by omega) (fun x hx => ?_) | refine frz_auto ?_ | refine draw_plain ?_ | refine auIx (fun x hx => ?_)); conv => whnf)
        have hlm : (FRes.l ⟨35, entT, l⟩).length = l.length := rfl
        refine loop_inv [] [8] (fun vs h => ∃ i : Nat, vs = [.int .i64 (i : Int)] ∧ h = [.cells 24 [.int .i64 m, .lst entT l], .cells 2 [.int .i64 n], .arr 35 entT [] false 0, .arr 35 entT l false 0, .arr 35 entT [] false 0] ∧ i ≤ l.length ∧ ∀ p ∈ l.take i, nwQ n p = true) (fun vs _ => match vs with | [.int _ k] => l.length - k.toNat | _ => 0) ?_
        conv => whnf
        refine ⟨⟨0, rfl, rfl, by omega, by simp⟩, ?_⟩
        rintro vs h' - ⟨i, rfl, rfl, hi0, hall⟩
        by_cases hil : i < l.length
        · obtain ⟨x, hx⟩ : ∃ x, l[i]? = some x := ⟨_, List.getElem?_eq_getElem hil⟩
          conv => whnf
          repeat' first
            | ((first | refine auIk ?_ | refine auIi ?_ | refine auT ?_ | refine auF ?_ | with_reducible first | refine auKt ?_ | refine auKf ?_ | refine auNt ?_ | refine auNf ?_ | refine auEt ?_ | refine auEf ?_); conv => whnf)
            | ((with_reducible first | refine br_dec (fun h => ?_) (fun h => ?_) | refine br_ndec (fun h => ?_) (fun h => ?_) | refine br_ne (fun h => ?_) (fun h => ?_) | refine br_eq (fun h => ?_) (fun h => ?_)) <;> first | (exfalso; omega) | conv => whnf)
            | (refine br_intro (fun h => ?_) (fun h => ?_) <;> conv => whnf)
            | ((first | refine auNd ?_ | refine idx_nat (by omega) (fun x hx => ?_) | refine frz_auto ?_ | refine draw_plain ?_ | refine auIx (fun x hx => ?_)); conv => whnf)
          · have hq : nwQ n x = false := nwQ_le (by assumption)
            refine loop_inv [] [5, 6] (fun vs h => ∃ (i j : Nat) (cur : List entT.El), vs = [.int .i64 (i : Int), .int .i64 (j : Int)] ∧ h = [.cells 24 [.int .i64 m, .lst entT l], .cells 2 [.int .i64 n], .arr 35 entT [] false 0, .arr 35 entT cur false 0, .arr 35 entT [] false 0, .cells 35 [.str x.1, .str x.2.1, .bool x.2.2.1, .int .i64 x.2.2.2.1]] ∧ j ≤ l.length ∧ DelE (nwQ n) l cur i j) (fun vs _ => match vs with | [_, .int _ k] => l.length - k.toNat | _ => 0) ?_
            conv => whnf
            refine ⟨⟨i, i + 1, l, rfl, rfl, by omega, dele_start hall hx hq⟩, ?_⟩
            clear hi0 hall hil
            rintro vs h' - ⟨i, j, cur, rfl, rfl, hj, hd⟩
            have hij := hd.le
            have hcl := hd.len
            by_cases hjl : j < l.length
            · obtain ⟨y, hy⟩ : ∃ y, cur[j]? = some y := ⟨_, List.getElem?_eq_getElem (by omega)⟩
              conv => whnf
              repeat' first
                | ((first | refine auIk ?_ | refine auIi ?_ | refine auT ?_ | refine auF ?_ | with_reducible first | refine auKt ?_ | refine auKf ?_ | refine auNt ?_ | refine auNf ?_ | refine auEt ?_ | refine auEf ?_); conv => whnf)
                | ((with_reducible first | refine br_dec (fun h => ?_) (fun h => ?_) | refine br_ndec (fun h => ?_) (fun h => ?_) | refine br_ne (fun h => ?_) (fun h => ?_) | refine br_eq (fun h => ?_) (fun h => ?_)) <;> first | (exfalso; omega) | conv => whnf)
                | (refine br_intro (fun h => ?_) (fun h => ?_) <;> conv => whnf)
                | ((first | refine auNd ?_ | refine idx_nat (by omega) (fun x hx => ?_) | refine frz_auto ?_ | refine draw_plain ?_ | refine auIx (fun x hx => ?_)); conv => whnf)
              · have hq : nwQ n y = true := nwQ_gt h
                refine back_intro (by conv => whnf) rfl ⟨i + 1, j + 1, cur.set i y, rfl, rfl, by omega, dele_keep hd hjl hy hq⟩ ?_
                show l.length - ((j : Int) + 1).toNat < l.length - (j : Int).toNat
                omega
              · have hq : nwQ n y = false := nwQ_le h
                refine back_intro (by conv => whnf) rfl ⟨i, j + 1, cur, rfl, rfl, by omega, dele_drop hd hy hq⟩ ?_
                show l.length - ((j : Int) + 1).toNat < l.length - (j : Int).toNat
                omega
            · conv => whnf
              repeat' first
                | ((first | refine auIk ?_ | refine auIi ?_ | refine auT ?_ | refine auF ?_ | with_reducible first | refine auKt ?_ | refine auKf ?_ | refine auNt ?_ | refine auNf ?_ | refine auEt ?_ | refine auEf ?_); conv => whnf)
                | ((with_reducible first | refine br_dec (fun h => ?_) (fun h => ?_) | refine br_ndec (fun h => ?_) (fun h => ?_) | refine br_ne (fun h => ?_) (fun h => ?_) | refine br_eq (fun h => ?_) (fun h => ?_)) <;> first | (exfalso; omega) | conv => whnf)
                | (refine br_intro (fun h => ?_) (fun h => ?_) <;> conv => whnf)
                | ((first | refine auNd ?_ | refine idx_nat (by omega) (fun x hx => ?_) | refine frz_auto ?_ | refine draw_plain ?_ | refine auIx (fun x hx => ?_)); conv => whnf)
              obtain ⟨D, hDe⟩ : ∃ D, D = newQ n l := ⟨_, rfl⟩
              obtain ⟨Z, hZe⟩ : ∃ Z, Z = List.replicate (l.length - i) (mkE ⟨#[]⟩ ⟨#[]⟩ false 0) ++ List.drop (i + (l.length - i)) cur := ⟨_, rfl⟩
              have hDZ : List.take i cur ++ (List.replicate (l.length - i) (mkE ⟨#[]⟩ ⟨#[]⟩ false 0) ++ List.drop (i + (l.length - i)) cur) = D ++ Z := by
                rw [hDe, hZe, hd.hd, List.take_of_length_le (l := l) (by omega)]
                rfl
              have hDK : D.length = i := by
                have := congrArg List.length hd.hd
                rw [List.length_take, List.take_of_length_le (l := l) (by omega)] at this
                rw [hDe]
                show (List.filter (nwQ n) l).length = i
                omega
              refine loop_inv [] [7, 8] (fun vs h => ∃ c : List entT.El, vs = [.int .i64 0, .int .i64 20] ∧ h = [.cells 24 [.int .i64 m, .lst entT l], .cells 2 [.int .i64 n], .arr 35 entT [] false 0, .arr 35 entT c false 0, .arr 35 entT [] false 0, .cells 35 [.str x.1, .str x.2.1, .bool x.2.2.1, .int .i64 x.2.2.2.1]] ∧ c = D ++ Z) (fun _ _ => 0) ?_
              conv => whnf
              refine ⟨⟨_, rfl, rfl, hDZ⟩, ?_⟩
              clear hDZ
              rintro vs h' - ⟨c, rfl, rfl, hc0⟩
              conv => whnf
              repeat' first
                | ((first | refine auIk ?_ | refine auIi ?_ | refine auT ?_ | refine auF ?_ | with_reducible first | refine auKt ?_ | refine auKf ?_ | refine auNt ?_ | refine auNf ?_ | refine auEt ?_ | refine auEf ?_); conv => whnf)
                | ((with_reducible first | refine br_dec (fun h => ?_) (fun h => ?_) | refine br_ndec (fun h => ?_) (fun h => ?_) | refine br_ne (fun h => ?_) (fun h => ?_) | refine br_eq (fun h => ?_) (fun h => ?_)) <;> first | (exfalso; omega) | conv => whnf)
                | (refine br_intro (fun h => ?_) (fun h => ?_) <;> conv => whnf)
                | ((first | refine auNd ?_ | refine idx_nat (by omega) (fun x hx => ?_) | refine frz_auto ?_ | refine draw_plain ?_ | refine auIx (fun x hx => ?_)); conv => whnf)
              refine loop_inv [] [8] (fun vs h => ∃ (a : Nat) (c : List entT.El), vs = [.int .i64 (a : Int)] ∧ h = [.cells 24 [.int .i64 m, .lst entT l], .cells 2 [.int .i64 n], .arr 35 entT [] false 0, .arr 35 entT c false 0, .arr 35 entT [] false 0, .cells 35 [.str x.1, .str x.2.1, .bool x.2.2.1, .int .i64 x.2.2.2.1]] ∧ 1 ≤ a ∧ (a ≤ i ∨ a = 1) ∧ c = srtQ (D.take a) ++ (D.drop a ++ Z)) (fun vs _ => match vs with | [.int _ k] => i - k.toNat | _ => 0) ?_
              conv => whnf
              refine ⟨⟨1, _, rfl, rfl, Nat.le_refl _, .inr rfl, hc0.trans (srtQ_one D Z)⟩, ?_⟩
              clear hc0
              rintro vs h' - ⟨a, c, rfl, rfl, ha1, haK, hcc⟩
              by_cases haD : a < i
              · obtain ⟨x0, hx0⟩ : ∃ x, D[a]? = some x := ⟨_, List.getElem?_eq_getElem (by omega)⟩
                have hnx := srtQ_take hx0
                have hSl : (srtQ (D.take a)).length = a := by rw [srtQ_len, List.length_take]; omega
                have hcc1 : c = (srtQ (D.take a)).take a ++ x0 :: ((srtQ (D.take a)).drop a ++ (D.drop (a + 1) ++ Z)) := hcc.trans (srtQ_open hx0 hSl)
                clear hcc
                generalize srtQ (D.take a) = S at hnx hSl hcc1
                conv => whnf
                repeat' first
                  | ((first | refine auIk ?_ | refine auIi ?_ | refine auT ?_ | refine auF ?_ | with_reducible first | refine auKt ?_ | refine auKf ?_ | refine auNt ?_ | refine auNf ?_ | refine auEt ?_ | refine auEf ?_); conv => whnf)
                  | ((with_reducible first | refine br_dec (fun h => ?_) (fun h => ?_) | refine br_ndec (fun h => ?_) (fun h => ?_) | refine br_ne (fun h => ?_) (fun h => ?_) | refine br_eq (fun h => ?_) (fun h => ?_)) <;> first | (exfalso; omega) | conv => whnf)
                  | (refine br_intro (fun h => ?_) (fun h => ?_) <;> conv => whnf)
                  | ((first | refine auNd ?_ | refine idx_nat (by omega) (fun x hx => ?_) | refine frz_auto ?_ | refine draw_plain ?_ | refine auIx (fun x hx => ?_)); conv => whnf)
                refine loop_inv [] [9] (fun vs h => ∃ (b : Nat) (c : List entT.El), vs = [.int .i64 (b : Int)] ∧ h = [.cells 24 [.int .i64 m, .lst entT l], .cells 2 [.int .i64 n], .arr 35 entT [] false 0, .arr 35 entT c false 0, .arr 35 entT [] false 0, .cells 35 [.str x.1, .str x.2.1, .bool x.2.2.1, .int .i64 x.2.2.2.1]] ∧ b ≤ a ∧ c = S.take b ++ x0 :: (S.drop b ++ (D.drop (a + 1) ++ Z)) ∧ ∀ y ∈ S.drop b, ltQ x0 y = true) (fun vs _ => match vs with | [.int _ k] => k.toNat | _ => 0) ?_
                conv => whnf
                refine ⟨⟨a, _, rfl, rfl, Nat.le_refl _, hcc1, by rw [← hSl, List.drop_length]; intro y hy; cases hy⟩, ?_⟩
                clear hcc1
                rintro vs h' - ⟨b, c, rfl, rfl, hb, hcb, hat⟩
                have hcl : c.length = a + 1 + (D.drop (a + 1) ++ Z).length := by rw [hcb]; simp only [List.length_append, List.length_take, List.length_cons, List.length_drop]; omega
                have hg1 : c[b]? = some x0 := by rw [hcb]; exact getQ1 (by omega)
                by_cases hb0 : 0 < b
                · obtain ⟨y0, hy0⟩ : ∃ y, S[b - 1]? = some y := ⟨_, List.getElem?_eq_getElem (by omega)⟩
                  have hg0 : c[((b : Int) - 1).toNat]? = some y0 := by rw [show ((b : Int) - 1).toNat = b - 1 by omega, hcb, getQ0 hb0 (by omega)]; exact hy0
                  have hb1 : ((b : Int) - 1).toNat = b - 1 := by omega
                  by_cases hlt : x0.2.2.2.1 < y0.2.2.2.1
                  · conv => whnf
                    repeat' first
                      | ((first | refine auIk ?_ | refine auIi ?_ | refine auT ?_ | refine auF ?_ | with_reducible first | refine auKt ?_ | refine auKf ?_ | refine auNt ?_ | refine auNf ?_ | refine auEt ?_ | refine auEf ?_); conv => whnf)
                      | ((with_reducible first | refine br_dec (fun h => ?_) (fun h => ?_) | refine br_ndec (fun h => ?_) (fun h => ?_) | refine br_ne (fun h => ?_) (fun h => ?_) | refine br_eq (fun h => ?_) (fun h => ?_)) <;> first | (exfalso; omega) | conv => whnf)
                      | (refine br_intro (fun h => ?_) (fun h => ?_) <;> conv => whnf)
                      | ((first | refine auNd ?_ | refine idx_nat (by omega) (fun x hx => ?_) | refine frz_auto ?_ | refine draw_plain ?_ | refine auIx (fun x hx => ?_)); conv => whnf)
                    refine back_intro (by conv => whnf) rfl ⟨b - 1, _, congrArg (fun z : Int => [AV.int .i64 z]) (by omega), rfl, by omega, ?_, dropQ hb0 hy0 (decide_eq_true hlt) hat⟩ ?_
                    · rw [hb1]
                      exact setQ hb0 (by omega) hy0 hcb
                    · show ((b : Int) - 1).toNat < (b : Int).toNat
                      omega
                  · conv => whnf
                    repeat' first
                      | ((first | refine auIk ?_ | refine auIi ?_ | refine auT ?_ | refine auF ?_ | with_reducible first | refine auKt ?_ | refine auKf ?_ | refine auNt ?_ | refine auNf ?_ | refine auEt ?_ | refine auEf ?_); conv => whnf)
                      | ((with_reducible first | refine br_dec (fun h => ?_) (fun h => ?_) | refine br_ndec (fun h => ?_) (fun h => ?_) | refine br_ne (fun h => ?_) (fun h => ?_) | refine br_eq (fun h => ?_) (fun h => ?_)) <;> first | (exfalso; omega) | conv => whnf)
                      | (refine br_intro (fun h => ?_) (fun h => ?_) <;> conv => whnf)
                      | ((first | refine auNd ?_ | refine idx_nat (by omega) (fun x hx => ?_) | refine frz_auto ?_ | refine draw_plain ?_ | refine auIx (fun x hx => ?_)); conv => whnf)
                    all_goals
                      refine back_intro (by conv => whnf) rfl ⟨a + 1, c, rfl, rfl, by omega, .inl (by omega), ?_⟩ ?_
                      · rw [hnx, insQ_at hat (by omega) (.inr ⟨y0, hy0, decide_eq_false hlt⟩), hcb, List.append_assoc]
                        rfl
                      · show i - ((a : Int) + 1).toNat < i - (a : Int).toNat
                        omega
                · conv => whnf
                  repeat' first
                    | ((first | refine auIk ?_ | refine auIi ?_ | refine auT ?_ | refine auF ?_ | with_reducible first | refine auKt ?_ | refine auKf ?_ | refine auNt ?_ | refine auNf ?_ | refine auEt ?_ | refine auEf ?_); conv => whnf)
                    | ((with_reducible first | refine br_dec (fun h => ?_) (fun h => ?_) | refine br_ndec (fun h => ?_) (fun h => ?_) | refine br_ne (fun h => ?_) (fun h => ?_) | refine br_eq (fun h => ?_) (fun h => ?_)) <;> first | (exfalso; omega) | conv => whnf)
                    | (refine br_intro (fun h => ?_) (fun h => ?_) <;> conv => whnf)
                    | ((first | refine auNd ?_ | refine idx_nat (by omega) (fun x hx => ?_) | refine frz_auto ?_ | refine draw_plain ?_ | refine auIx (fun x hx => ?_)); conv => whnf)
                  refine back_intro (by conv => whnf) rfl ⟨a + 1, c, rfl, rfl, by omega, .inl (by omega), ?_⟩ ?_
                  · rw [hnx, insQ_at hat (by omega) (.inl (by omega)), hcb, List.append_assoc]
                    rfl
                  · show i - ((a : Int) + 1).toNat < i - (a : Int).toNat
                    omega
              · conv => whnf
                repeat' first
                  | ((first | refine auIk ?_ | refine auIi ?_ | refine auT ?_ | refine auF ?_ | with_reducible first | refine auKt ?_ | refine auKf ?_ | refine auNt ?_ | refine auNf ?_ | refine auEt ?_ | refine auEf ?_); conv => whnf)
                  | ((with_reducible first | refine br_dec (fun h => ?_) (fun h => ?_) | refine br_ndec (fun h => ?_) (fun h => ?_) | refine br_ne (fun h => ?_) (fun h => ?_) | refine br_eq (fun h => ?_) (fun h => ?_)) <;> first | (exfalso; omega) | conv => whnf)
                  | (refine br_intro (fun h => ?_) (fun h => ?_) <;> conv => whnf)
                  | ((first | refine auNd ?_ | refine idx_nat (by omega) (fun x hx => ?_) | refine frz_auto ?_ | refine draw_plain ?_ | refine auIx (fun x hx => ?_)); conv => whnf)
                refine loop_inv [] [6] (fun vs h => vs = [.int .i64 20] ∧ h = [.cells 24 [.int .i64 m, .lst entT l], .cells 2 [.int .i64 n], .arr 35 entT [] false 0, .arr 35 entT c false 0, .arr 35 entT [] false 0, .cells 35 [.str x.1, .str x.2.1, .bool x.2.2.1, .int .i64 x.2.2.2.1]]) (fun _ _ => 0) ?_
                conv => whnf
                refine ⟨⟨rfl, rfl⟩, ?_⟩
                rintro vs h' - ⟨rfl, rfl⟩
                have hfin : c.take D.length = srtQ (newQ n l) := by
                  rw [hcc, ← hDe, List.take_of_length_le (l := D) (by omega), List.take_append_of_le_length (by rw [srtQ_len]; exact Nat.le_refl _), List.take_of_length_le (by rw [srtQ_len]; exact Nat.le_refl _)]
                have hcn : D.length ≤ c.length := by
                  rw [hcc, List.length_append, srtQ_len, List.length_append, List.length_take, List.length_drop]
                  omega
                conv => whnf
                repeat' first
                  | ((first | refine auIk ?_ | refine auIi ?_ | refine auT ?_ | refine auF ?_ | with_reducible first | refine auKt ?_ | refine auKf ?_ | refine auNt ?_ | refine auNf ?_ | refine auEt ?_ | refine auEf ?_); conv => whnf)
                  | ((with_reducible first | refine br_dec (fun h => ?_) (fun h => ?_) | refine br_ndec (fun h => ?_) (fun h => ?_) | refine br_ne (fun h => ?_) (fun h => ?_) | refine br_eq (fun h => ?_) (fun h => ?_)) <;> first | (exfalso; omega) | conv => whnf)
                  | (refine br_intro (fun h => ?_) (fun h => ?_) <;> conv => whnf)
                  | ((first | refine auNd ?_ | refine idx_nat (by omega) (fun x hx => ?_) | refine frz_auto ?_ | refine draw_plain ?_ | refine auIx (fun x hx => ?_)); conv => whnf)
                all_goals
                  rw [← hfin, hDK]
                  rfl
          · have hq : nwQ n x = true := nwQ_gt (by assumption)
            refine back_intro (by conv => whnf) rfl ⟨i + 1, rfl, rfl, by omega, take_succ_all hall hx hq⟩ ?_
            show l.length - ((i : Int) + 1).toNat < l.length - (i : Int).toNat
            omega
        · conv => whnf
          repeat' first
            | ((first | refine auIk ?_ | refine auIi ?_ | refine auT ?_ | refine auF ?_ | with_reducible first | refine auKt ?_ | refine auKf ?_ | refine auNt ?_ | refine auNf ?_ | refine auEt ?_ | refine auEf ?_); conv => whnf)
            | ((with_reducible first | refine br_dec (fun h => ?_) (fun h => ?_) | refine br_ndec (fun h => ?_) (fun h => ?_) | refine br_ne (fun h => ?_) (fun h => ?_) | refine br_eq (fun h => ?_) (fun h => ?_)) <;> first | (exfalso; omega) | conv => whnf)
            | (refine br_intro (fun h => ?_) (fun h => ?_) <;> conv => whnf)
            | ((first | refine auNd ?_ | refine idx_nat (by omega) (fun x hx => ?_) | refine frz_auto ?_ | refine draw_plain ?_ | refine auIx (fun x hx => ?_)); conv => whnf)
          obtain ⟨D, hDe⟩ : ∃ D, D = newQ n l := ⟨_, rfl⟩
          have hDl : D = l := by
            rw [List.take_of_length_le (by omega)] at hall
            rw [hDe]
            exact List.filter_eq_self.2 hall
          obtain ⟨Z, hZe⟩ : ∃ Z : List entT.El, Z = [] := ⟨_, rfl⟩
          have hDZ : l = D ++ Z := by rw [hDl, hZe, List.append_nil]
          have hDK : D.length = l.length := by rw [hDl]
          refine loop_inv [] [7, 8] (fun vs h => ∃ c : List entT.El, vs = [.int .i64 0, .int .i64 20] ∧ h = [.cells 24 [.int .i64 m, .lst entT l], .cells 2 [.int .i64 n], .arr 35 entT [] false 0, .arr 35 entT c false 0, .arr 35 entT [] false 0] ∧ c = D ++ Z) (fun _ _ => 0) ?_
          conv => whnf
          refine ⟨⟨_, rfl, rfl, hDZ⟩, ?_⟩
          clear hDZ
          rintro vs h' - ⟨c, rfl, rfl, hc0⟩
          conv => whnf
          repeat' first
            | ((first | refine auIk ?_ | refine auIi ?_ | refine auT ?_ | refine auF ?_ | with_reducible first | refine auKt ?_ | refine auKf ?_ | refine auNt ?_ | refine auNf ?_ | refine auEt ?_ | refine auEf ?_); conv => whnf)
            | ((with_reducible first | refine br_dec (fun h => ?_) (fun h => ?_) | refine br_ndec (fun h => ?_) (fun h => ?_) | refine br_ne (fun h => ?_) (fun h => ?_) | refine br_eq (fun h => ?_) (fun h => ?_)) <;> first | (exfalso; omega) | conv => whnf)
            | (refine br_intro (fun h => ?_) (fun h => ?_) <;> conv => whnf)
            | ((first | refine auNd ?_ | refine idx_nat (by omega) (fun x hx => ?_) | refine frz_auto ?_ | refine draw_plain ?_ | refine auIx (fun x hx => ?_)); conv => whnf)
          refine loop_inv [] [8] (fun vs h => ∃ (a : Nat) (c : List entT.El), vs = [.int .i64 (a : Int)] ∧ h = [.cells 24 [.int .i64 m, .lst entT l], .cells 2 [.int .i64 n], .arr 35 entT [] false 0, .arr 35 entT c false 0, .arr 35 entT [] false 0] ∧ 1 ≤ a ∧ (a ≤ l.length ∨ a = 1) ∧ c = srtQ (D.take a) ++ (D.drop a ++ Z)) (fun vs _ => match vs with | [.int _ k] => l.length - k.toNat | _ => 0) ?_
          conv => whnf
          refine ⟨⟨1, _, rfl, rfl, Nat.le_refl _, .inr rfl, hc0.trans (srtQ_one D Z)⟩, ?_⟩
          clear hc0
          rintro vs h' - ⟨a, c, rfl, rfl, ha1, haK, hcc⟩
          by_cases haD : a < l.length
          · obtain ⟨x0, hx0⟩ : ∃ x, D[a]? = some x := ⟨_, List.getElem?_eq_getElem (by omega)⟩
            have hnx := srtQ_take hx0
            have hSl : (srtQ (D.take a)).length = a := by rw [srtQ_len, List.length_take]; omega
            have hcc1 : c = (srtQ (D.take a)).take a ++ x0 :: ((srtQ (D.take a)).drop a ++ (D.drop (a + 1) ++ Z)) := hcc.trans (srtQ_open hx0 hSl)
            clear hcc
            generalize srtQ (D.take a) = S at hnx hSl hcc1
            conv => whnf
            repeat' first
              | ((first | refine auIk ?_ | refine auIi ?_ | refine auT ?_ | refine auF ?_ | with_reducible first | refine auKt ?_ | refine auKf ?_ | refine auNt ?_ | refine auNf ?_ | refine auEt ?_ | refine auEf ?_); conv => whnf)
              | ((with_reducible first | refine br_dec (fun h => ?_) (fun h => ?_) | refine br_ndec (fun h => ?_) (fun h => ?_) | refine br_ne (fun h => ?_) (fun h => ?_) | refine br_eq (fun h => ?_) (fun h => ?_)) <;> first | (exfalso; omega) | conv => whnf)
              | (refine br_intro (fun h => ?_) (fun h => ?_) <;> conv => whnf)
              | ((first | refine auNd ?_ | refine idx_nat (by omega) (fun x hx => ?_) | refine frz_auto ?_ | refine draw_plain ?_ | refine auIx (fun x hx => ?_)); conv => whnf)
            refine loop_inv [] [9] (fun vs h => ∃ (b : Nat) (c : List entT.El), vs = [.int .i64 (b : Int)] ∧ h = [.cells 24 [.int .i64 m, .lst entT l], .cells 2 [.int .i64 n], .arr 35 entT [] false 0, .arr 35 entT c false 0, .arr 35 entT [] false 0] ∧ b ≤ a ∧ c = S.take b ++ x0 :: (S.drop b ++ (D.drop (a + 1) ++ Z)) ∧ ∀ y ∈ S.drop b, ltQ x0 y = true) (fun vs _ => match vs with | [.int _ k] => k.toNat | _ => 0) ?_
            conv => whnf
            refine ⟨⟨a, _, rfl, rfl, Nat.le_refl _, hcc1, by rw [← hSl, List.drop_length]; intro y hy; cases hy⟩, ?_⟩
            clear hcc1
            rintro vs h' - ⟨b, c, rfl, rfl, hb, hcb, hat⟩
            have hcl : c.length = a + 1 + (D.drop (a + 1) ++ Z).length := by rw [hcb]; simp only [List.length_append, List.length_take, List.length_cons, List.length_drop]; omega
            have hg1 : c[b]? = some x0 := by rw [hcb]; exact getQ1 (by omega)
            by_cases hb0 : 0 < b
            · obtain ⟨y0, hy0⟩ : ∃ y, S[b - 1]? = some y := ⟨_, List.getElem?_eq_getElem (by omega)⟩
              have hg0 : c[((b : Int) - 1).toNat]? = some y0 := by rw [show ((b : Int) - 1).toNat = b - 1 by omega, hcb, getQ0 hb0 (by omega)]; exact hy0
              have hb1 : ((b : Int) - 1).toNat = b - 1 := by omega
              by_cases hlt : x0.2.2.2.1 < y0.2.2.2.1
              · conv => whnf
                repeat' first
                  | ((first | refine auIk ?_ | refine auIi ?_ | refine auT ?_ | refine auF ?_ | with_reducible first | refine auKt ?_ | refine auKf ?_ | refine auNt ?_ | refine auNf ?_ | refine auEt ?_ | refine auEf ?_); conv => whnf)
                  | ((with_reducible first | refine br_dec (fun h => ?_) (fun h => ?_) | refine br_ndec (fun h => ?_) (fun h => ?_) | refine br_ne (fun h => ?_) (fun h => ?_) | refine br_eq (fun h => ?_) (fun h => ?_)) <;> first | (exfalso; omega) | conv => whnf)
                  | (refine br_intro (fun h => ?_) (fun h => ?_) <;> conv => whnf)
                  | ((first | refine auNd ?_ | refine idx_nat (by omega) (fun x hx => ?_) | refine frz_auto ?_ | refine draw_plain ?_ | refine auIx (fun x hx => ?_)); conv => whnf)
                refine back_intro (by conv => whnf) rfl ⟨b - 1, _, congrArg (fun z : Int => [AV.int .i64 z]) (by omega), rfl, by omega, ?_, dropQ hb0 hy0 (decide_eq_true hlt) hat⟩ ?_
                · rw [hb1]
                  exact setQ hb0 (by omega) hy0 hcb
                · show ((b : Int) - 1).toNat < (b : Int).toNat
                  omega
              · conv => whnf
                repeat' first
                  | ((first | refine auIk ?_ | refine auIi ?_ | refine auT ?_ | refine auF ?_ | with_reducible first | refine auKt ?_ | refine auKf ?_ | refine auNt ?_ | refine auNf ?_ | refine auEt ?_ | refine auEf ?_); conv => whnf)
                  | ((with_reducible first | refine br_dec (fun h => ?_) (fun h => ?_) | refine br_ndec (fun h => ?_) (fun h => ?_) | refine br_ne (fun h => ?_) (fun h => ?_) | refine br_eq (fun h => ?_) (fun h => ?_)) <;> first | (exfalso; omega) | conv => whnf)
                  | (refine br_intro (fun h => ?_) (fun h => ?_) <;> conv => whnf)
                  | ((first | refine auNd ?_ | refine idx_nat (by omega) (fun x hx => ?_) | refine frz_auto ?_ | refine draw_plain ?_ | refine auIx (fun x hx => ?_)); conv => whnf)
                all_goals
                  refine back_intro (by conv => whnf) rfl ⟨a + 1, c, rfl, rfl, by omega, .inl (by omega), ?_⟩ ?_
                  · rw [hnx, insQ_at hat (by omega) (.inr ⟨y0, hy0, decide_eq_false hlt⟩), hcb, List.append_assoc]
                    rfl
                  · show l.length - ((a : Int) + 1).toNat < l.length - (a : Int).toNat
                    omega
            · conv => whnf
              repeat' first
                | ((first | refine auIk ?_ | refine auIi ?_ | refine auT ?_ | refine auF ?_ | with_reducible first | refine auKt ?_ | refine auKf ?_ | refine auNt ?_ | refine auNf ?_ | refine auEt ?_ | refine auEf ?_); conv => whnf)
                | ((with_reducible first | refine br_dec (fun h => ?_) (fun h => ?_) | refine br_ndec (fun h => ?_) (fun h => ?_) | refine br_ne (fun h => ?_) (fun h => ?_) | refine br_eq (fun h => ?_) (fun h => ?_)) <;> first | (exfalso; omega) | conv => whnf)
                | (refine br_intro (fun h => ?_) (fun h => ?_) <;> conv => whnf)
                | ((first | refine auNd ?_ | refine idx_nat (by omega) (fun x hx => ?_) | refine frz_auto ?_ | refine draw_plain ?_ | refine auIx (fun x hx => ?_)); conv => whnf)
              refine back_intro (by conv => whnf) rfl ⟨a + 1, c, rfl, rfl, by omega, .inl (by omega), ?_⟩ ?_
              · rw [hnx, insQ_at hat (by omega) (.inl (by omega)), hcb, List.append_assoc]
                rfl
              · show l.length - ((a : Int) + 1).toNat < l.length - (a : Int).toNat
                omega
          · conv => whnf
            repeat' first
              | ((first | refine auIk ?_ | refine auIi ?_ | refine auT ?_ | refine auF ?_ | with_reducible first | refine auKt ?_ | refine auKf ?_ | refine auNt ?_ | refine auNf ?_ | refine auEt ?_ | refine auEf ?_); conv => whnf)
              | ((with_reducible first | refine br_dec (fun h => ?_) (fun h => ?_) | refine br_ndec (fun h => ?_) (fun h => ?_) | refine br_ne (fun h => ?_) (fun h => ?_) | refine br_eq (fun h => ?_) (fun h => ?_)) <;> first | (exfalso; omega) | conv => whnf)
              | (refine br_intro (fun h => ?_) (fun h => ?_) <;> conv => whnf)
              | ((first | refine auNd ?_ | refine idx_nat (by omega) (fun x hx => ?_) | refine frz_auto ?_ | refine draw_plain ?_ | refine auIx (fun x hx => ?_)); conv => whnf)
            refine loop_inv [] [6] (fun vs h => vs = [.int .i64 20] ∧ h = [.cells 24 [.int .i64 m, .lst entT l], .cells 2 [.int .i64 n], .arr 35 entT [] false 0, .arr 35 entT c false 0, .arr 35 entT [] false 0]) (fun _ _ => 0) ?_
            conv => whnf
            refine ⟨⟨rfl, rfl⟩, ?_⟩
            rintro vs h' - ⟨rfl, rfl⟩
            have hfin : c.take D.length = srtQ (newQ n l) := by
              rw [hcc, ← hDe, List.take_of_length_le (l := D) (by omega), List.take_append_of_le_length (by rw [srtQ_len]; exact Nat.le_refl _), List.take_of_length_le (by rw [srtQ_len]; exact Nat.le_refl _)]
            have hcn : D.length ≤ c.length := by
              rw [hcc, List.length_append, srtQ_len, List.length_append, List.length_take, List.length_drop]
              omega
            conv => whnf
            repeat' first
              | ((first | refine auIk ?_ | refine auIi ?_ | refine auT ?_ | refine auF ?_ | with_reducible first | refine auKt ?_ | refine auKf ?_ | refine auNt ?_ | refine auNf ?_ | refine auEt ?_ | refine auEf ?_); conv => whnf)
              | ((with_reducible first | refine br_dec (fun h => ?_) (fun h => ?_) | refine br_ndec (fun h => ?_) (fun h => ?_) | refine br_ne (fun h => ?_) (fun h => ?_) | refine br_eq (fun h => ?_) (fun h => ?_)) <;> first | (exfalso; omega) | conv => whnf)
              | (refine br_intro (fun h => ?_) (fun h => ?_) <;> conv => whnf)
              | ((first | refine auNd ?_ | refine idx_nat (by omega) (fun x hx => ?_) | refine frz_auto ?_ | refine draw_plain ?_ | refine auIx (fun x hx => ?_)); conv => whnf)
            all_goals
              rw [← hfin, hDK]
    · obtain ⟨e1, e2⟩ := since_err hc (n := n)
      conv => whnf
      repeat' first
        | ((first | refine auIk ?_ | refine auIi ?_ | refine auT ?_ | refine auF ?_ | with_reducible first | refine auKt ?_ | refine auKf ?_ | refine auNt ?_ | refine auNf ?_ | refine auEt ?_ | refine auEf ?_); conv => whnf)
        | ((with_reducible first | refine br_dec (fun h => ?_) (fun h => ?_) | refine br_ndec (fun h => ?_) (fun h => ?_) | refine br_ne (fun h => ?_) (fun h => ?_) | refine br_eq (fun h => ?_) (fun h => ?_)) <;> first | (exfalso; omega) | conv => whnf)
        | (refine br_intro (fun h => ?_) (fun h => ?_) <;> conv => whnf)
        | ((first | refine auNd ?_ | refine idx_nat (by omega) (fun x hx => ?_) | refine frz_auto ?_ | refine draw_plain ?_ | refine auIx (fun x hx => ?_)); conv => whnf)
      all_goals exact since_eq e2 e1
  · cases h
end Go.Proofs.Ytfnikjihjjniiaa
namespace Go.Proofs.Ytfnikjihjjniiaa
open Av Bk

set_option maxRecDepth 100000 in
theorem fnOk_ref02C : FnOk Try.prog 40 Try.f40 := ⟨by rfl, by kernel_rfl, by
  show okCode _ _ = true ∧ drawsOk _ = true
  exact ⟨by kernel_rfl, by kernel_rfl⟩⟩
set_option maxRecDepth 100000 in
theorem ref02K_ok : SpecOk Try.prog 40 spKey := by
  refine spec_body (C := cx0) mixed tbOk SpecsOk.nil (callN_ok (C := cx0) mixed tbOk SpecsOk.nil FnsOk.nil 0) fnOk_ref02C ?_
  intro ys p r h hp
  unfold spKey at h
  split at h
  · rename_i k
    cases h
    conv => whnf
    repeat' first
      | ((first | refine auT ?_ | refine auF ?_ | with_reducible first | refine auKt ?_ | refine auKf ?_ | refine auNt ?_ | refine auNf ?_ | refine auEt ?_ | refine auEf ?_); conv => whnf)
      | ((with_reducible first | refine br_dec (fun h => ?_) (fun h => ?_) | refine br_ndec (fun h => ?_) (fun h => ?_) | refine br_ne (fun h => ?_) (fun h => ?_) | refine br_eq (fun h => ?_) (fun h => ?_)) <;> first | (exfalso; omega) | conv => whnf)
      | (refine br_intro (fun h => ?_) (fun h => ?_) <;> conv => whnf)
      | ((first | refine auNd ?_ | refine idx_nat (by omega) (fun x hx => ?_) | refine frz_auto ?_ | refine draw_plain ?_ | refine auIx (fun x hx => ?_)); conv => whnf)
    all_goals (refine congrArg (AV.int .i64) ?_; simp [*])
  · cases h
set_option maxRecDepth 100000 in
theorem fnOk_rGet : FnOk Try.prog 27 Try.f27 := ⟨by rfl, by kernel_rfl, by
  show okCode _ _ = true ∧ drawsOk _ = true
  exact ⟨by kernel_rfl, by kernel_rfl⟩⟩
noncomputable def cx62 : Cx := ⟨tb, [], [(25, spChB), (40, spKey)]⟩
theorem specs62 : SpecsOk Try.prog cx62.specs := .cons rChk_ok (.cons ref02K_ok .nil)
set_option maxRecDepth 100000 in
set_option maxHeartbeats 4000000 in
theorem rGet_ok : SpecOk Try.prog 27 spGet := by
  refine spec_body (C := cx62) mixed tbOk specs62 (callN_ok (C := cx62) mixed tbOk specs62 FnsOk.nil 0) fnOk_rGet ?_
  intro ys p r h hp
  unfold spGet at h
  split at h
  · rename_i m l key
    cases h
    have hne : (chB m l).2 ≠ 0 → gtE m l key = (chB m l).2 ∧ gtX m l key = mkE ⟨#[]⟩ ⟨#[]⟩ false 0 := fun hc => by
      have e : gtE m l key = (chB m l).2 := by rw [gtE, if_pos hc]
      exact ⟨e, by rw [gtX, if_neg (by rw [e]; exact hc)]⟩
    by_cases h0 : (chB m l).2 = 0
    · obtain ⟨a1, a2, a3, a4, a5⟩ := chB_zero h0
      by_cases hk : 32 < (key.size : Int)
      · have e : gtE m l key = 3 := by rw [gtE, if_neg (by simpa using h0), if_pos hk]
        have e2 : gtX m l key = mkE ⟨#[]⟩ ⟨#[]⟩ false 0 := by rw [gtX, if_neg (by rw [e]; decide)]
        conv => whnf
        repeat' first
          | ((first | refine auIk ?_ | refine auIi ?_ | refine auT ?_ | refine auF ?_ | with_reducible first | refine auKt ?_ | refine auKf ?_ | refine auNt ?_ | refine auNf ?_ | refine auEt ?_ | refine auEf ?_); conv => whnf)
          | ((with_reducible first | refine br_dec (fun h => ?_) (fun h => ?_) | refine br_ndec (fun h => ?_) (fun h => ?_) | refine br_ne (fun h => ?_) (fun h => ?_) | refine br_eq (fun h => ?_) (fun h => ?_)) <;> first | (exfalso; omega) | conv => whnf)
          | (refine br_intro (fun h => ?_) (fun h => ?_) <;> conv => whnf)
          | ((first | refine auNd ?_ | refine idx_nat (by omega) (fun x hx => ?_) | refine frz_auto ?_ | refine draw_plain ?_ | refine auIx (fun x hx => ?_)); conv => whnf)
        · exact get_eq (x := mkE ⟨#[]⟩ ⟨#[]⟩ false 0) e2 (by rw [e]; simp [hk])
        · exact absurd h (by simp [hk])
      · conv => whnf
        repeat' first
          | ((first | refine auIk ?_ | refine auIi ?_ | refine auT ?_ | refine auF ?_ | with_reducible first | refine auKt ?_ | refine auKf ?_ | refine auNt ?_ | refine auNf ?_ | refine auEt ?_ | refine auEf ?_); conv => whnf)
          | ((with_reducible first | refine br_dec (fun h => ?_) (fun h => ?_) | refine br_ndec (fun h => ?_) (fun h => ?_) | refine br_ne (fun h => ?_) (fun h => ?_) | refine br_eq (fun h => ?_) (fun h => ?_)) <;> first | (exfalso; omega) | conv => whnf)
          | (refine br_intro (fun h => ?_) (fun h => ?_) <;> conv => whnf)
          | ((first | refine auNd ?_ | refine idx_nat (by omega) (fun x hx => ?_) | refine frz_auto ?_ | refine draw_plain ?_ | refine auIx (fun x hx => ?_)); conv => whnf)
        · exact absurd h (by simp [hk])
        · refine loop_inv [] [8] (fun vs h => ∃ i : Nat, vs = [.int .i64 (i : Int)] ∧ h = [.cells 24 [.int .i64 m, .lst entT l], .cells 35 [.str ⟨#[]⟩, .str ⟨#[]⟩, .bool false, .int .i64 0]] ∧ i ≤ l.length ∧ ∀ y ∈ l.take i, ¬ y.1 = key) (fun vs _ => match vs with | [.int _ k] => l.length - k.toNat | _ => 0) ?_
          conv => whnf
          refine ⟨⟨0, rfl, rfl, Nat.zero_le _, by simp⟩, ?_⟩
          rintro vs h' - ⟨i, rfl, rfl, hi, hall⟩
          conv => whnf
          repeat' first
            | ((first | refine auIk ?_ | refine auIi ?_ | refine auT ?_ | refine auF ?_ | with_reducible first | refine auKt ?_ | refine auKf ?_ | refine auNt ?_ | refine auNf ?_ | refine auEt ?_ | refine auEf ?_); conv => whnf)
            | ((with_reducible first | refine br_dec (fun h => ?_) (fun h => ?_) | refine br_ndec (fun h => ?_) (fun h => ?_) | refine br_ne (fun h => ?_) (fun h => ?_) | refine br_eq (fun h => ?_) (fun h => ?_)) <;> first | (exfalso; omega) | conv => whnf)
            | (refine br_intro (fun h => ?_) (fun h => ?_) <;> conv => whnf)
            | ((first | refine auNd ?_ | refine idx_nat (by omega) (fun x hx => ?_) | refine frz_auto ?_ | refine draw_plain ?_ | refine auIx (fun x hx => ?_)); conv => whnf)
          · obtain ⟨e1, e2⟩ := lb_eq a4 hx (sEq_eq h)
            have e : gtE m l key = 0 := by rw [gtE, if_neg (by simpa using h0), if_neg hk, if_pos e2]
            exact get_eq (by rw [gtX, if_pos e, e1, hx]; rfl) e
          · refine back_intro (by conv => whnf) rfl ⟨i + 1, rfl, rfl, by omega, take_succ_all (p := fun y : entT.El => ¬ y.1 = key) hall hx (fun e => by rw [e, sEq_refl] at h; cases h)⟩ ?_
            show l.length - ((i : Int) + 1).toNat < l.length - (i : Int).toNat
            omega
          · rw [List.take_of_length_le (by omega)] at hall
            have hf : ¬ foundK key l = true := fun hf => by
              obtain ⟨y, hy, he⟩ := foundK_lt hf
              exact hall y (List.mem_of_getElem? hy) he
            have e : gtE m l key = 4 := by rw [gtE, if_neg (by simpa using h0), if_neg hk, if_neg hf]
            exact get_eq (x := mkE ⟨#[]⟩ ⟨#[]⟩ false 0) (y := gtX m l key) (by rw [gtX, if_neg (by rw [e]; decide)]) e
    · obtain ⟨e1, e2⟩ := hne h0
      conv => whnf
      repeat' first
        | ((first | refine auIk ?_ | refine auIi ?_ | refine auT ?_ | refine auF ?_ | with_reducible first | refine auKt ?_ | refine auKf ?_ | refine auNt ?_ | refine auNf ?_ | refine auEt ?_ | refine auEf ?_); conv => whnf)
        | ((with_reducible first | refine br_dec (fun h => ?_) (fun h => ?_) | refine br_ndec (fun h => ?_) (fun h => ?_) | refine br_ne (fun h => ?_) (fun h => ?_) | refine br_eq (fun h => ?_) (fun h => ?_)) <;> first | (exfalso; omega) | conv => whnf)
        | (refine br_intro (fun h => ?_) (fun h => ?_) <;> conv => whnf)
        | ((first | refine auNd ?_ | refine idx_nat (by omega) (fun x hx => ?_) | refine frz_auto ?_ | refine draw_plain ?_ | refine auIx (fun x hx => ?_)); conv => whnf)
      all_goals exact get_eq e2 e1
  · cases h
theorem siL_len {m : Int} {l : List entT.El} {n : Int} : (siL m l n).length ≤ l.length := by
  unfold siL
  split
  · rw [srtQ_len]; exact newQ_len _ _
  · exact Nat.zero_le _
set_option maxRecDepth 100000 in
theorem fnOk_lFi : FnOk Try.prog 9 Try.f9 := ⟨by rfl, by kernel_rfl, by
  show okCode _ _ = true ∧ drawsOk _ = true
  exact ⟨by kernel_rfl, by kernel_rfl⟩⟩
noncomputable def lFi_C : Cx := ⟨tb, [], [(11, spShown), (10, spLong), (26, spGet), (27, spGet), (28, spSince), (29, spSince), (21, spSame)]⟩
theorem lFi_D : SpecsOk Try.prog lFi_C.specs := .cons shown_ok (.cons lLong_ok (.cons bGet_ok (.cons rGet_ok (.cons bSince_ok (.cons rSince_ok (.cons rSameL_ok .nil))))))
theorem lFi_F : FnsOk Try.prog lFi_C.fns := FnsOk.nil
abbrev lFi_N : Nat := 0
abbrev lFi_T : List Ty := [bufT, .str, .int .i64]
abbrev lFi_FN := fnOk_lFi
set_option maxRecDepth 100000 in
set_option maxHeartbeats 4000000 in
theorem lFi : ∀ es : Ty.Els lFi_T, tyOks lFi_T es → bodyA lFi_C (callN lFi_C lFi_N) Try.f9 (avTs lFi_T es) [] (fun v _ => v = .bool true) := by
  rintro ⟨⟨m, l, _⟩, key, n, _⟩ -
  show bodyA _ _ _ [.agg [.int .i64 m, .lst entT l], .str key, .int .i64 n] [] _
  cases hL : longL l with
  | true =>
    conv => whnf
    repeat' first
      | ((first | refine auIk ?_ | refine auIi ?_ | refine auT ?_ | refine auF ?_ | with_reducible first | refine auKt ?_ | refine auKf ?_ | refine auNt ?_ | refine auNf ?_ | refine auEt ?_ | refine auEf ?_); conv => whnf)
      | ((with_reducible first | refine br_dec (fun h => ?_) (fun h => ?_) | refine br_ndec (fun h => ?_) (fun h => ?_) | refine br_ne (fun h => ?_) (fun h => ?_) | refine br_eq (fun h => ?_) (fun h => ?_)) <;> first | (exfalso; omega) | conv => whnf)
      | (refine br_intro (fun h => ?_) (fun h => ?_) <;> conv => whnf)
      | ((first | refine auNd ?_ | refine idx_nat (by omega) (fun x hx => ?_) | refine frz_auto ?_ | refine draw_plain ?_ | refine auIx (fun x hx => ?_)); conv => whnf)
  | false =>
    have hl := longL_len hL
    have hl : l.length ≤ 30 := hl
    have hs := siL_len (m := m) (l := l) (n := n)
    have hs : (siL m l n).length ≤ 4611686018427387904 := by omega
    have hr := same_refl (siL m l n)
    have hx := eqT_refl (gtX m l key)
    conv => whnf
    repeat' first
      | ((first | refine auIk ?_ | refine auIi ?_ | refine auT ?_ | refine auF ?_ | with_reducible first | refine auKt ?_ | refine auKf ?_ | refine auNt ?_ | refine auNf ?_ | refine auEt ?_ | refine auEf ?_); conv => whnf)
      | ((with_reducible first | refine br_dec (fun h => ?_) (fun h => ?_) | refine br_ndec (fun h => ?_) (fun h => ?_) | refine br_ne (fun h => ?_) (fun h => ?_) | refine br_eq (fun h => ?_) (fun h => ?_)) <;> first | (exfalso; omega) | conv => whnf)
      | (refine br_intro (fun h => ?_) (fun h => ?_) <;> conv => whnf)
      | ((first | refine auNd ?_ | refine idx_nat (by omega) (fun x hx => ?_) | refine frz_auto ?_ | refine draw_plain ?_ | refine auIx (fun x hx => ?_)); conv => whnf)
end Go.Proofs.Ytfnikjihjjniiaa
namespace Go.Proofs.Ytfnikjihjjniiaa
open Go.ChangeShapes Go.WideShapes Go.ChangeAt Go.RowKit Go.Joins Go.Deep Av

theorem Try.own : ownKnob Try.prog.godebug = none := by kernel_rfl
theorem Try.laidOut : laidOutB Try.prog = true := by kernel_rfl

section
variable {H : Type} {enc : TypeId × Value → H} {w : World}

/-- Every argument reads as it did. -/
theorem all_below {W W' : World} (hb : Below W.heap.size W W') : ∀ (ts : List TypeId) (vs : List Value) (ds : List (DataW H)) (ps : List MemPlace), (∀ t ∈ ts, Try.prog.readableRec t = true ∧ t < Try.prog.types.size) →
    DataW.TrodAll enc Try.prog W 0 (fun _ => true) true ts vs ds ps → (∀ x ∈ ps, x.block < W.heap.size) → DataW.TrodAll enc Try.prog W' 0 (fun b => decide (b < W.heap.size)) true ts vs ds ps
  | [], vs, ds, ps, _, h, _ => by
    obtain ⟨rfl, rfl, rfl⟩ := trodAll_nil h
    exact trodAll_mk0
  | t :: ts, vs, ds, ps, hr, h, hlt => by
    obtain ⟨v, vs', d, ds', p, q, rfl, rfl, rfl, h1, h2⟩ := trodAll_cons h
    obtain ⟨r1, r2⟩ := hr t (by simp)
    exact trodAll_cons_mk (Below.trod Try.laidOut r1 r2 h1 hb (fun x hx => hlt x (by simp [hx]))) (all_below hb ts vs' ds' q (fun t' ht' => hr t' (by simp [ht'])) h2 (fun x hx => hlt x (by simp [hx])))

/-- What the row asks of the end of a law. -/
theorem law_post {f : Func} {s : ChangeSpec} {W W' : World} {args : Array Value} {ds gs : List (DataW H)} {before : List MemPlace} (hW : DataW.Whole enc Try.prog f.params.toList s.vars false W args.toList ds gs before)
    (hv : s.vars = []) (hres : (s.fn H (ds ++ [])).results = [.lit (.bool true)]) (hargs : (s.fn H (ds ++ [])).args = ds) (hvs : (s.fn H (ds ++ [])).vars = []) (hR : f.resultTypes = #[4])
    (hr : ∀ t ∈ f.params.toList, Try.prog.readableRec t = true ∧ t < Try.prog.types.size) (hb : Below W.heap.size W W') :
    s.post enc Try.prog f false true false false W args (.bool true) W' := by
  have hlt := hW.lt
  have hW' := hW
  obtain ⟨p, q, hA, hV, rfl, _, _⟩ := hW
  rw [hv] at hV
  obtain ⟨rfl, rfl⟩ := trodVars_none hV
  refine ⟨ds, [], p ++ [], [], p, [], hW', ?_, ?_, ?_, hb.frame _, fun h => by cases h⟩
  · rw [hres, hR]
    exact trodAll_mk1 (shut_bool Try.underlying4 true)
  · rw [hargs]
    exact all_below hb _ _ _ _ hr hA (fun x hx => hlt x (by simp [hx]))
  · rw [hv, hvs]
    exact rfl


theorem trodAll_len {W : World} {base : Nat} {spare : Nat → Bool} {held : Bool} : ∀ {ts : List TypeId} {vs : List Value} {ds : List (DataW H)} {ps : List MemPlace}, DataW.TrodAll enc Try.prog W base spare held ts vs ds ps → ds.length = ts.length
  | [], vs, ds, ps, h => by
    obtain ⟨rfl, rfl, rfl⟩ := trodAll_nil h
    rfl
  | t :: ts, vs, ds, ps, h => by
    obtain ⟨v, vs', D, ds', p, q, rfl, rfl, rfl, h1, h2⟩ := trodAll_cons h
    simp only [List.length_cons, trodAll_len h2]
theorem arr_get {α : Type} {a : Array α} {j : Nat} {x : α} (h : a.toList[j]? = some x) : a[j]? = some x := by simpa using h
end
end Go.Proofs.Ytfnikjihjjniiaa
