/-
  Differences of two maps, by the reference and by the code.
  Differences of two maps, by the code.
  Tables: look-up and change by key. Plain Lean.
-/
import Derived.Test.YtbbklijmnknmhaaLd
namespace Go.Proofs.Ytbbklijmnknmhaa
open Av Bk

theorem own_u3 {id g n m : Nat} {c c' d d' : List pairT.El} (h : n = m) (hc : c = c') (hd : d = d') : [AV.lst pairT c, .lst pairT d, AV.own id g n] = [.lst pairT c', .lst pairT d', AV.own id g m] := by rw [h, hc, hd]
theorem tail_take {α : Type} {x : α} {l : List α} : List.take (((x :: l).length : Int).toNat - Int.toNat 1) (List.drop (Int.toNat 1) (x :: l)) = l := by simp
theorem heap_u2 {b : AObj} {T : TypeId} {t : Ty} {g : Nat} {l m : List t.El} (hl : l = m) : [b, .arr T t l false g] = [b, AObj.arr T t m false g] := by rw [hl]
set_option maxRecDepth 100000 in
theorem fnOk_r05Diff : FnOk Try.prog 20 Try.f20 := ⟨by rfl, by kernel_rfl, by
  show okCode _ _ = true ∧ drawsOk _ = true
  exact ⟨by kernel_rfl, by kernel_rfl⟩⟩
set_option maxRecDepth 100000 in
theorem fnOk_mDiff : FnOk Try.prog 19 Try.f19 := ⟨by rfl, by kernel_rfl, by
  show okCode _ _ = true ∧ drawsOk _ = true
  exact ⟨by kernel_rfl, by kernel_rfl⟩⟩
noncomputable def cxue : Cx := ⟨tb, [], [(15, spMC)]⟩
theorem specsue : SpecsOk Try.prog cxue.specs := .cons r05Check_ok .nil
noncomputable def cxue2 : Cx := ⟨tb, [], [(14, spMC), (57, spCmp)]⟩
theorem specsue2 : SpecsOk Try.prog cxue2.specs := .cons modelCheck_ok (.cons cmpStr_ok .nil)
set_option maxRecDepth 100000 in
set_option maxHeartbeats 4000000 in
theorem r05Diff_ok : SpecOk Try.prog 20 spDiff := by
  refine spec_body (C := cxue) mixed tbOk specsue (callN_ok (C := cxue) mixed tbOk specsue FnsOk.nil 0) fnOk_r05Diff ?_
  intro ys p r h hp
  unfold spDiff at h
  split at h
  · rename_i a b
    cases h
    obtain ⟨hp1, hp2⟩ := hp
    by_cases ha : (mcL a).2 = 0
    · by_cases hb : (mcL b).2 = 0
      · have hal := mcL_len ha
        have hbl := mcL_len hb
        rw [show dfR a b = (diffL a b, 0) by rw [dfR, if_neg (by simp [ha]), if_neg (by simp [hb])]]
        conv => whnf
        repeat' first
          | ((first | refine auIk ?_ | refine auIi ?_ | refine auT ?_ | refine auF ?_ | with_reducible first | refine auKt ?_ | refine auKf ?_ | refine auNt ?_ | refine auNf ?_ | refine auEt ?_ | refine auEf ?_); conv => whnf)
          | ((with_reducible first | refine br_dec (fun h => ?_) (fun h => ?_) | refine br_ndec (fun h => ?_) (fun h => ?_) | refine br_ne (fun h => ?_) (fun h => ?_) | refine br_eq (fun h => ?_) (fun h => ?_)) <;> first | (exfalso; omega) | conv => whnf)
          | (refine br_intro (fun h => ?_) (fun h => ?_) <;> conv => whnf)
          | ((first | refine auNd ?_ | refine idx_nat (by omega) (fun x hx => ?_) | refine frz_auto ?_ | refine draw_plain ?_ | refine auIx (fun x hx => ?_)); conv => whnf)
          | ((first | refine bx_idx ?_ | refine bx_intro (fun b hb => ?_)); conv => whnf)
        refine loop_inv [] [0, 1, 8] (fun vs h => ∃ (a' b' : List pairT.El) (g : Nat) (out : List itemT.El), vs = [.lst pairT a', .lst pairT b', .own 1 g out.length] ∧ h = [.arr 38 itemT [] false 0, .arr 38 itemT out false g] ∧ out ++ diffL a' b' = diffL a b ∧ out.length ≤ 8000) (fun vs _ => match vs with | [.lst _ a', .lst _ b', _] => a'.length + b'.length | _ => 0) ?_
        conv => whnf
        refine ⟨⟨a, b, 0, [], rfl, rfl, rfl, by simp⟩, ?_⟩
        rintro vs h' - ⟨a', b', g, out, rfl, rfl, ho, hol⟩
        have hle := diffL_len a b
        have hlo : out.length + (diffL a' b').length ≤ a.length + b.length := by rw [← ho, List.length_append] at hle; exact hle
        rcases a' with _ | ⟨x, a'⟩
        · rcases b' with _ | ⟨y, b'⟩
          · conv => whnf
            repeat' first
              | ((first | refine auIk ?_ | refine auIi ?_ | refine auT ?_ | refine auF ?_ | with_reducible first | refine auKt ?_ | refine auKf ?_ | refine auNt ?_ | refine auNf ?_ | refine auEt ?_ | refine auEf ?_); conv => whnf)
              | ((with_reducible first | refine br_dec (fun h => ?_) (fun h => ?_) | refine br_ndec (fun h => ?_) (fun h => ?_) | refine br_ne (fun h => ?_) (fun h => ?_) | refine br_eq (fun h => ?_) (fun h => ?_)) <;> first | (exfalso; omega) | conv => whnf)
              | (refine br_intro (fun h => ?_) (fun h => ?_) <;> conv => whnf)
              | ((first | refine auNd ?_ | refine idx_nat (by omega) (fun x hx => ?_) | refine frz_auto ?_ | refine draw_plain ?_ | refine auIx (fun x hx => ?_)); conv => whnf)
              | ((first | refine bx_idx ?_ | refine bx_intro (fun b hb => ?_)); conv => whnf)
            refine df_eq ?_
            rw [← ho]
            simp [cast_self, diffL]
          · have hy0 : (y :: b')[Int.toNat 0]? = some y := rfl
            have hly : (y :: b').length = b'.length + 1 := rfl
            rw [diffL_nil_cons, List.length_cons] at hlo
            conv => whnf
            repeat' first
              | ((first | refine auIk ?_ | refine auIi ?_ | refine auT ?_ | refine auF ?_ | with_reducible first | refine auKt ?_ | refine auKf ?_ | refine auNt ?_ | refine auNf ?_ | refine auEt ?_ | refine auEf ?_); conv => whnf)
              | ((with_reducible first | refine br_dec (fun h => ?_) (fun h => ?_) | refine br_ndec (fun h => ?_) (fun h => ?_) | refine br_ne (fun h => ?_) (fun h => ?_) | refine br_eq (fun h => ?_) (fun h => ?_)) <;> first | (exfalso; omega) | conv => whnf)
              | (refine br_intro (fun h => ?_) (fun h => ?_) <;> conv => whnf)
              | ((first | refine auNd ?_ | refine idx_nat (by omega) (fun x hx => ?_) | refine frz_auto ?_ | refine draw_plain ?_ | refine auIx (fun x hx => ?_)); conv => whnf)
              | ((first | refine bx_idx ?_ | refine bx_intro (fun b hb => ?_)); conv => whnf)
            refine back_intro (by conv => whnf) rfl ⟨[], b', g + 1, out ++ [newI y], own_u3 ?_ (by first | rfl | exact tail_take) (by first | rfl | exact tail_take), heap_u2 ?_, ?_, ?_⟩ ?_
            · rw [List.length_append]; rfl
            · simp only [cast_self, List.take_length]; rfl
            · rw [List.append_assoc]; rw [diffL_nil_cons] at ho; exact ho
            · rw [List.length_append]; simp only [List.length_cons, List.length_nil]; omega
            · show ([] : List pairT.El).length + (List.take (((y :: b').length : Int).toNat - Int.toNat 1) (List.drop (Int.toNat 1) (y :: b'))).length < ([] : List pairT.El).length + (y :: b').length
              rw [tail_take]
              simp only [List.length_cons]; omega
        · have hx0 : (x :: a')[Int.toNat 0]? = some x := rfl
          have hlx : (x :: a').length = a'.length + 1 := rfl
          rcases b' with _ | ⟨y, b'⟩
          · rw [diffL_cons_nil, List.length_cons] at hlo
            conv => whnf
            repeat' first
              | ((first | refine auIk ?_ | refine auIi ?_ | refine auT ?_ | refine auF ?_ | with_reducible first | refine auKt ?_ | refine auKf ?_ | refine auNt ?_ | refine auNf ?_ | refine auEt ?_ | refine auEf ?_); conv => whnf)
              | ((with_reducible first | refine br_dec (fun h => ?_) (fun h => ?_) | refine br_ndec (fun h => ?_) (fun h => ?_) | refine br_ne (fun h => ?_) (fun h => ?_) | refine br_eq (fun h => ?_) (fun h => ?_)) <;> first | (exfalso; omega) | conv => whnf)
              | (refine br_intro (fun h => ?_) (fun h => ?_) <;> conv => whnf)
              | ((first | refine auNd ?_ | refine idx_nat (by omega) (fun x hx => ?_) | refine frz_auto ?_ | refine draw_plain ?_ | refine auIx (fun x hx => ?_)); conv => whnf)
              | ((first | refine bx_idx ?_ | refine bx_intro (fun b hb => ?_)); conv => whnf)
            refine back_intro (by conv => whnf) rfl ⟨a', [], g + 1, out ++ [goneI x], own_u3 ?_ (by first | rfl | exact tail_take) (by first | rfl | exact tail_take), heap_u2 ?_, ?_, ?_⟩ ?_
            · rw [List.length_append]; rfl
            · simp only [cast_self, List.take_length]; rfl
            · rw [List.append_assoc]; rw [diffL_cons_nil] at ho; exact ho
            · rw [List.length_append]; simp only [List.length_cons, List.length_nil]; omega
            · show (List.take (((x :: a').length : Int).toNat - Int.toNat 1) (List.drop (Int.toNat 1) (x :: a'))).length + ([] : List pairT.El).length < (x :: a').length + ([] : List pairT.El).length
              rw [tail_take]
              simp only [List.length_cons]; omega
          · have hy0 : (y :: b')[Int.toNat 0]? = some y := rfl
            have hly : (y :: b').length = b'.length + 1 := rfl
            by_cases h1 : sLt x.1 y.1 = true
            · rw [diffL_lt a' b' h1, List.length_cons] at hlo
              conv => whnf
              repeat' first
                | ((first | refine auIk ?_ | refine auIi ?_ | refine auT ?_ | refine auF ?_ | with_reducible first | refine auKt ?_ | refine auKf ?_ | refine auNt ?_ | refine auNf ?_ | refine auEt ?_ | refine auEf ?_); conv => whnf)
                | ((with_reducible first | refine br_dec (fun h => ?_) (fun h => ?_) | refine br_ndec (fun h => ?_) (fun h => ?_) | refine br_ne (fun h => ?_) (fun h => ?_) | refine br_eq (fun h => ?_) (fun h => ?_)) <;> first | (exfalso; omega) | conv => whnf)
                | (refine br_intro (fun h => ?_) (fun h => ?_) <;> conv => whnf)
                | ((first | refine auNd ?_ | refine idx_nat (by omega) (fun x hx => ?_) | refine frz_auto ?_ | refine draw_plain ?_ | refine auIx (fun x hx => ?_)); conv => whnf)
                | ((first | refine bx_idx ?_ | refine bx_intro (fun b hb => ?_)); conv => whnf)
              refine back_intro (by conv => whnf) rfl ⟨a', y :: b', g + 1, out ++ [goneI x], own_u3 ?_ (by first | rfl | exact tail_take) (by first | rfl | exact tail_take), heap_u2 ?_, ?_, ?_⟩ ?_
              · rw [List.length_append]; rfl
              · simp only [cast_self, List.take_length]; rfl
              · rw [List.append_assoc]; rw [diffL_lt a' b' h1] at ho; exact ho
              · rw [List.length_append]; simp only [List.length_cons, List.length_nil]; omega
              · show (List.take (((x :: a').length : Int).toNat - Int.toNat 1) (List.drop (Int.toNat 1) (x :: a'))).length + (y :: b').length < (x :: a').length + (y :: b').length
                rw [tail_take]
                simp only [List.length_cons]; omega
            · have h1 : sLt x.1 y.1 = false := by simpa using h1
              by_cases h2 : sLt y.1 x.1 = true
              · rw [diffL_gt a' b' h2, List.length_cons] at hlo
                conv => whnf
                repeat' first
                  | ((first | refine auIk ?_ | refine auIi ?_ | refine auT ?_ | refine auF ?_ | with_reducible first | refine auKt ?_ | refine auKf ?_ | refine auNt ?_ | refine auNf ?_ | refine auEt ?_ | refine auEf ?_); conv => whnf)
                  | ((with_reducible first | refine br_dec (fun h => ?_) (fun h => ?_) | refine br_ndec (fun h => ?_) (fun h => ?_) | refine br_ne (fun h => ?_) (fun h => ?_) | refine br_eq (fun h => ?_) (fun h => ?_)) <;> first | (exfalso; omega) | conv => whnf)
                  | (refine br_intro (fun h => ?_) (fun h => ?_) <;> conv => whnf)
                  | ((first | refine auNd ?_ | refine idx_nat (by omega) (fun x hx => ?_) | refine frz_auto ?_ | refine draw_plain ?_ | refine auIx (fun x hx => ?_)); conv => whnf)
                  | ((first | refine bx_idx ?_ | refine bx_intro (fun b hb => ?_)); conv => whnf)
                refine back_intro (by conv => whnf) rfl ⟨x :: a', b', g + 1, out ++ [newI y], own_u3 ?_ (by first | rfl | exact tail_take) (by first | rfl | exact tail_take), heap_u2 ?_, ?_, ?_⟩ ?_
                · rw [List.length_append]; rfl
                · simp only [cast_self, List.take_length]; rfl
                · rw [List.append_assoc]; rw [diffL_gt a' b' h2] at ho; exact ho
                · rw [List.length_append]; simp only [List.length_cons, List.length_nil]; omega
                · show (x :: a').length + (List.take (((y :: b').length : Int).toNat - Int.toNat 1) (List.drop (Int.toNat 1) (y :: b'))).length < (x :: a').length + (y :: b').length
                  rw [tail_take]
                  simp only [List.length_cons]; omega
              · have h2 : sLt y.1 x.1 = false := by simpa using h2
                by_cases h3 : sEq x.2.1 y.2.1 = true
                · have h4 : (!sEq x.2.1 y.2.1) = false := by rw [h3]; rfl
                  conv => whnf
                  repeat' first
                    | ((first | refine auIk ?_ | refine auIi ?_ | refine auT ?_ | refine auF ?_ | with_reducible first | refine auKt ?_ | refine auKf ?_ | refine auNt ?_ | refine auNf ?_ | refine auEt ?_ | refine auEf ?_); conv => whnf)
                    | ((with_reducible first | refine br_dec (fun h => ?_) (fun h => ?_) | refine br_ndec (fun h => ?_) (fun h => ?_) | refine br_ne (fun h => ?_) (fun h => ?_) | refine br_eq (fun h => ?_) (fun h => ?_)) <;> first | (exfalso; omega) | conv => whnf)
                    | (refine br_intro (fun h => ?_) (fun h => ?_) <;> conv => whnf)
                    | ((first | refine auNd ?_ | refine idx_nat (by omega) (fun x hx => ?_) | refine frz_auto ?_ | refine draw_plain ?_ | refine auIx (fun x hx => ?_)); conv => whnf)
                    | ((first | refine bx_idx ?_ | refine bx_intro (fun b hb => ?_)); conv => whnf)
                  refine back_intro (by conv => whnf) rfl ⟨a', b', g, out, own_u3 rfl tail_take tail_take, rfl, by rw [diffL_eq a' b' h1 h2 h3] at ho; exact ho, hol⟩ ?_
                  show (List.take (((x :: a').length : Int).toNat - Int.toNat 1) (List.drop (Int.toNat 1) (x :: a'))).length + (List.take (((y :: b').length : Int).toNat - Int.toNat 1) (List.drop (Int.toNat 1) (y :: b'))).length < (x :: a').length + (y :: b').length
                  rw [tail_take, tail_take]
                  simp only [List.length_cons]; omega
                · have h3 : sEq x.2.1 y.2.1 = false := by simpa using h3
                  have h4 : (!sEq x.2.1 y.2.1) = true := by rw [h3]; rfl
                  rw [diffL_ne a' b' h1 h2 h3, List.length_cons] at hlo
                  conv => whnf
                  repeat' first
                    | ((first | refine auIk ?_ | refine auIi ?_ | refine auT ?_ | refine auF ?_ | with_reducible first | refine auKt ?_ | refine auKf ?_ | refine auNt ?_ | refine auNf ?_ | refine auEt ?_ | refine auEf ?_); conv => whnf)
                    | ((with_reducible first | refine br_dec (fun h => ?_) (fun h => ?_) | refine br_ndec (fun h => ?_) (fun h => ?_) | refine br_ne (fun h => ?_) (fun h => ?_) | refine br_eq (fun h => ?_) (fun h => ?_)) <;> first | (exfalso; omega) | conv => whnf)
                    | (refine br_intro (fun h => ?_) (fun h => ?_) <;> conv => whnf)
                    | ((first | refine auNd ?_ | refine idx_nat (by omega) (fun x hx => ?_) | refine frz_auto ?_ | refine draw_plain ?_ | refine auIx (fun x hx => ?_)); conv => whnf)
                    | ((first | refine bx_idx ?_ | refine bx_intro (fun b hb => ?_)); conv => whnf)
                  refine back_intro (by conv => whnf) rfl ⟨a', b', g + 1, out ++ [otherI x y], own_u3 ?_ (by first | rfl | exact tail_take) (by first | rfl | exact tail_take), heap_u2 ?_, ?_, ?_⟩ ?_
                  · rw [List.length_append]; rfl
                  · simp only [cast_self, List.take_length]; rfl
                  · rw [List.append_assoc]; rw [diffL_ne a' b' h1 h2 h3] at ho; exact ho
                  · rw [List.length_append]; simp only [List.length_cons, List.length_nil]; omega
                  · show (List.take (((x :: a').length : Int).toNat - Int.toNat 1) (List.drop (Int.toNat 1) (x :: a'))).length + (List.take (((y :: b').length : Int).toNat - Int.toNat 1) (List.drop (Int.toNat 1) (y :: b'))).length < (x :: a').length + (y :: b').length
                    rw [tail_take, tail_take]
                    simp only [List.length_cons]; omega
      · rw [show dfR a b = ([], (mcL b).2) by rw [dfR, if_neg (by simp [ha]), if_pos hb]]
        conv => whnf
        repeat' first
          | ((first | refine auIk ?_ | refine auIi ?_ | refine auT ?_ | refine auF ?_ | with_reducible first | refine auKt ?_ | refine auKf ?_ | refine auNt ?_ | refine auNf ?_ | refine auEt ?_ | refine auEf ?_); conv => whnf)
          | ((with_reducible first | refine br_dec (fun h => ?_) (fun h => ?_) | refine br_ndec (fun h => ?_) (fun h => ?_) | refine br_ne (fun h => ?_) (fun h => ?_) | refine br_eq (fun h => ?_) (fun h => ?_)) <;> first | (exfalso; omega) | conv => whnf)
          | (refine br_intro (fun h => ?_) (fun h => ?_) <;> conv => whnf)
          | ((first | refine auNd ?_ | refine idx_nat (by omega) (fun x hx => ?_) | refine frz_auto ?_ | refine draw_plain ?_ | refine auIx (fun x hx => ?_)); conv => whnf)
          | ((first | refine bx_idx ?_ | refine bx_intro (fun b hb => ?_)); conv => whnf)
        rfl
    · rw [show dfR a b = ([], (mcL a).2) by rw [dfR, if_pos ha]]
      conv => whnf
      repeat' first
        | ((first | refine auIk ?_ | refine auIi ?_ | refine auT ?_ | refine auF ?_ | with_reducible first | refine auKt ?_ | refine auKf ?_ | refine auNt ?_ | refine auNf ?_ | refine auEt ?_ | refine auEf ?_); conv => whnf)
        | ((with_reducible first | refine br_dec (fun h => ?_) (fun h => ?_) | refine br_ndec (fun h => ?_) (fun h => ?_) | refine br_ne (fun h => ?_) (fun h => ?_) | refine br_eq (fun h => ?_) (fun h => ?_)) <;> first | (exfalso; omega) | conv => whnf)
        | (refine br_intro (fun h => ?_) (fun h => ?_) <;> conv => whnf)
        | ((first | refine auNd ?_ | refine idx_nat (by omega) (fun x hx => ?_) | refine frz_auto ?_ | refine draw_plain ?_ | refine auIx (fun x hx => ?_)); conv => whnf)
        | ((first | refine bx_idx ?_ | refine bx_intro (fun b hb => ?_)); conv => whnf)
      rfl
  · cases h
end Go.Proofs.Ytbbklijmnknmhaa
namespace Go.Proofs.Ytbbklijmnknmhaa
open Av Bk

theorem ordS_is (a b : ByteArray) : ordS a b = if sLt a b = true then -1 else if sLt b a = true then 1 else 0 := rfl
theorem heap_u3 {b c : AObj} {T : TypeId} {t : Ty} {g : Nat} {l m : List t.El} (hl : l = m) : [b, c, .arr T t l false g] = [b, c, AObj.arr T t m false g] := by rw [hl]
set_option maxRecDepth 100000 in
set_option maxHeartbeats 4000000 in
theorem mDiff_ok : SpecOk Try.prog 19 spDiff := by
  refine spec_body (C := cxue2) mixed tbOk specsue2 (callN_ok (C := cxue2) mixed tbOk specsue2 FnsOk.nil 0) fnOk_mDiff ?_
  intro ys p r h hp
  unfold spDiff at h
  split at h
  · rename_i a b
    cases h
    obtain ⟨hp1, hp2⟩ := hp
    by_cases ha : (mcL a).2 = 0
    · by_cases hb : (mcL b).2 = 0
      · have hal := mcL_len ha
        have hbl := mcL_len hb
        rw [show dfR a b = (diffL a b, 0) by rw [dfR, if_neg (by simp [ha]), if_neg (by simp [hb])]]
        have q0 : ([a, b] : List (Ty.sl pairT).El)[Int.toNat 0]? = some a := rfl
        have q1 : ([a, b] : List (Ty.sl pairT).El)[Int.toNat (0 + 1)]? = some b := rfl
        conv => whnf
        repeat' first
          | ((first | refine auIk ?_ | refine auIi ?_ | refine auT ?_ | refine auF ?_ | with_reducible first | refine auKt ?_ | refine auKf ?_ | refine auNt ?_ | refine auNf ?_ | refine auEt ?_ | refine auEf ?_); conv => whnf)
          | ((with_reducible first | refine br_dec (fun h => ?_) (fun h => ?_) | refine br_ndec (fun h => ?_) (fun h => ?_) | refine br_ne (fun h => ?_) (fun h => ?_) | refine br_eq (fun h => ?_) (fun h => ?_)) <;> first | (exfalso; omega) | conv => whnf)
          | (refine br_intro (fun h => ?_) (fun h => ?_) <;> conv => whnf)
          | ((first | refine auNd ?_ | refine idx_nat (by omega) (fun x hx => ?_) | refine frz_auto ?_ | refine draw_plain ?_ | refine auIx (fun x hx => ?_)); conv => whnf)
          | ((first | refine bx_idx ?_ | refine bx_intro (fun b hb => ?_)); conv => whnf)
        refine loop_turns 3 ?_
        conv => whnf
        repeat' first
          | ((first | refine auIk ?_ | refine auIi ?_ | refine auT ?_ | refine auF ?_ | with_reducible first | refine auKt ?_ | refine auKf ?_ | refine auNt ?_ | refine auNf ?_ | refine auEt ?_ | refine auEf ?_); conv => whnf)
          | ((with_reducible first | refine br_dec (fun h => ?_) (fun h => ?_) | refine br_ndec (fun h => ?_) (fun h => ?_) | refine br_ne (fun h => ?_) (fun h => ?_) | refine br_eq (fun h => ?_) (fun h => ?_)) <;> first | (exfalso; omega) | conv => whnf)
          | (refine br_intro (fun h => ?_) (fun h => ?_) <;> conv => whnf)
          | ((first | refine auNd ?_ | refine idx_nat (by omega) (fun x hx => ?_) | refine frz_auto ?_ | refine draw_plain ?_ | refine auIx (fun x hx => ?_)); conv => whnf)
          | ((first | refine bx_idx ?_ | refine bx_intro (fun b hb => ?_)); conv => whnf)
        refine loop_inv [] [0, 1, 10] (fun vs h => ∃ (a' b' : List pairT.El) (g : Nat) (out : List itemT.El), vs = [.lst pairT a', .lst pairT b', .own 2 g out.length] ∧ h = [.arr 38 itemT [] false 0, .arr 22 (.sl pairT) [a, b] false 0, .arr 38 itemT out false g] ∧ out ++ diffL a' b' = diffL a b ∧ out.length ≤ 8000 ∧ a'.length ≤ 4000 ∧ b'.length ≤ 4000) (fun vs _ => match vs with | [.lst _ a', .lst _ b', _] => a'.length + b'.length | _ => 0) ?_
        conv => whnf
        refine ⟨⟨a, b, 0, [], rfl, rfl, rfl, by simp, hal, hbl⟩, ?_⟩
        rintro vs h' - ⟨a', b', g, out, rfl, rfl, ho, hol, hla, hlb⟩
        have hn0 : ([] : List pairT.El).length = 0 := rfl
        have hle := diffL_len a b
        have hlo : out.length + (diffL a' b').length ≤ a.length + b.length := by rw [← ho, List.length_append] at hle; exact hle
        rcases a' with _ | ⟨x, a'⟩
        · rcases b' with _ | ⟨y, b'⟩
          · conv => whnf
            repeat' first
              | ((first | refine auIk ?_ | refine auIi ?_ | refine auT ?_ | refine auF ?_ | with_reducible first | refine auKt ?_ | refine auKf ?_ | refine auNt ?_ | refine auNf ?_ | refine auEt ?_ | refine auEf ?_); conv => whnf)
              | ((with_reducible first | refine br_dec (fun h => ?_) (fun h => ?_) | refine br_ndec (fun h => ?_) (fun h => ?_) | refine br_ne (fun h => ?_) (fun h => ?_) | refine br_eq (fun h => ?_) (fun h => ?_)) <;> first | (exfalso; omega) | conv => whnf)
              | (refine br_intro (fun h => ?_) (fun h => ?_) <;> conv => whnf)
              | ((first | refine auNd ?_ | refine idx_nat (by omega) (fun x hx => ?_) | refine frz_auto ?_ | refine draw_plain ?_ | refine auIx (fun x hx => ?_)); conv => whnf)
              | ((first | refine bx_idx ?_ | refine bx_intro (fun b hb => ?_)); conv => whnf)
            refine df_eq ?_
            rw [← ho]
            simp [cast_self, diffL]
          · have hy0 : (y :: b')[Int.toNat 0]? = some y := rfl
            have hly : (y :: b').length = b'.length + 1 := rfl
            rw [diffL_nil_cons, List.length_cons] at hlo
            conv => whnf
            repeat' first
              | ((first | refine auIk ?_ | refine auIi ?_ | refine auT ?_ | refine auF ?_ | with_reducible first | refine auKt ?_ | refine auKf ?_ | refine auNt ?_ | refine auNf ?_ | refine auEt ?_ | refine auEf ?_); conv => whnf)
              | ((with_reducible first | refine br_dec (fun h => ?_) (fun h => ?_) | refine br_ndec (fun h => ?_) (fun h => ?_) | refine br_ne (fun h => ?_) (fun h => ?_) | refine br_eq (fun h => ?_) (fun h => ?_)) <;> first | (exfalso; omega) | conv => whnf)
              | (refine br_intro (fun h => ?_) (fun h => ?_) <;> conv => whnf)
              | ((first | refine auNd ?_ | refine idx_nat (by omega) (fun x hx => ?_) | refine frz_auto ?_ | refine draw_plain ?_ | refine auIx (fun x hx => ?_)); conv => whnf)
              | ((first | refine bx_idx ?_ | refine bx_intro (fun b hb => ?_)); conv => whnf)
            refine back_intro (by conv => whnf) rfl ⟨[], b', g + 1, out ++ [newI y], own_u3 ?_ (by first | rfl | exact tail_take) (by first | rfl | exact tail_take), heap_u3 ?_, ?_, ?_, by omega, by omega⟩ ?_
            · rw [List.length_append]; rfl
            · simp only [cast_self, List.take_length]; rfl
            · rw [List.append_assoc]; rw [diffL_nil_cons] at ho; exact ho
            · rw [List.length_append]; simp only [List.length_cons, List.length_nil]; omega
            · show ([] : List pairT.El).length + (List.take (((y :: b').length : Int).toNat - Int.toNat 1) (List.drop (Int.toNat 1) (y :: b'))).length < ([] : List pairT.El).length + (y :: b').length
              rw [tail_take]
              simp only [List.length_cons]; omega
        · have hx0 : (x :: a')[Int.toNat 0]? = some x := rfl
          have hlx : (x :: a').length = a'.length + 1 := rfl
          rcases b' with _ | ⟨y, b'⟩
          · rw [diffL_cons_nil, List.length_cons] at hlo
            conv => whnf
            repeat' first
              | ((first | refine auIk ?_ | refine auIi ?_ | refine auT ?_ | refine auF ?_ | with_reducible first | refine auKt ?_ | refine auKf ?_ | refine auNt ?_ | refine auNf ?_ | refine auEt ?_ | refine auEf ?_); conv => whnf)
              | ((with_reducible first | refine br_dec (fun h => ?_) (fun h => ?_) | refine br_ndec (fun h => ?_) (fun h => ?_) | refine br_ne (fun h => ?_) (fun h => ?_) | refine br_eq (fun h => ?_) (fun h => ?_)) <;> first | (exfalso; omega) | conv => whnf)
              | (refine br_intro (fun h => ?_) (fun h => ?_) <;> conv => whnf)
              | ((first | refine auNd ?_ | refine idx_nat (by omega) (fun x hx => ?_) | refine frz_auto ?_ | refine draw_plain ?_ | refine auIx (fun x hx => ?_)); conv => whnf)
              | ((first | refine bx_idx ?_ | refine bx_intro (fun b hb => ?_)); conv => whnf)
            refine back_intro (by conv => whnf) rfl ⟨a', [], g + 1, out ++ [goneI x], own_u3 ?_ (by first | rfl | exact tail_take) (by first | rfl | exact tail_take), heap_u3 ?_, ?_, ?_, by omega, by omega⟩ ?_
            · rw [List.length_append]; rfl
            · simp only [cast_self, List.take_length]; rfl
            · rw [List.append_assoc]; rw [diffL_cons_nil] at ho; exact ho
            · rw [List.length_append]; simp only [List.length_cons, List.length_nil]; omega
            · show (List.take (((x :: a').length : Int).toNat - Int.toNat 1) (List.drop (Int.toNat 1) (x :: a'))).length + ([] : List pairT.El).length < (x :: a').length + ([] : List pairT.El).length
              rw [tail_take]
              simp only [List.length_cons]; omega
          · have hy0 : (y :: b')[Int.toNat 0]? = some y := rfl
            have hly : (y :: b').length = b'.length + 1 := rfl
            by_cases h1 : sLt x.1 y.1 = true
            · have ho1 := ordS_is x.1 y.1
              rw [if_pos h1] at ho1
              rw [diffL_lt a' b' h1, List.length_cons] at hlo
              conv => whnf
              repeat' first
                | ((first | refine auIk ?_ | refine auIi ?_ | refine auT ?_ | refine auF ?_ | with_reducible first | refine auKt ?_ | refine auKf ?_ | refine auNt ?_ | refine auNf ?_ | refine auEt ?_ | refine auEf ?_); conv => whnf)
                | ((with_reducible first | refine br_dec (fun h => ?_) (fun h => ?_) | refine br_ndec (fun h => ?_) (fun h => ?_) | refine br_ne (fun h => ?_) (fun h => ?_) | refine br_eq (fun h => ?_) (fun h => ?_)) <;> first | (exfalso; omega) | conv => whnf)
                | (refine br_intro (fun h => ?_) (fun h => ?_) <;> conv => whnf)
                | ((first | refine auNd ?_ | refine idx_nat (by omega) (fun x hx => ?_) | refine frz_auto ?_ | refine draw_plain ?_ | refine auIx (fun x hx => ?_)); conv => whnf)
                | ((first | refine bx_idx ?_ | refine bx_intro (fun b hb => ?_)); conv => whnf)
              refine back_intro (by conv => whnf) rfl ⟨a', y :: b', g + 1, out ++ [goneI x], own_u3 ?_ (by first | rfl | exact tail_take) (by first | rfl | exact tail_take), heap_u3 ?_, ?_, ?_, by omega, by omega⟩ ?_
              · rw [List.length_append]; rfl
              · simp only [cast_self, List.take_length]; rfl
              · rw [List.append_assoc]; rw [diffL_lt a' b' h1] at ho; exact ho
              · rw [List.length_append]; simp only [List.length_cons, List.length_nil]; omega
              · show (List.take (((x :: a').length : Int).toNat - Int.toNat 1) (List.drop (Int.toNat 1) (x :: a'))).length + (y :: b').length < (x :: a').length + (y :: b').length
                rw [tail_take]
                simp only [List.length_cons]; omega
            · have h1 : sLt x.1 y.1 = false := by simpa using h1
              by_cases h2 : sLt y.1 x.1 = true
              · have ho1 := ordS_is x.1 y.1
                rw [if_neg (by rw [h1]; decide), if_pos h2] at ho1
                rw [diffL_gt a' b' h2, List.length_cons] at hlo
                conv => whnf
                repeat' first
                  | ((first | refine auIk ?_ | refine auIi ?_ | refine auT ?_ | refine auF ?_ | with_reducible first | refine auKt ?_ | refine auKf ?_ | refine auNt ?_ | refine auNf ?_ | refine auEt ?_ | refine auEf ?_); conv => whnf)
                  | ((with_reducible first | refine br_dec (fun h => ?_) (fun h => ?_) | refine br_ndec (fun h => ?_) (fun h => ?_) | refine br_ne (fun h => ?_) (fun h => ?_) | refine br_eq (fun h => ?_) (fun h => ?_)) <;> first | (exfalso; omega) | conv => whnf)
                  | (refine br_intro (fun h => ?_) (fun h => ?_) <;> conv => whnf)
                  | ((first | refine auNd ?_ | refine idx_nat (by omega) (fun x hx => ?_) | refine frz_auto ?_ | refine draw_plain ?_ | refine auIx (fun x hx => ?_)); conv => whnf)
                  | ((first | refine bx_idx ?_ | refine bx_intro (fun b hb => ?_)); conv => whnf)
                refine back_intro (by conv => whnf) rfl ⟨x :: a', b', g + 1, out ++ [newI y], own_u3 ?_ (by first | rfl | exact tail_take) (by first | rfl | exact tail_take), heap_u3 ?_, ?_, ?_, by omega, by omega⟩ ?_
                · rw [List.length_append]; rfl
                · simp only [cast_self, List.take_length]; rfl
                · rw [List.append_assoc]; rw [diffL_gt a' b' h2] at ho; exact ho
                · rw [List.length_append]; simp only [List.length_cons, List.length_nil]; omega
                · show (x :: a').length + (List.take (((y :: b').length : Int).toNat - Int.toNat 1) (List.drop (Int.toNat 1) (y :: b'))).length < (x :: a').length + (y :: b').length
                  rw [tail_take]
                  simp only [List.length_cons]; omega
              · have h2 : sLt y.1 x.1 = false := by simpa using h2
                have ho1 := ordS_is x.1 y.1
                rw [if_neg (by rw [h1]; decide), if_neg (by rw [h2]; decide)] at ho1
                by_cases h3 : sEq x.2.1 y.2.1 = true
                · have h4 : (!sEq x.2.1 y.2.1) = false := by rw [h3]; rfl
                  conv => whnf
                  repeat' first
                    | ((first | refine auIk ?_ | refine auIi ?_ | refine auT ?_ | refine auF ?_ | with_reducible first | refine auKt ?_ | refine auKf ?_ | refine auNt ?_ | refine auNf ?_ | refine auEt ?_ | refine auEf ?_); conv => whnf)
                    | ((with_reducible first | refine br_dec (fun h => ?_) (fun h => ?_) | refine br_ndec (fun h => ?_) (fun h => ?_) | refine br_ne (fun h => ?_) (fun h => ?_) | refine br_eq (fun h => ?_) (fun h => ?_)) <;> first | (exfalso; omega) | conv => whnf)
                    | (refine br_intro (fun h => ?_) (fun h => ?_) <;> conv => whnf)
                    | ((first | refine auNd ?_ | refine idx_nat (by omega) (fun x hx => ?_) | refine frz_auto ?_ | refine draw_plain ?_ | refine auIx (fun x hx => ?_)); conv => whnf)
                    | ((first | refine bx_idx ?_ | refine bx_intro (fun b hb => ?_)); conv => whnf)
                  refine back_intro (by conv => whnf) rfl ⟨a', b', g, out, own_u3 rfl tail_take tail_take, rfl, by rw [diffL_eq a' b' h1 h2 h3] at ho; exact ho, hol, by omega, by omega⟩ ?_
                  show (List.take (((x :: a').length : Int).toNat - Int.toNat 1) (List.drop (Int.toNat 1) (x :: a'))).length + (List.take (((y :: b').length : Int).toNat - Int.toNat 1) (List.drop (Int.toNat 1) (y :: b'))).length < (x :: a').length + (y :: b').length
                  rw [tail_take, tail_take]
                  simp only [List.length_cons]; omega
                · have h3 : sEq x.2.1 y.2.1 = false := by simpa using h3
                  have h4 : (!sEq x.2.1 y.2.1) = true := by rw [h3]; rfl
                  rw [diffL_ne a' b' h1 h2 h3, List.length_cons] at hlo
                  conv => whnf
                  repeat' first
                    | ((first | refine auIk ?_ | refine auIi ?_ | refine auT ?_ | refine auF ?_ | with_reducible first | refine auKt ?_ | refine auKf ?_ | refine auNt ?_ | refine auNf ?_ | refine auEt ?_ | refine auEf ?_); conv => whnf)
                    | ((with_reducible first | refine br_dec (fun h => ?_) (fun h => ?_) | refine br_ndec (fun h => ?_) (fun h => ?_) | refine br_ne (fun h => ?_) (fun h => ?_) | refine br_eq (fun h => ?_) (fun h => ?_)) <;> first | (exfalso; omega) | conv => whnf)
                    | (refine br_intro (fun h => ?_) (fun h => ?_) <;> conv => whnf)
                    | ((first | refine auNd ?_ | refine idx_nat (by omega) (fun x hx => ?_) | refine frz_auto ?_ | refine draw_plain ?_ | refine auIx (fun x hx => ?_)); conv => whnf)
                    | ((first | refine bx_idx ?_ | refine bx_intro (fun b hb => ?_)); conv => whnf)
                  refine back_intro (by conv => whnf) rfl ⟨a', b', g + 1, out ++ [otherI x y], own_u3 ?_ (by first | rfl | exact tail_take) (by first | rfl | exact tail_take), heap_u3 ?_, ?_, ?_, by omega, by omega⟩ ?_
                  · rw [List.length_append]; rfl
                  · simp only [cast_self, List.take_length]; show _ = out ++ [mkI 3 x.1 x.2.1 y.2.1]; rw [sLt_ext h1 h2]; rfl
                  · rw [List.append_assoc]; rw [diffL_ne a' b' h1 h2 h3] at ho; exact ho
                  · rw [List.length_append]; simp only [List.length_cons, List.length_nil]; omega
                  · show (List.take (((x :: a').length : Int).toNat - Int.toNat 1) (List.drop (Int.toNat 1) (x :: a'))).length + (List.take (((y :: b').length : Int).toNat - Int.toNat 1) (List.drop (Int.toNat 1) (y :: b'))).length < (x :: a').length + (y :: b').length
                    rw [tail_take, tail_take]
                    simp only [List.length_cons]; omega
      · rw [show dfR a b = ([], (mcL b).2) by rw [dfR, if_neg (by simp [ha]), if_pos hb]]
        have q0 : ([a, b] : List (Ty.sl pairT).El)[Int.toNat 0]? = some a := rfl
        have q1 : ([a, b] : List (Ty.sl pairT).El)[Int.toNat (0 + 1)]? = some b := rfl
        conv => whnf
        repeat' first
          | ((first | refine auIk ?_ | refine auIi ?_ | refine auT ?_ | refine auF ?_ | with_reducible first | refine auKt ?_ | refine auKf ?_ | refine auNt ?_ | refine auNf ?_ | refine auEt ?_ | refine auEf ?_); conv => whnf)
          | ((with_reducible first | refine br_dec (fun h => ?_) (fun h => ?_) | refine br_ndec (fun h => ?_) (fun h => ?_) | refine br_ne (fun h => ?_) (fun h => ?_) | refine br_eq (fun h => ?_) (fun h => ?_)) <;> first | (exfalso; omega) | conv => whnf)
          | (refine br_intro (fun h => ?_) (fun h => ?_) <;> conv => whnf)
          | ((first | refine auNd ?_ | refine idx_nat (by omega) (fun x hx => ?_) | refine frz_auto ?_ | refine draw_plain ?_ | refine auIx (fun x hx => ?_)); conv => whnf)
          | ((first | refine bx_idx ?_ | refine bx_intro (fun b hb => ?_)); conv => whnf)
        refine loop_turns 3 ?_
        conv => whnf
        repeat' first
          | ((first | refine auIk ?_ | refine auIi ?_ | refine auT ?_ | refine auF ?_ | with_reducible first | refine auKt ?_ | refine auKf ?_ | refine auNt ?_ | refine auNf ?_ | refine auEt ?_ | refine auEf ?_); conv => whnf)
          | ((with_reducible first | refine br_dec (fun h => ?_) (fun h => ?_) | refine br_ndec (fun h => ?_) (fun h => ?_) | refine br_ne (fun h => ?_) (fun h => ?_) | refine br_eq (fun h => ?_) (fun h => ?_)) <;> first | (exfalso; omega) | conv => whnf)
          | (refine br_intro (fun h => ?_) (fun h => ?_) <;> conv => whnf)
          | ((first | refine auNd ?_ | refine idx_nat (by omega) (fun x hx => ?_) | refine frz_auto ?_ | refine draw_plain ?_ | refine auIx (fun x hx => ?_)); conv => whnf)
          | ((first | refine bx_idx ?_ | refine bx_intro (fun b hb => ?_)); conv => whnf)
        rfl
    · rw [show dfR a b = ([], (mcL a).2) by rw [dfR, if_pos ha]]
      have q0 : ([a, b] : List (Ty.sl pairT).El)[Int.toNat 0]? = some a := rfl
      conv => whnf
      repeat' first
        | ((first | refine auIk ?_ | refine auIi ?_ | refine auT ?_ | refine auF ?_ | with_reducible first | refine auKt ?_ | refine auKf ?_ | refine auNt ?_ | refine auNf ?_ | refine auEt ?_ | refine auEf ?_); conv => whnf)
        | ((with_reducible first | refine br_dec (fun h => ?_) (fun h => ?_) | refine br_ndec (fun h => ?_) (fun h => ?_) | refine br_ne (fun h => ?_) (fun h => ?_) | refine br_eq (fun h => ?_) (fun h => ?_)) <;> first | (exfalso; omega) | conv => whnf)
        | (refine br_intro (fun h => ?_) (fun h => ?_) <;> conv => whnf)
        | ((first | refine auNd ?_ | refine idx_nat (by omega) (fun x hx => ?_) | refine frz_auto ?_ | refine draw_plain ?_ | refine auIx (fun x hx => ?_)); conv => whnf)
        | ((first | refine bx_idx ?_ | refine bx_intro (fun b hb => ?_)); conv => whnf)
      refine loop_turns 3 ?_
      conv => whnf
      repeat' first
        | ((first | refine auIk ?_ | refine auIi ?_ | refine auT ?_ | refine auF ?_ | with_reducible first | refine auKt ?_ | refine auKf ?_ | refine auNt ?_ | refine auNf ?_ | refine auEt ?_ | refine auEf ?_); conv => whnf)
        | ((with_reducible first | refine br_dec (fun h => ?_) (fun h => ?_) | refine br_ndec (fun h => ?_) (fun h => ?_) | refine br_ne (fun h => ?_) (fun h => ?_) | refine br_eq (fun h => ?_) (fun h => ?_)) <;> first | (exfalso; omega) | conv => whnf)
        | (refine br_intro (fun h => ?_) (fun h => ?_) <;> conv => whnf)
        | ((first | refine auNd ?_ | refine idx_nat (by omega) (fun x hx => ?_) | refine frz_auto ?_ | refine draw_plain ?_ | refine auIx (fun x hx => ?_)); conv => whnf)
        | ((first | refine bx_idx ?_ | refine bx_intro (fun b hb => ?_)); conv => whnf)
      rfl
  · cases h
end Go.Proofs.Ytbbklijmnknmhaa
namespace Go.Proofs.Ytbbklijmnknmhaa
open Av Bk

/-- The value of a key in a table. -/
def lkV (m : List pairT.El) (k : ByteArray) : Option ByteArray := (m.find? (fun p => sEq p.1 k)).map (fun p => p.2.1)
theorem lkV_cons (p : pairT.El) (m : List pairT.El) (k : ByteArray) : lkV (p :: m) k = if p.1 = k then some p.2.1 else lkV m k := by
  unfold lkV
  by_cases h : p.1 = k
  · rw [List.find?_cons_of_pos (by rw [sEq_iff]; exact h), if_pos h]; rfl
  · rw [List.find?_cons_of_neg (by rw [sEq_iff]; exact h), if_neg h]
theorem lkV_none {m : List pairT.El} {k : ByteArray} : lkV m k = none ↔ ∀ p ∈ m, p.1 ≠ k := by
  unfold lkV
  rw [Option.map_eq_none_iff, List.find?_eq_none]
  simp only [sEq_iff, ne_eq]
theorem lkV_append (a b : List pairT.El) (k : ByteArray) : lkV (a ++ b) k = (lkV a k).or (lkV b k) := by
  unfold lkV
  rw [List.find?_append]
  cases a.find? (fun p => sEq p.1 k) <;> rfl
theorem lkV_in {m : List pairT.El} {k v : ByteArray} (h : lkV m k = some v) : mkP k v ∈ m := by
  induction m with
  | nil => cases h
  | cons p m ih =>
    rw [lkV_cons] at h
    split at h
    · rename_i e
      cases h
      obtain ⟨a, b, u⟩ := p
      cases e
      exact List.mem_cons_self
    · exact List.mem_cons_of_mem _ (ih h)
theorem lbP_le (k : ByteArray) : ∀ l, lbP k l ≤ l.length
  | [] => Nat.le_refl _
  | y :: l => by
    unfold lbP
    split
    · have := lbP_le k l; simp; omega
    · exact Nat.zero_le _
/-- A table is cut at a key. -/
theorem tab_cut {m : List pairT.El} (ha : ascP m) (k : ByteArray) : ∃ a b, m = a ++ b ∧ a.length = lbP k m ∧ (∀ p ∈ a, sLt p.1 k = true) ∧ (∀ p ∈ b, sLt p.1 k = false) := by
  induction m with
  | nil => exact ⟨[], [], rfl, rfl, by simp, by simp⟩
  | cons p m ih =>
    obtain ⟨h1, h2⟩ := List.pairwise_cons.1 ha
    unfold lbP
    by_cases h : sLt p.1 k = true
    · obtain ⟨a, b, rfl, h3, h4, h5⟩ := ih h2
      refine ⟨p :: a, b, rfl, by rw [if_pos h, List.length_cons, h3], ?_, h5⟩
      intro q hq
      rcases List.mem_cons.1 hq with rfl | hq
      · exact h
      · exact h4 q hq
    · refine ⟨[], p :: m, rfl, by rw [if_neg h]; rfl, by simp, ?_⟩
      intro q hq
      rcases List.mem_cons.1 hq with rfl | hq
      · simpa using h
      · cases h6 : sLt q.1 k with
        | false => rfl
        | true => exact absurd (sLt_trans (h1 q hq) h6) h
theorem lbP_lt {m : List pairT.El} (ha : ascP m) {k : ByteArray} {j : Nat} {p : pairT.El} (h : j < lbP k m) (hp : m[j]? = some p) : sLt p.1 k = true := by
  obtain ⟨a, b, rfl, h3, h4, h5⟩ := tab_cut ha k
  rw [← h3] at h
  rw [List.getElem?_append_left h] at hp
  exact h4 p (List.mem_of_getElem? hp)
theorem lbP_ge {m : List pairT.El} (ha : ascP m) {k : ByteArray} {j : Nat} {p : pairT.El} (h : lbP k m ≤ j) (hp : m[j]? = some p) : sLt p.1 k = false := by
  obtain ⟨a, b, rfl, h3, h4, h5⟩ := tab_cut ha k
  rw [← h3] at h
  rw [List.getElem?_append_right h] at hp
  exact h5 p (List.mem_of_getElem? hp)
/-- Where a key is, if it is there. -/
theorem tab_some {m : List pairT.El} (ha : ascP m) {k v : ByteArray} (h : lkV m k = some v) : ∃ a b, m = a ++ mkP k v :: b ∧ a.length = lbP k m ∧ (∀ p ∈ a, sLt p.1 k = true) ∧ (∀ p ∈ b, sLt k p.1 = true) := by
  obtain ⟨a, b, rfl, h3, h4, h5⟩ := tab_cut ha k
  have h6 : lkV a k = none := lkV_none.2 (fun p hp => sLt_ne (h4 p hp))
  rw [lkV_append, h6, Option.none_or] at h
  have hb := (List.pairwise_append.1 ha).2.1
  rcases b with _ | ⟨q, b⟩
  · cases h
  · obtain ⟨h7, h8⟩ := List.pairwise_cons.1 hb
    have hq : q = mkP k v := by
      rcases List.mem_cons.1 (lkV_in h) with e | e
      · exact e.symm
      · have h9 := h7 _ e
        rw [show (mkP k v).1 = k from rfl] at h9
        rw [h5 q List.mem_cons_self] at h9
        cases h9
    subst hq
    exact ⟨a, b, rfl, h3, h4, h7⟩
theorem tab_none {m : List pairT.El} (ha : ascP m) {k : ByteArray} (h : lkV m k = none) : ∃ a b, m = a ++ b ∧ a.length = lbP k m ∧ (∀ p ∈ a, sLt p.1 k = true) ∧ (∀ p ∈ b, sLt k p.1 = true) := by
  obtain ⟨a, b, rfl, h3, h4, h5⟩ := tab_cut ha k
  refine ⟨a, b, rfl, h3, h4, fun p hp => sLt_of (h5 p hp) (lkV_none.1 h p (List.mem_append_right _ hp))⟩
/-- What stands at the place of a key. -/
theorem lkV_lb {m : List pairT.El} (ha : ascP m) (k : ByteArray) : lkV m k = match m[lbP k m]? with | some p => if sEq p.1 k = true then some p.2.1 else none | none => none := by
  cases h : lkV m k with
  | some v =>
    obtain ⟨a, b, h1, h2, _⟩ := tab_some ha h
    have : m[lbP k m]? = some (mkP k v) := by rw [← h2, h1]; simp
    rw [this]
    simp only [sEq_iff, if_true]
  | none =>
    cases hp : m[lbP k m]? with
    | none => rfl
    | some p =>
      have := lkV_none.1 h p (List.mem_of_getElem? hp)
      simp only
      rw [if_neg (by rw [sEq_iff]; exact this)]
theorem lkV_at {m : List pairT.El} (ha : ascP m) {k v : ByteArray} (h : lkV m k = some v) : m[lbP k m]? = some (mkP k v) := by
  obtain ⟨a, b, h1, h2, _⟩ := tab_some ha h
  rw [← h2, h1]; simp
/-- A table with another value of a key. -/
def chT (m : List pairT.El) (k : ByteArray) (o : Option ByteArray) : List pairT.El := match o with
  | none => m.filter (fun p => !sEq p.1 k)
  | some v => intoP (m.filter (fun p => !sEq p.1 k)) (mkP k v)
theorem filt_ne {m : List pairT.El} {k : ByteArray} : ∀ q ∈ m.filter (fun p => !sEq p.1 k), q.1 ≠ k := by
  intro q hq
  have := (List.mem_filter.1 hq).2
  simp only [Bool.not_eq_true'] at this
  exact sEq_no.1 this
theorem filt_id {m : List pairT.El} {k : ByteArray} (h : ∀ p ∈ m, p.1 ≠ k) : m.filter (fun p => !sEq p.1 k) = m := by
  rw [List.filter_eq_self]
  intro p hp
  rw [sEq_no.2 (h p hp)]
  rfl
theorem chT_asc {m : List pairT.El} (ha : ascP m) (k : ByteArray) (o : Option ByteArray) : ascP (chT m k o) := by
  have hf : ascP (m.filter (fun p => !sEq p.1 k)) := List.Pairwise.filter _ ha
  cases o with
  | none => exact hf
  | some v => exact into_asc hf filt_ne
theorem into_mid {a b : List pairT.El} {p : pairT.El} (h1 : ∀ q ∈ a, sLt q.1 p.1 = true) (h2 : ∀ q ∈ b, sLt p.1 q.1 = true) : intoP (a ++ b) p = a ++ p :: b := by
  induction a with
  | nil =>
    cases b with
    | nil => rfl
    | cons q b =>
      show intoP (q :: b) p = p :: q :: b
      unfold intoP
      rw [if_neg (by rw [sLt_asym (h2 q List.mem_cons_self)]; decide)]
  | cons q a ih =>
    show intoP (q :: (a ++ b)) p = q :: (a ++ p :: b)
    unfold intoP
    rw [if_pos (h1 q List.mem_cons_self), ih (fun r hr => h1 r (List.mem_cons_of_mem _ hr))]
theorem fresh_cut {m : List pairT.El} (ha : ascP m) {k : ByteArray} (v : ByteArray) (h : lkV m k = none) : m.take (lbP k m) ++ ([mkP k v] ++ m.drop (lbP k m)) = chT m k (some v) := by
  have hf := filt_id (lkV_none.1 h)
  obtain ⟨a, b, h1, h2, h3, h4⟩ := tab_none ha h
  show _ = intoP (m.filter (fun p => !sEq p.1 k)) (mkP k v)
  rw [hf, ← h2]
  conv => lhs; rw [h1]
  conv => rhs; rw [h1]
  rw [into_mid h3 h4]
  simp
theorem cut_mid {m : List pairT.El} {k v : ByteArray} {a b : List pairT.El} (h1 : m = a ++ mkP k v :: b) (h3 : ∀ p ∈ a, sLt p.1 k = true) (h4 : ∀ p ∈ b, sLt k p.1 = true) : m.filter (fun p => !sEq p.1 k) = a ++ b := by
  rw [h1, List.filter_append, List.filter_cons_of_neg (by simp [sEq_iff]), filt_id (fun p hp => sLt_ne (h3 p hp)), filt_id (fun p hp => (sLt_ne (h4 p hp)).symm)]
theorem gone_cut {m : List pairT.El} (ha : ascP m) {k v : ByteArray} (h : lkV m k = some v) : m.take (lbP k m) ++ m.drop (lbP k m + 1) = chT m k none := by
  obtain ⟨a, b, h1, h2, h3, h4⟩ := tab_some ha h
  show _ = m.filter (fun p => !sEq p.1 k)
  rw [cut_mid h1 h3 h4, ← h2, h1]
  rw [List.take_left, List.drop_append]
  simp
theorem other_cut {m : List pairT.El} (ha : ascP m) {k v : ByteArray} (w : ByteArray) (h : lkV m k = some v) : m.set (lbP k m) (mkP k w) = chT m k (some w) := by
  obtain ⟨a, b, h1, h2, h3, h4⟩ := tab_some ha h
  show _ = intoP (m.filter (fun p => !sEq p.1 k)) (mkP k w)
  rw [cut_mid h1 h3 h4, ← h2, h1, into_mid h3 h4]
  rw [List.set_append_right _ _ (Nat.le_refl _)]
  simp
theorem chT_len {m : List pairT.El} (k : ByteArray) (o : Option ByteArray) : (chT m k o).length ≤ m.length + 1 := by
  have hf : (m.filter (fun p => !sEq p.1 k)).length ≤ m.length := List.length_filter_le _ _
  cases o with
  | none => exact Nat.le_succ_of_le hf
  | some v =>
    show (intoP _ _).length ≤ _
    rw [into_cut, List.length_append, List.length_cons, List.length_take, List.length_drop]
    omega
/-! ### Items -/
theorem mcL_zero {l : List pairT.El} (h : (mcL l).2 = 0) : l.length ≤ 4000 ∧ (∀ x ∈ l, prE x = 0) ∧ ascP l := by
  refine ⟨mcL_len h, ?_⟩
  unfold mcL at h
  split at h
  · exact absurd (show (5 : Int) = 0 from h) (by decide)
  · exact ⟨(ckGo_zero h).1, (ckGo_zero h).2.1⟩
end Go.Proofs.Ytbbklijmnknmhaa
