/-
  Differences of two maps, by the code.
  The view of the examples; lists of pairs that are the same.
  Whether two lists of pairs are the same.
  Whether two lists of differences are the same; differences the other way; ids.
  Differences of two views: their maps, Diff and Same by the code.
  Views: what the reference says of two: Diff, Same, Shared.
-/
import Derived.Test.YtdbnohpolknbbaaSo1
import Derived.Test.YtdbnohpolknbbaaLp
namespace Go.Proofs.Ytdbnohpolknbbaa
open Av Bk

theorem ordS_is (a b : ByteArray) : ordS a b = if sLt a b = true then -1 else if sLt b a = true then 1 else 0 := rfl
theorem heap_u3 {b c : AObj} {T : TypeId} {t : Ty} {g : Nat} {l m : List t.El} (hl : l = m) : [b, c, .arr T t l false g] = [b, c, AObj.arr T t m false g] := by rw [hl]
set_option maxRecDepth 100000 in
set_option maxHeartbeats 4000000 in
theorem mDiff_ok : SpecOk Try.prog 21 spDiff := by
  refine spec_body (C := cxue2) mixed tbOk specsue2 (callN_ok (C := cxue2) mixed tbOk specsue2 FnsOk.nil 0) fnOk_mDiff ?_
  intro ys p r h hp
  unfold spDiff at h
  split at h
  · rename_i a b
    cases h
    obtain ⟨hp1, hp2⟩ := hp
    by_cases ha : (mcL a).2 = 0
    · by_cases hb : (mcL b).2 = 0
      · have hal := mcL_len ha
        have hbl := mcL_len hb
        rw [show dfR a b = (diffL a b, 0) by rw [dfR, if_neg (by simp [ha]), if_neg (by simp [hb])]]
        have q0 : ([a, b] : List (Ty.sl pairT).El)[Int.toNat 0]? = some a := rfl
        have q1 : ([a, b] : List (Ty.sl pairT).El)[Int.toNat (0 + 1)]? = some b := rfl
        conv => whnf
        repeat' first
          | ((first | refine auIk ?_ | refine auIi ?_ | refine auT ?_ | refine auF ?_ | with_reducible first | refine auKt ?_ | refine auKf ?_ | refine auNt ?_ | refine auNf ?_ | refine auEt ?_ | refine auEf ?_); conv => whnf)
          | ((with_reducible first | refine br_dec (fun h => ?_) (fun h => ?_) | refine br_ndec (fun h => ?_) (fun h => ?_) | refine br_ne (fun h => ?_) (fun h => ?_) | refine br_eq (fun h => ?_) (fun h => ?_)) <;> first | (exfalso; omega) | conv => whnf)
          | (refine br_intro (fun h => ?_) (fun h => ?_) <;> conv => whnf)
          | ((first | refine auNd ?_ | refine idx_nat (by omega) (fun x hx => ?_) | refine frz_auto ?_ | refine draw_plain ?_ | refine auIx (fun x hx => ?_)); conv => whnf)
        refine loop_turns 3 ?_
        conv => whnf
        repeat' first
          | ((first | refine auIk ?_ | refine auIi ?_ | refine auT ?_ | refine auF ?_ | with_reducible first | refine auKt ?_ | refine auKf ?_ | refine auNt ?_ | refine auNf ?_ | refine auEt ?_ | refine auEf ?_); conv => whnf)
          | ((with_reducible first | refine br_dec (fun h => ?_) (fun h => ?_) | refine br_ndec (fun h => ?_) (fun h => ?_) | refine br_ne (fun h => ?_) (fun h => ?_) | refine br_eq (fun h => ?_) (fun h => ?_)) <;> first | (exfalso; omega) | conv => whnf)
          | (refine br_intro (fun h => ?_) (fun h => ?_) <;> conv => whnf)
          | ((first | refine auNd ?_ | refine idx_nat (by omega) (fun x hx => ?_) | refine frz_auto ?_ | refine draw_plain ?_ | refine auIx (fun x hx => ?_)); conv => whnf)
        refine loop_inv [] [0, 1, 10] (fun vs h => ∃ (a' b' : List pairT.El) (g : Nat) (out : List itemT.El), vs = [.lst pairT a', .lst pairT b', .own 2 g out.length] ∧ h = [.arr 37 itemT [] false 0, .arr 52 (.sl pairT) [a, b] false 0, .arr 37 itemT out false g] ∧ out ++ diffL a' b' = diffL a b ∧ out.length ≤ 8000 ∧ a'.length ≤ 4000 ∧ b'.length ≤ 4000) (fun vs _ => match vs with | [.lst _ a', .lst _ b', _] => a'.length + b'.length | _ => 0) ?_
        conv => whnf
        refine ⟨⟨a, b, 0, [], rfl, rfl, rfl, by simp, hal, hbl⟩, ?_⟩
        rintro vs h' - ⟨a', b', g, out, rfl, rfl, ho, hol, hla, hlb⟩
        have hn0 : ([] : List pairT.El).length = 0 := rfl
        have hle := diffL_len a b
        have hlo : out.length + (diffL a' b').length ≤ a.length + b.length := by rw [← ho, List.length_append] at hle; exact hle
        rcases a' with _ | ⟨x, a'⟩
        · rcases b' with _ | ⟨y, b'⟩
          · conv => whnf
            repeat' first
              | ((first | refine auIk ?_ | refine auIi ?_ | refine auT ?_ | refine auF ?_ | with_reducible first | refine auKt ?_ | refine auKf ?_ | refine auNt ?_ | refine auNf ?_ | refine auEt ?_ | refine auEf ?_); conv => whnf)
              | ((with_reducible first | refine br_dec (fun h => ?_) (fun h => ?_) | refine br_ndec (fun h => ?_) (fun h => ?_) | refine br_ne (fun h => ?_) (fun h => ?_) | refine br_eq (fun h => ?_) (fun h => ?_)) <;> first | (exfalso; omega) | conv => whnf)
              | (refine br_intro (fun h => ?_) (fun h => ?_) <;> conv => whnf)
              | ((first | refine auNd ?_ | refine idx_nat (by omega) (fun x hx => ?_) | refine frz_auto ?_ | refine draw_plain ?_ | refine auIx (fun x hx => ?_)); conv => whnf)
            refine df_eq ?_
            rw [← ho]
            simp [cast_self, diffL]
          · have hy0 : (y :: b')[Int.toNat 0]? = some y := rfl
            have hly : (y :: b').length = b'.length + 1 := rfl
            rw [diffL_nil_cons, List.length_cons] at hlo
            conv => whnf
            repeat' first
              | ((first | refine auIk ?_ | refine auIi ?_ | refine auT ?_ | refine auF ?_ | with_reducible first | refine auKt ?_ | refine auKf ?_ | refine auNt ?_ | refine auNf ?_ | refine auEt ?_ | refine auEf ?_); conv => whnf)
              | ((with_reducible first | refine br_dec (fun h => ?_) (fun h => ?_) | refine br_ndec (fun h => ?_) (fun h => ?_) | refine br_ne (fun h => ?_) (fun h => ?_) | refine br_eq (fun h => ?_) (fun h => ?_)) <;> first | (exfalso; omega) | conv => whnf)
              | (refine br_intro (fun h => ?_) (fun h => ?_) <;> conv => whnf)
              | ((first | refine auNd ?_ | refine idx_nat (by omega) (fun x hx => ?_) | refine frz_auto ?_ | refine draw_plain ?_ | refine auIx (fun x hx => ?_)); conv => whnf)
            refine back_intro (by conv => whnf) rfl ⟨[], b', g + 1, out ++ [newI y], own_u3 ?_ (by first | rfl | exact tail_take) (by first | rfl | exact tail_take), heap_u3 ?_, ?_, ?_, by omega, by omega⟩ ?_
            · rw [List.length_append]; rfl
            · simp only [cast_self, List.take_length]; rfl
            · rw [List.append_assoc]; rw [diffL_nil_cons] at ho; exact ho
            · rw [List.length_append]; simp only [List.length_cons, List.length_nil]; omega
            · show ([] : List pairT.El).length + (List.take (((y :: b').length : Int).toNat - Int.toNat 1) (List.drop (Int.toNat 1) (y :: b'))).length < ([] : List pairT.El).length + (y :: b').length
              rw [tail_take]
              simp only [List.length_cons]; omega
        · have hx0 : (x :: a')[Int.toNat 0]? = some x := rfl
          have hlx : (x :: a').length = a'.length + 1 := rfl
          rcases b' with _ | ⟨y, b'⟩
          · rw [diffL_cons_nil, List.length_cons] at hlo
            conv => whnf
            repeat' first
              | ((first | refine auIk ?_ | refine auIi ?_ | refine auT ?_ | refine auF ?_ | with_reducible first | refine auKt ?_ | refine auKf ?_ | refine auNt ?_ | refine auNf ?_ | refine auEt ?_ | refine auEf ?_); conv => whnf)
              | ((with_reducible first | refine br_dec (fun h => ?_) (fun h => ?_) | refine br_ndec (fun h => ?_) (fun h => ?_) | refine br_ne (fun h => ?_) (fun h => ?_) | refine br_eq (fun h => ?_) (fun h => ?_)) <;> first | (exfalso; omega) | conv => whnf)
              | (refine br_intro (fun h => ?_) (fun h => ?_) <;> conv => whnf)
              | ((first | refine auNd ?_ | refine idx_nat (by omega) (fun x hx => ?_) | refine frz_auto ?_ | refine draw_plain ?_ | refine auIx (fun x hx => ?_)); conv => whnf)
            refine back_intro (by conv => whnf) rfl ⟨a', [], g + 1, out ++ [goneI x], own_u3 ?_ (by first | rfl | exact tail_take) (by first | rfl | exact tail_take), heap_u3 ?_, ?_, ?_, by omega, by omega⟩ ?_
            · rw [List.length_append]; rfl
            · simp only [cast_self, List.take_length]; rfl
            · rw [List.append_assoc]; rw [diffL_cons_nil] at ho; exact ho
            · rw [List.length_append]; simp only [List.length_cons, List.length_nil]; omega
            · show (List.take (((x :: a').length : Int).toNat - Int.toNat 1) (List.drop (Int.toNat 1) (x :: a'))).length + ([] : List pairT.El).length < (x :: a').length + ([] : List pairT.El).length
              rw [tail_take]
              simp only [List.length_cons]; omega
          · have hy0 : (y :: b')[Int.toNat 0]? = some y := rfl
            have hly : (y :: b').length = b'.length + 1 := rfl
            by_cases h1 : sLt x.1 y.1 = true
            · have ho1 := ordS_is x.1 y.1
              rw [if_pos h1] at ho1
              rw [diffL_lt a' b' h1, List.length_cons] at hlo
              conv => whnf
              repeat' first
                | ((first | refine auIk ?_ | refine auIi ?_ | refine auT ?_ | refine auF ?_ | with_reducible first | refine auKt ?_ | refine auKf ?_ | refine auNt ?_ | refine auNf ?_ | refine auEt ?_ | refine auEf ?_); conv => whnf)
                | ((with_reducible first | refine br_dec (fun h => ?_) (fun h => ?_) | refine br_ndec (fun h => ?_) (fun h => ?_) | refine br_ne (fun h => ?_) (fun h => ?_) | refine br_eq (fun h => ?_) (fun h => ?_)) <;> first | (exfalso; omega) | conv => whnf)
                | (refine br_intro (fun h => ?_) (fun h => ?_) <;> conv => whnf)
                | ((first | refine auNd ?_ | refine idx_nat (by omega) (fun x hx => ?_) | refine frz_auto ?_ | refine draw_plain ?_ | refine auIx (fun x hx => ?_)); conv => whnf)
              refine back_intro (by conv => whnf) rfl ⟨a', y :: b', g + 1, out ++ [goneI x], own_u3 ?_ (by first | rfl | exact tail_take) (by first | rfl | exact tail_take), heap_u3 ?_, ?_, ?_, by omega, by omega⟩ ?_
              · rw [List.length_append]; rfl
              · simp only [cast_self, List.take_length]; rfl
              · rw [List.append_assoc]; rw [diffL_lt a' b' h1] at ho; exact ho
              · rw [List.length_append]; simp only [List.length_cons, List.length_nil]; omega
              · show (List.take (((x :: a').length : Int).toNat - Int.toNat 1) (List.drop (Int.toNat 1) (x :: a'))).length + (y :: b').length < (x :: a').length + (y :: b').length
                rw [tail_take]
                simp only [List.length_cons]; omega
            · have h1 : sLt x.1 y.1 = false := by simpa using h1
              by_cases h2 : sLt y.1 x.1 = true
              · have ho1 := ordS_is x.1 y.1
                rw [if_neg (by rw [h1]; decide), if_pos h2] at ho1
                rw [diffL_gt a' b' h2, List.length_cons] at hlo
                conv => whnf
                repeat' first
                  | ((first | refine auIk ?_ | refine auIi ?_ | refine auT ?_ | refine auF ?_ | with_reducible first | refine auKt ?_ | refine auKf ?_ | refine auNt ?_ | refine auNf ?_ | refine auEt ?_ | refine auEf ?_); conv => whnf)
                  | ((with_reducible first | refine br_dec (fun h => ?_) (fun h => ?_) | refine br_ndec (fun h => ?_) (fun h => ?_) | refine br_ne (fun h => ?_) (fun h => ?_) | refine br_eq (fun h => ?_) (fun h => ?_)) <;> first | (exfalso; omega) | conv => whnf)
                  | (refine br_intro (fun h => ?_) (fun h => ?_) <;> conv => whnf)
                  | ((first | refine auNd ?_ | refine idx_nat (by omega) (fun x hx => ?_) | refine frz_auto ?_ | refine draw_plain ?_ | refine auIx (fun x hx => ?_)); conv => whnf)
                refine back_intro (by conv => whnf) rfl ⟨x :: a', b', g + 1, out ++ [newI y], own_u3 ?_ (by first | rfl | exact tail_take) (by first | rfl | exact tail_take), heap_u3 ?_, ?_, ?_, by omega, by omega⟩ ?_
                · rw [List.length_append]; rfl
                · simp only [cast_self, List.take_length]; rfl
                · rw [List.append_assoc]; rw [diffL_gt a' b' h2] at ho; exact ho
                · rw [List.length_append]; simp only [List.length_cons, List.length_nil]; omega
                · show (x :: a').length + (List.take (((y :: b').length : Int).toNat - Int.toNat 1) (List.drop (Int.toNat 1) (y :: b'))).length < (x :: a').length + (y :: b').length
                  rw [tail_take]
                  simp only [List.length_cons]; omega
              · have h2 : sLt y.1 x.1 = false := by simpa using h2
                have ho1 := ordS_is x.1 y.1
                rw [if_neg (by rw [h1]; decide), if_neg (by rw [h2]; decide)] at ho1
                by_cases h3 : sEq x.2.1 y.2.1 = true
                · have h4 : (!sEq x.2.1 y.2.1) = false := by rw [h3]; rfl
                  conv => whnf
                  repeat' first
                    | ((first | refine auIk ?_ | refine auIi ?_ | refine auT ?_ | refine auF ?_ | with_reducible first | refine auKt ?_ | refine auKf ?_ | refine auNt ?_ | refine auNf ?_ | refine auEt ?_ | refine auEf ?_); conv => whnf)
                    | ((with_reducible first | refine br_dec (fun h => ?_) (fun h => ?_) | refine br_ndec (fun h => ?_) (fun h => ?_) | refine br_ne (fun h => ?_) (fun h => ?_) | refine br_eq (fun h => ?_) (fun h => ?_)) <;> first | (exfalso; omega) | conv => whnf)
                    | (refine br_intro (fun h => ?_) (fun h => ?_) <;> conv => whnf)
                    | ((first | refine auNd ?_ | refine idx_nat (by omega) (fun x hx => ?_) | refine frz_auto ?_ | refine draw_plain ?_ | refine auIx (fun x hx => ?_)); conv => whnf)
                  refine back_intro (by conv => whnf) rfl ⟨a', b', g, out, own_u3 rfl tail_take tail_take, rfl, by rw [diffL_eq a' b' h1 h2 h3] at ho; exact ho, hol, by omega, by omega⟩ ?_
                  show (List.take (((x :: a').length : Int).toNat - Int.toNat 1) (List.drop (Int.toNat 1) (x :: a'))).length + (List.take (((y :: b').length : Int).toNat - Int.toNat 1) (List.drop (Int.toNat 1) (y :: b'))).length < (x :: a').length + (y :: b').length
                  rw [tail_take, tail_take]
                  simp only [List.length_cons]; omega
                · have h3 : sEq x.2.1 y.2.1 = false := by simpa using h3
                  have h4 : (!sEq x.2.1 y.2.1) = true := by rw [h3]; rfl
                  rw [diffL_ne a' b' h1 h2 h3, List.length_cons] at hlo
                  conv => whnf
                  repeat' first
                    | ((first | refine auIk ?_ | refine auIi ?_ | refine auT ?_ | refine auF ?_ | with_reducible first | refine auKt ?_ | refine auKf ?_ | refine auNt ?_ | refine auNf ?_ | refine auEt ?_ | refine auEf ?_); conv => whnf)
                    | ((with_reducible first | refine br_dec (fun h => ?_) (fun h => ?_) | refine br_ndec (fun h => ?_) (fun h => ?_) | refine br_ne (fun h => ?_) (fun h => ?_) | refine br_eq (fun h => ?_) (fun h => ?_)) <;> first | (exfalso; omega) | conv => whnf)
                    | (refine br_intro (fun h => ?_) (fun h => ?_) <;> conv => whnf)
                    | ((first | refine auNd ?_ | refine idx_nat (by omega) (fun x hx => ?_) | refine frz_auto ?_ | refine draw_plain ?_ | refine auIx (fun x hx => ?_)); conv => whnf)
                  refine back_intro (by conv => whnf) rfl ⟨a', b', g + 1, out ++ [otherI x y], own_u3 ?_ (by first | rfl | exact tail_take) (by first | rfl | exact tail_take), heap_u3 ?_, ?_, ?_, by omega, by omega⟩ ?_
                  · rw [List.length_append]; rfl
                  · simp only [cast_self, List.take_length]; show _ = out ++ [mkI 3 x.1 x.2.1 y.2.1]; rw [sLt_ext h1 h2]; rfl
                  · rw [List.append_assoc]; rw [diffL_ne a' b' h1 h2 h3] at ho; exact ho
                  · rw [List.length_append]; simp only [List.length_cons, List.length_nil]; omega
                  · show (List.take (((x :: a').length : Int).toNat - Int.toNat 1) (List.drop (Int.toNat 1) (x :: a'))).length + (List.take (((y :: b').length : Int).toNat - Int.toNat 1) (List.drop (Int.toNat 1) (y :: b'))).length < (x :: a').length + (y :: b').length
                    rw [tail_take, tail_take]
                    simp only [List.length_cons]; omega
      · rw [show dfR a b = ([], (mcL b).2) by rw [dfR, if_neg (by simp [ha]), if_pos hb]]
        have q0 : ([a, b] : List (Ty.sl pairT).El)[Int.toNat 0]? = some a := rfl
        have q1 : ([a, b] : List (Ty.sl pairT).El)[Int.toNat (0 + 1)]? = some b := rfl
        conv => whnf
        repeat' first
          | ((first | refine auIk ?_ | refine auIi ?_ | refine auT ?_ | refine auF ?_ | with_reducible first | refine auKt ?_ | refine auKf ?_ | refine auNt ?_ | refine auNf ?_ | refine auEt ?_ | refine auEf ?_); conv => whnf)
          | ((with_reducible first | refine br_dec (fun h => ?_) (fun h => ?_) | refine br_ndec (fun h => ?_) (fun h => ?_) | refine br_ne (fun h => ?_) (fun h => ?_) | refine br_eq (fun h => ?_) (fun h => ?_)) <;> first | (exfalso; omega) | conv => whnf)
          | (refine br_intro (fun h => ?_) (fun h => ?_) <;> conv => whnf)
          | ((first | refine auNd ?_ | refine idx_nat (by omega) (fun x hx => ?_) | refine frz_auto ?_ | refine draw_plain ?_ | refine auIx (fun x hx => ?_)); conv => whnf)
        refine loop_turns 3 ?_
        conv => whnf
        repeat' first
          | ((first | refine auIk ?_ | refine auIi ?_ | refine auT ?_ | refine auF ?_ | with_reducible first | refine auKt ?_ | refine auKf ?_ | refine auNt ?_ | refine auNf ?_ | refine auEt ?_ | refine auEf ?_); conv => whnf)
          | ((with_reducible first | refine br_dec (fun h => ?_) (fun h => ?_) | refine br_ndec (fun h => ?_) (fun h => ?_) | refine br_ne (fun h => ?_) (fun h => ?_) | refine br_eq (fun h => ?_) (fun h => ?_)) <;> first | (exfalso; omega) | conv => whnf)
          | (refine br_intro (fun h => ?_) (fun h => ?_) <;> conv => whnf)
          | ((first | refine auNd ?_ | refine idx_nat (by omega) (fun x hx => ?_) | refine frz_auto ?_ | refine draw_plain ?_ | refine auIx (fun x hx => ?_)); conv => whnf)
        rfl
    · rw [show dfR a b = ([], (mcL a).2) by rw [dfR, if_pos ha]]
      have q0 : ([a, b] : List (Ty.sl pairT).El)[Int.toNat 0]? = some a := rfl
      conv => whnf
      repeat' first
        | ((first | refine auIk ?_ | refine auIi ?_ | refine auT ?_ | refine auF ?_ | with_reducible first | refine auKt ?_ | refine auKf ?_ | refine auNt ?_ | refine auNf ?_ | refine auEt ?_ | refine auEf ?_); conv => whnf)
        | ((with_reducible first | refine br_dec (fun h => ?_) (fun h => ?_) | refine br_ndec (fun h => ?_) (fun h => ?_) | refine br_ne (fun h => ?_) (fun h => ?_) | refine br_eq (fun h => ?_) (fun h => ?_)) <;> first | (exfalso; omega) | conv => whnf)
        | (refine br_intro (fun h => ?_) (fun h => ?_) <;> conv => whnf)
        | ((first | refine auNd ?_ | refine idx_nat (by omega) (fun x hx => ?_) | refine frz_auto ?_ | refine draw_plain ?_ | refine auIx (fun x hx => ?_)); conv => whnf)
      refine loop_turns 3 ?_
      conv => whnf
      repeat' first
        | ((first | refine auIk ?_ | refine auIi ?_ | refine auT ?_ | refine auF ?_ | with_reducible first | refine auKt ?_ | refine auKf ?_ | refine auNt ?_ | refine auNf ?_ | refine auEt ?_ | refine auEf ?_); conv => whnf)
        | ((with_reducible first | refine br_dec (fun h => ?_) (fun h => ?_) | refine br_ndec (fun h => ?_) (fun h => ?_) | refine br_ne (fun h => ?_) (fun h => ?_) | refine br_eq (fun h => ?_) (fun h => ?_)) <;> first | (exfalso; omega) | conv => whnf)
        | (refine br_intro (fun h => ?_) (fun h => ?_) <;> conv => whnf)
        | ((first | refine auNd ?_ | refine idx_nat (by omega) (fun x hx => ?_) | refine frz_auto ?_ | refine draw_plain ?_ | refine auIx (fun x hx => ?_)); conv => whnf)
      rfl
  · cases h
end Go.Proofs.Ytdbnohpolknbbaa
namespace Go.Proofs.Ytdbnohpolknbbaa
open Av Bk

abbrev viewT : Ty := .st [.sl entT, .sl runT]
end Go.Proofs.Ytdbnohpolknbbaa
namespace Go.Proofs.Ytdbnohpolknbbaa
open Av Bk

def spSameP : DSpec
  | [.lst (.st [.str, .str]) a, .lst (.st [.str, .str]) b] => some (a.length ≤ 4611686018427387904, .bool (sameL pairT a b))
  | _ => none
set_option maxRecDepth 100000 in
theorem fnOk_same05 : FnOk Try.prog 19 Try.f19 := ⟨by rfl, by kernel_rfl, by
  show okCode _ _ = true ∧ drawsOk _ = true
  exact ⟨by kernel_rfl, by kernel_rfl⟩⟩
set_option maxRecDepth 100000 in
set_option maxHeartbeats 2000000 in
theorem same05_ok : SpecOk Try.prog 19 spSameP := by
  refine spec_body (C := cx0) mixed tbOk SpecsOk.nil (callN_ok (C := cx0) mixed tbOk SpecsOk.nil FnsOk.nil 0) fnOk_same05 ?_
  intro ys p r h hp
  unfold spSameP at h
  split at h
  · rename_i a b
    cases h
    conv => whnf
    repeat' first
      | ((first | refine auT ?_ | refine auF ?_ | with_reducible first | refine auKt ?_ | refine auKf ?_ | refine auNt ?_ | refine auNf ?_ | refine auEt ?_ | refine auEf ?_); conv => whnf)
      | ((with_reducible first | refine br_dec (fun h => ?_) (fun h => ?_) | refine br_ndec (fun h => ?_) (fun h => ?_) | refine br_ne (fun h => ?_) (fun h => ?_) | refine br_eq (fun h => ?_) (fun h => ?_)) <;> first | (exfalso; omega) | conv => whnf)
      | (refine br_intro (fun h => ?_) (fun h => ?_) <;> conv => whnf)
      | ((first | refine auNd ?_ | refine idx_nat (by omega) (fun x hx => ?_) | refine frz_auto ?_ | refine draw_plain ?_ | refine auIx (fun x hx => ?_)); conv => whnf)
    · refine congrArg AV.bool ?_
      rw [same_len (by omega)]
    · rename_i hlen
      refine loop_inv [] [5] (fun vs h => ∃ i : Nat, vs = [.int .i64 (i : Int)] ∧ h = [] ∧ i ≤ a.length ∧ sameL pairT a b = sameL pairT (a.drop i) (b.drop i)) (fun vs _ => match vs with | [.int _ k] => a.length - k.toNat | _ => 0) ?_
      refine ⟨⟨0, rfl, rfl, Nat.zero_le _, rfl⟩, ?_⟩
      rintro vs h' - ⟨i, rfl, rfl, hi, hs⟩
      by_cases hil : i < a.length
      · obtain ⟨x, hx⟩ : ∃ x, a[i]? = some x := ⟨_, List.getElem?_eq_getElem hil⟩
        obtain ⟨y, hy⟩ : ∃ y, b[i]? = some y := ⟨_, List.getElem?_eq_getElem (by omega)⟩
        rw [same_step hx hy] at hs
        conv => whnf
        repeat' first
          | ((first | refine auIk ?_ | refine auIi ?_ | refine auT ?_ | refine auF ?_ | with_reducible first | refine auKt ?_ | refine auKf ?_ | refine auNt ?_ | refine auNf ?_ | refine auEt ?_ | refine auEf ?_); conv => whnf)
          | ((with_reducible first | refine br_dec (fun h => ?_) (fun h => ?_) | refine br_ndec (fun h => ?_) (fun h => ?_) | refine br_ne (fun h => ?_) (fun h => ?_) | refine br_eq (fun h => ?_) (fun h => ?_)) <;> first | (exfalso; omega) | conv => whnf)
          | (refine br_intro (fun h => ?_) (fun h => ?_) <;> conv => whnf)
          | ((first | refine auNd ?_ | refine idx_nat (by omega) (fun x hx => ?_) | refine frz_auto ?_ | refine draw_plain ?_ | refine auIx (fun x hx => ?_)); conv => whnf)
        · rw [hs, show eqT pairT x y = false from bnt h]
          rfl
        · rw [show eqT pairT x y = true from bnf h] at hs
          refine back_intro (by conv => whnf) rfl ⟨i + 1, rfl, rfl, by omega, hs⟩ ?_
          show a.length - ((i : Int) + 1).toNat < a.length - (i : Int).toNat
          omega
      · conv => whnf
        repeat' first
          | ((first | refine auIk ?_ | refine auIi ?_ | refine auT ?_ | refine auF ?_ | with_reducible first | refine auKt ?_ | refine auKf ?_ | refine auNt ?_ | refine auNf ?_ | refine auEt ?_ | refine auEf ?_); conv => whnf)
          | ((with_reducible first | refine br_dec (fun h => ?_) (fun h => ?_) | refine br_ndec (fun h => ?_) (fun h => ?_) | refine br_ne (fun h => ?_) (fun h => ?_) | refine br_eq (fun h => ?_) (fun h => ?_)) <;> first | (exfalso; omega) | conv => whnf)
          | (refine br_intro (fun h => ?_) (fun h => ?_) <;> conv => whnf)
          | ((first | refine auNd ?_ | refine idx_nat (by omega) (fun x hx => ?_) | refine frz_auto ?_ | refine draw_plain ?_ | refine auIx (fun x hx => ?_)); conv => whnf)
        rw [hs, same_end (by omega) (by omega)]
  · cases h
end Go.Proofs.Ytdbnohpolknbbaa
namespace Go.Proofs.Ytdbnohpolknbbaa
open Av Bk

def spSameI : DSpec
  | [.lst (.st [.int .i64, .str, .str, .str]) a, .lst (.st [.int .i64, .str, .str, .str]) b] => some (a.length ≤ 4611686018427387904, .bool (sameL itemT a b))
  | _ => none
set_option maxRecDepth 100000 in
theorem fnOk_sameIt : FnOk Try.prog 14 Try.f14 := ⟨by rfl, by kernel_rfl, by
  show okCode _ _ = true ∧ drawsOk _ = true
  exact ⟨by kernel_rfl, by kernel_rfl⟩⟩
set_option maxRecDepth 100000 in
set_option maxHeartbeats 2000000 in
theorem sameIt_ok : SpecOk Try.prog 14 spSameI := by
  refine spec_body (C := cx0) mixed tbOk SpecsOk.nil (callN_ok (C := cx0) mixed tbOk SpecsOk.nil FnsOk.nil 0) fnOk_sameIt ?_
  intro ys p r h hp
  unfold spSameI at h
  split at h
  · rename_i a b
    cases h
    conv => whnf
    repeat' first
      | ((first | refine auT ?_ | refine auF ?_ | with_reducible first | refine auKt ?_ | refine auKf ?_ | refine auNt ?_ | refine auNf ?_ | refine auEt ?_ | refine auEf ?_); conv => whnf)
      | ((with_reducible first | refine br_dec (fun h => ?_) (fun h => ?_) | refine br_ndec (fun h => ?_) (fun h => ?_) | refine br_ne (fun h => ?_) (fun h => ?_) | refine br_eq (fun h => ?_) (fun h => ?_)) <;> first | (exfalso; omega) | conv => whnf)
      | (refine br_intro (fun h => ?_) (fun h => ?_) <;> conv => whnf)
      | ((first | refine auNd ?_ | refine idx_nat (by omega) (fun x hx => ?_) | refine frz_auto ?_ | refine draw_plain ?_ | refine auIx (fun x hx => ?_)); conv => whnf)
    · refine congrArg AV.bool ?_
      rw [same_len (by omega)]
    · rename_i hlen
      refine loop_inv [] [5] (fun vs h => ∃ i : Nat, vs = [.int .i64 (i : Int)] ∧ h = [] ∧ i ≤ a.length ∧ sameL itemT a b = sameL itemT (a.drop i) (b.drop i)) (fun vs _ => match vs with | [.int _ k] => a.length - k.toNat | _ => 0) ?_
      refine ⟨⟨0, rfl, rfl, Nat.zero_le _, rfl⟩, ?_⟩
      rintro vs h' - ⟨i, rfl, rfl, hi, hs⟩
      by_cases hil : i < a.length
      · obtain ⟨x, hx⟩ : ∃ x, a[i]? = some x := ⟨_, List.getElem?_eq_getElem hil⟩
        obtain ⟨y, hy⟩ : ∃ y, b[i]? = some y := ⟨_, List.getElem?_eq_getElem (by omega)⟩
        rw [same_step hx hy] at hs
        conv => whnf
        repeat' first
          | ((first | refine auIk ?_ | refine auIi ?_ | refine auT ?_ | refine auF ?_ | with_reducible first | refine auKt ?_ | refine auKf ?_ | refine auNt ?_ | refine auNf ?_ | refine auEt ?_ | refine auEf ?_); conv => whnf)
          | ((with_reducible first | refine br_dec (fun h => ?_) (fun h => ?_) | refine br_ndec (fun h => ?_) (fun h => ?_) | refine br_ne (fun h => ?_) (fun h => ?_) | refine br_eq (fun h => ?_) (fun h => ?_)) <;> first | (exfalso; omega) | conv => whnf)
          | (refine br_intro (fun h => ?_) (fun h => ?_) <;> conv => whnf)
          | ((first | refine auNd ?_ | refine idx_nat (by omega) (fun x hx => ?_) | refine frz_auto ?_ | refine draw_plain ?_ | refine auIx (fun x hx => ?_)); conv => whnf)
        · rw [hs, show eqT itemT x y = false from bnt h]
          rfl
        · rw [show eqT itemT x y = true from bnf h] at hs
          refine back_intro (by conv => whnf) rfl ⟨i + 1, rfl, rfl, by omega, hs⟩ ?_
          show a.length - ((i : Int) + 1).toNat < a.length - (i : Int).toNat
          omega
      · conv => whnf
        repeat' first
          | ((first | refine auIk ?_ | refine auIi ?_ | refine auT ?_ | refine auF ?_ | with_reducible first | refine auKt ?_ | refine auKf ?_ | refine auNt ?_ | refine auNf ?_ | refine auEt ?_ | refine auEf ?_); conv => whnf)
          | ((with_reducible first | refine br_dec (fun h => ?_) (fun h => ?_) | refine br_ndec (fun h => ?_) (fun h => ?_) | refine br_ne (fun h => ?_) (fun h => ?_) | refine br_eq (fun h => ?_) (fun h => ?_)) <;> first | (exfalso; omega) | conv => whnf)
          | (refine br_intro (fun h => ?_) (fun h => ?_) <;> conv => whnf)
          | ((first | refine auNd ?_ | refine idx_nat (by omega) (fun x hx => ?_) | refine frz_auto ?_ | refine draw_plain ?_ | refine auIx (fun x hx => ?_)); conv => whnf)
        rw [hs, same_end (by omega) (by omega)]
  · cases h

set_option maxRecDepth 100000 in
theorem fnOk_eqPr : FnOk Try.prog 34 Try.f34 := ⟨by rfl, by kernel_rfl, by
  show okCode _ _ = true ∧ drawsOk _ = true
  exact ⟨by kernel_rfl, by kernel_rfl⟩⟩
set_option maxRecDepth 100000 in
set_option maxHeartbeats 2000000 in
theorem eqPr_ok : SpecOk Try.prog 34 spSameP := by
  refine spec_body (C := cx0) mixed tbOk SpecsOk.nil (callN_ok (C := cx0) mixed tbOk SpecsOk.nil FnsOk.nil 0) fnOk_eqPr ?_
  intro ys p r h hp
  unfold spSameP at h
  split at h
  · rename_i a b
    cases h
    conv => whnf
    repeat' first
      | ((first | refine auT ?_ | refine auF ?_ | with_reducible first | refine auKt ?_ | refine auKf ?_ | refine auNt ?_ | refine auNf ?_ | refine auEt ?_ | refine auEf ?_); conv => whnf)
      | ((with_reducible first | refine br_dec (fun h => ?_) (fun h => ?_) | refine br_ndec (fun h => ?_) (fun h => ?_) | refine br_ne (fun h => ?_) (fun h => ?_) | refine br_eq (fun h => ?_) (fun h => ?_)) <;> first | (exfalso; omega) | conv => whnf)
      | (refine br_intro (fun h => ?_) (fun h => ?_) <;> conv => whnf)
      | ((first | refine auNd ?_ | refine idx_nat (by omega) (fun x hx => ?_) | refine frz_auto ?_ | refine draw_plain ?_ | refine auIx (fun x hx => ?_)); conv => whnf)
    · refine congrArg AV.bool ?_
      rw [same_len (by omega)]
    · rename_i hlen
      refine loop_inv [] [13] (fun vs h => ∃ i : Nat, vs = [.int .i64 (i : Int)] ∧ h = [] ∧ i ≤ a.length ∧ sameL pairT a b = sameL pairT (a.drop i) (b.drop i)) (fun vs _ => match vs with | [.int _ k] => a.length - k.toNat | _ => 0) ?_
      refine ⟨⟨0, rfl, rfl, Nat.zero_le _, rfl⟩, ?_⟩
      rintro vs h' - ⟨i, rfl, rfl, hi, hs⟩
      by_cases hil : i < a.length
      · obtain ⟨x, hx⟩ : ∃ x, a[i]? = some x := ⟨_, List.getElem?_eq_getElem hil⟩
        obtain ⟨y, hy⟩ : ∃ y, b[i]? = some y := ⟨_, List.getElem?_eq_getElem (by omega)⟩
        rw [same_step hx hy] at hs
        conv => whnf
        repeat' first
          | ((first | refine auIk ?_ | refine auIi ?_ | refine auT ?_ | refine auF ?_ | with_reducible first | refine auKt ?_ | refine auKf ?_ | refine auNt ?_ | refine auNf ?_ | refine auEt ?_ | refine auEf ?_); conv => whnf)
          | ((with_reducible first | refine br_dec (fun h => ?_) (fun h => ?_) | refine br_ndec (fun h => ?_) (fun h => ?_) | refine br_ne (fun h => ?_) (fun h => ?_) | refine br_eq (fun h => ?_) (fun h => ?_)) <;> first | (exfalso; omega) | conv => whnf)
          | (refine br_intro (fun h => ?_) (fun h => ?_) <;> conv => whnf)
          | ((first | refine auNd ?_ | refine idx_nat (by omega) (fun x hx => ?_) | refine frz_auto ?_ | refine draw_plain ?_ | refine auIx (fun x hx => ?_)); conv => whnf)
        · rw [hs, show eqT pairT x y = false from bnt h]
          rfl
        · rw [show eqT pairT x y = true from bnf h] at hs
          refine back_intro (by conv => whnf) rfl ⟨i + 1, rfl, rfl, by omega, hs⟩ ?_
          show a.length - ((i : Int) + 1).toNat < a.length - (i : Int).toNat
          omega
      · conv => whnf
        repeat' first
          | ((first | refine auIk ?_ | refine auIi ?_ | refine auT ?_ | refine auF ?_ | with_reducible first | refine auKt ?_ | refine auKf ?_ | refine auNt ?_ | refine auNf ?_ | refine auEt ?_ | refine auEf ?_); conv => whnf)
          | ((with_reducible first | refine br_dec (fun h => ?_) (fun h => ?_) | refine br_ndec (fun h => ?_) (fun h => ?_) | refine br_ne (fun h => ?_) (fun h => ?_) | refine br_eq (fun h => ?_) (fun h => ?_)) <;> first | (exfalso; omega) | conv => whnf)
          | (refine br_intro (fun h => ?_) (fun h => ?_) <;> conv => whnf)
          | ((first | refine auNd ?_ | refine idx_nat (by omega) (fun x hx => ?_) | refine frz_auto ?_ | refine draw_plain ?_ | refine auIx (fun x hx => ?_)); conv => whnf)
        rw [hs, same_end (by omega) (by omega)]
  · cases h
def spSameE : DSpec
  | [.lst (.st [.str, .str, .bool, .int .i64]) a, .lst (.st [.str, .str, .bool, .int .i64]) b] => some (a.length ≤ 4611686018427387904, .bool (sameL entT a b))
  | _ => none

set_option maxRecDepth 100000 in
theorem fnOk_eqEn : FnOk Try.prog 24 Try.f24 := ⟨by rfl, by kernel_rfl, by
  show okCode _ _ = true ∧ drawsOk _ = true
  exact ⟨by kernel_rfl, by kernel_rfl⟩⟩
set_option maxRecDepth 100000 in
set_option maxHeartbeats 2000000 in
theorem eqEn_ok : SpecOk Try.prog 24 spSameE := by
  refine spec_body (C := cx0) mixed tbOk SpecsOk.nil (callN_ok (C := cx0) mixed tbOk SpecsOk.nil FnsOk.nil 0) fnOk_eqEn ?_
  intro ys p r h hp
  unfold spSameE at h
  split at h
  · rename_i a b
    cases h
    conv => whnf
    repeat' first
      | ((first | refine auT ?_ | refine auF ?_ | with_reducible first | refine auKt ?_ | refine auKf ?_ | refine auNt ?_ | refine auNf ?_ | refine auEt ?_ | refine auEf ?_); conv => whnf)
      | ((with_reducible first | refine br_dec (fun h => ?_) (fun h => ?_) | refine br_ndec (fun h => ?_) (fun h => ?_) | refine br_ne (fun h => ?_) (fun h => ?_) | refine br_eq (fun h => ?_) (fun h => ?_)) <;> first | (exfalso; omega) | conv => whnf)
      | (refine br_intro (fun h => ?_) (fun h => ?_) <;> conv => whnf)
      | ((first | refine auNd ?_ | refine idx_nat (by omega) (fun x hx => ?_) | refine frz_auto ?_ | refine draw_plain ?_ | refine auIx (fun x hx => ?_)); conv => whnf)
    · refine congrArg AV.bool ?_
      rw [same_len (by omega)]
    · rename_i hlen
      refine loop_inv [] [13] (fun vs h => ∃ i : Nat, vs = [.int .i64 (i : Int)] ∧ h = [] ∧ i ≤ a.length ∧ sameL entT a b = sameL entT (a.drop i) (b.drop i)) (fun vs _ => match vs with | [.int _ k] => a.length - k.toNat | _ => 0) ?_
      refine ⟨⟨0, rfl, rfl, Nat.zero_le _, rfl⟩, ?_⟩
      rintro vs h' - ⟨i, rfl, rfl, hi, hs⟩
      by_cases hil : i < a.length
      · obtain ⟨x, hx⟩ : ∃ x, a[i]? = some x := ⟨_, List.getElem?_eq_getElem hil⟩
        obtain ⟨y, hy⟩ : ∃ y, b[i]? = some y := ⟨_, List.getElem?_eq_getElem (by omega)⟩
        rw [same_step hx hy] at hs
        conv => whnf
        repeat' first
          | ((first | refine auIk ?_ | refine auIi ?_ | refine auT ?_ | refine auF ?_ | with_reducible first | refine auKt ?_ | refine auKf ?_ | refine auNt ?_ | refine auNf ?_ | refine auEt ?_ | refine auEf ?_); conv => whnf)
          | ((with_reducible first | refine br_dec (fun h => ?_) (fun h => ?_) | refine br_ndec (fun h => ?_) (fun h => ?_) | refine br_ne (fun h => ?_) (fun h => ?_) | refine br_eq (fun h => ?_) (fun h => ?_)) <;> first | (exfalso; omega) | conv => whnf)
          | (refine br_intro (fun h => ?_) (fun h => ?_) <;> conv => whnf)
          | ((first | refine auNd ?_ | refine idx_nat (by omega) (fun x hx => ?_) | refine frz_auto ?_ | refine draw_plain ?_ | refine auIx (fun x hx => ?_)); conv => whnf)
        · rw [hs, show eqT entT x y = false from bnt h]
          rfl
        · rw [show eqT entT x y = true from bnf h] at hs
          refine back_intro (by conv => whnf) rfl ⟨i + 1, rfl, rfl, by omega, hs⟩ ?_
          show a.length - ((i : Int) + 1).toNat < a.length - (i : Int).toNat
          omega
      · conv => whnf
        repeat' first
          | ((first | refine auIk ?_ | refine auIi ?_ | refine auT ?_ | refine auF ?_ | with_reducible first | refine auKt ?_ | refine auKf ?_ | refine auNt ?_ | refine auNf ?_ | refine auEt ?_ | refine auEf ?_); conv => whnf)
          | ((with_reducible first | refine br_dec (fun h => ?_) (fun h => ?_) | refine br_ndec (fun h => ?_) (fun h => ?_) | refine br_ne (fun h => ?_) (fun h => ?_) | refine br_eq (fun h => ?_) (fun h => ?_)) <;> first | (exfalso; omega) | conv => whnf)
          | (refine br_intro (fun h => ?_) (fun h => ?_) <;> conv => whnf)
          | ((first | refine auNd ?_ | refine idx_nat (by omega) (fun x hx => ?_) | refine frz_auto ?_ | refine draw_plain ?_ | refine auIx (fun x hx => ?_)); conv => whnf)
        rw [hs, same_end (by omega) (by omega)]
  · cases h
end Go.Proofs.Ytdbnohpolknbbaa
namespace Go.Proofs.Ytdbnohpolknbbaa
open Av Bk

/-- The error of two views. -/
def dvE (b : List entT.El) (rs : List runT.El) (b2 : List entT.El) (rs2 : List runT.El) : Int := if (vcL b rs).2 ≠ 0 then (vcL b rs).2 else (vcL b2 rs2).2
abbrev mV (b : List entT.El) (rs : List runT.El) : List pairT.El := mapL (allE b rs)
theorem dv_zero {b : List entT.El} {rs : List runT.El} {b2 : List entT.El} {rs2 : List runT.El} (h : dvE b rs b2 rs2 = 0) : (vcL b rs).2 = 0 ∧ (vcL b2 rs2).2 = 0 := by
  unfold dvE at h
  split at h
  · rename_i h1; exact absurd h h1
  · rename_i h1; exact ⟨by simpa using h1, h⟩
theorem dv_good {b : List entT.El} {rs : List runT.El} {b2 : List entT.El} {rs2 : List runT.El} (h1 : (vcL b rs).2 = 0) (h2 : (vcL b2 rs2).2 = 0) : dvE b rs b2 rs2 = 0 := by
  unfold dvE
  rw [if_neg (by simp [h1]), h2]
/-- What maps answers. -/
def mpR (b : List entT.El) (rs : List runT.El) (b2 : List entT.El) (rs2 : List runT.El) : List pairT.El × List pairT.El × Int := if dvE b rs b2 rs2 ≠ 0 then ([], [], dvE b rs b2 rs2) else (mV b rs, mV b2 rs2, 0)
def spMp : DSpec
  | [.agg [.lst (.st [.str, .str, .bool, .int .i64]) b, .lst (.st [.int .i64, .sl (.st [.str, .str, .bool, .int .i64])]) rs], .agg [.lst (.st [.str, .str, .bool, .int .i64]) b2, .lst (.st [.int .i64, .sl (.st [.str, .str, .bool, .int .i64])]) rs2]] => some (True, .tup [.lst pairT (mpR b rs b2 rs2).1, .lst pairT (mpR b rs b2 rs2).2.1, .int .i64 (mpR b rs b2 rs2).2.2])
  | _ => none
theorem lo_all (k : ByteArray) : sLt k ⟨#[]⟩ = false := by
  unfold sLt
  cases k.data.toList <;> rfl
theorem part_alU {b : List entT.El} {rs : List runT.El} (h : (vcL b rs).2 = 0) : partR b rs ⟨#[]⟩ ⟨#[]⟩ false = (mV b rs, 0) := by
  unfold partR
  rw [if_neg (by simp [h]), if_neg (by decide)]
  congr 1
  rw [List.filter_eq_self]
  intro p _
  unfold hasB
  rw [lo_all]
  rfl
theorem mV_len {b : List entT.El} {rs : List runT.El} (h : (vcL b rs).2 = 0) : (mV b rs).length ≤ 1000000000 := Nat.le_trans (mapL_len _) (all_len (vcL_zero h)).2
set_option maxRecDepth 100000 in
theorem fnOk_dMaps : FnOk Try.prog 20 Try.f20 := ⟨by rfl, by kernel_rfl, by
  show okCode _ _ = true ∧ drawsOk _ = true
  exact ⟨by kernel_rfl, by kernel_rfl⟩⟩
set_option maxRecDepth 100000 in
theorem fnOk_dDiff : FnOk Try.prog 8 Try.f8 := ⟨by rfl, by kernel_rfl, by
  show okCode _ _ = true ∧ drawsOk _ = true
  exact ⟨by kernel_rfl, by kernel_rfl⟩⟩
set_option maxRecDepth 100000 in
theorem fnOk_dSame : FnOk Try.prog 16 Try.f16 := ⟨by rfl, by kernel_rfl, by
  show okCode _ _ = true ∧ drawsOk _ = true
  exact ⟨by kernel_rfl, by kernel_rfl⟩⟩
noncomputable def cxun : Cx := ⟨tb, [], [(41, spVC), (42, spPart)]⟩
theorem specsun : SpecsOk Try.prog cxun.specs := .cons verC_ok (.cons lkPart_ok .nil)
set_option maxRecDepth 100000 in
set_option maxHeartbeats 4000000 in
theorem dMaps_ok : SpecOk Try.prog 20 spMp := by
  refine spec_body (C := cxun) mixed tbOk specsun (callN_ok (C := cxun) mixed tbOk specsun FnsOk.nil 0) fnOk_dMaps ?_
  intro ys p r h hp
  unfold spMp at h
  split at h
  · rename_i b rs b2 rs2
    cases h
    have q0 : ([(b, rs, ()), (b2, rs2, ())] : List viewT.El)[Int.toNat 0]? = some (b, rs, ()) := rfl
    have q1 : ([(b, rs, ()), (b2, rs2, ())] : List viewT.El)[Int.toNat (0 + 1)]? = some (b2, rs2, ()) := rfl
    by_cases h1 : (vcL b rs).2 = 0
    · by_cases h2 : (vcL b2 rs2).2 = 0
      · have hp1 := part_alU h1
        have hp2 := part_alU h2
        have hp1e : (partR b rs ⟨#[]⟩ ⟨#[]⟩ false).2 = 0 := by rw [hp1]
        have hm : mpR b rs b2 rs2 = ((partR b rs ⟨#[]⟩ ⟨#[]⟩ false).1, (partR b2 rs2 ⟨#[]⟩ ⟨#[]⟩ false).1, (partR b2 rs2 ⟨#[]⟩ ⟨#[]⟩ false).2) := by
          rw [mpR, if_neg (by simp [dv_good h1 h2]), hp1, hp2]
        conv => whnf
        repeat' first
          | ((first | refine auIk ?_ | refine auIi ?_ | refine auT ?_ | refine auF ?_ | with_reducible first | refine auKt ?_ | refine auKf ?_ | refine auNt ?_ | refine auNf ?_ | refine auEt ?_ | refine auEf ?_); conv => whnf)
          | ((with_reducible first | refine br_dec (fun h => ?_) (fun h => ?_) | refine br_ndec (fun h => ?_) (fun h => ?_) | refine br_ne (fun h => ?_) (fun h => ?_) | refine br_eq (fun h => ?_) (fun h => ?_)) <;> first | (exfalso; omega) | conv => whnf)
          | (refine br_intro (fun h => ?_) (fun h => ?_) <;> conv => whnf)
          | ((first | refine auNd ?_ | refine idx_nat (by omega) (fun x hx => ?_) | refine frz_auto ?_ | refine draw_plain ?_ | refine auIx (fun x hx => ?_)); conv => whnf)
        refine loop_turns 3 ?_
        conv => whnf
        repeat' first
          | ((first | refine auIk ?_ | refine auIi ?_ | refine auT ?_ | refine auF ?_ | with_reducible first | refine auKt ?_ | refine auKf ?_ | refine auNt ?_ | refine auNf ?_ | refine auEt ?_ | refine auEf ?_); conv => whnf)
          | ((with_reducible first | refine br_dec (fun h => ?_) (fun h => ?_) | refine br_ndec (fun h => ?_) (fun h => ?_) | refine br_ne (fun h => ?_) (fun h => ?_) | refine br_eq (fun h => ?_) (fun h => ?_)) <;> first | (exfalso; omega) | conv => whnf)
          | (refine br_intro (fun h => ?_) (fun h => ?_) <;> conv => whnf)
          | ((first | refine auNd ?_ | refine idx_nat (by omega) (fun x hx => ?_) | refine frz_auto ?_ | refine draw_plain ?_ | refine auIx (fun x hx => ?_)); conv => whnf)
        rw [hm]
      · have hm : mpR b rs b2 rs2 = ([], [], (vcL b2 rs2).2) := by
          have : dvE b rs b2 rs2 = (vcL b2 rs2).2 := by unfold dvE; rw [if_neg (by simp [h1])]
          rw [mpR, this, if_pos h2]
        conv => whnf
        repeat' first
          | ((first | refine auIk ?_ | refine auIi ?_ | refine auT ?_ | refine auF ?_ | with_reducible first | refine auKt ?_ | refine auKf ?_ | refine auNt ?_ | refine auNf ?_ | refine auEt ?_ | refine auEf ?_); conv => whnf)
          | ((with_reducible first | refine br_dec (fun h => ?_) (fun h => ?_) | refine br_ndec (fun h => ?_) (fun h => ?_) | refine br_ne (fun h => ?_) (fun h => ?_) | refine br_eq (fun h => ?_) (fun h => ?_)) <;> first | (exfalso; omega) | conv => whnf)
          | (refine br_intro (fun h => ?_) (fun h => ?_) <;> conv => whnf)
          | ((first | refine auNd ?_ | refine idx_nat (by omega) (fun x hx => ?_) | refine frz_auto ?_ | refine draw_plain ?_ | refine auIx (fun x hx => ?_)); conv => whnf)
        refine loop_turns 3 ?_
        conv => whnf
        repeat' first
          | ((first | refine auIk ?_ | refine auIi ?_ | refine auT ?_ | refine auF ?_ | with_reducible first | refine auKt ?_ | refine auKf ?_ | refine auNt ?_ | refine auNf ?_ | refine auEt ?_ | refine auEf ?_); conv => whnf)
          | ((with_reducible first | refine br_dec (fun h => ?_) (fun h => ?_) | refine br_ndec (fun h => ?_) (fun h => ?_) | refine br_ne (fun h => ?_) (fun h => ?_) | refine br_eq (fun h => ?_) (fun h => ?_)) <;> first | (exfalso; omega) | conv => whnf)
          | (refine br_intro (fun h => ?_) (fun h => ?_) <;> conv => whnf)
          | ((first | refine auNd ?_ | refine idx_nat (by omega) (fun x hx => ?_) | refine frz_auto ?_ | refine draw_plain ?_ | refine auIx (fun x hx => ?_)); conv => whnf)
        rw [hm]
        rfl
    · have hm : mpR b rs b2 rs2 = ([], [], (vcL b rs).2) := by
        have : dvE b rs b2 rs2 = (vcL b rs).2 := by unfold dvE; rw [if_pos h1]
        rw [mpR, this, if_pos h1]
      conv => whnf
      repeat' first
        | ((first | refine auIk ?_ | refine auIi ?_ | refine auT ?_ | refine auF ?_ | with_reducible first | refine auKt ?_ | refine auKf ?_ | refine auNt ?_ | refine auNf ?_ | refine auEt ?_ | refine auEf ?_); conv => whnf)
        | ((with_reducible first | refine br_dec (fun h => ?_) (fun h => ?_) | refine br_ndec (fun h => ?_) (fun h => ?_) | refine br_ne (fun h => ?_) (fun h => ?_) | refine br_eq (fun h => ?_) (fun h => ?_)) <;> first | (exfalso; omega) | conv => whnf)
        | (refine br_intro (fun h => ?_) (fun h => ?_) <;> conv => whnf)
        | ((first | refine auNd ?_ | refine idx_nat (by omega) (fun x hx => ?_) | refine frz_auto ?_ | refine draw_plain ?_ | refine auIx (fun x hx => ?_)); conv => whnf)
      refine loop_turns 3 ?_
      conv => whnf
      repeat' first
        | ((first | refine auIk ?_ | refine auIi ?_ | refine auT ?_ | refine auF ?_ | with_reducible first | refine auKt ?_ | refine auKf ?_ | refine auNt ?_ | refine auNf ?_ | refine auEt ?_ | refine auEf ?_); conv => whnf)
        | ((with_reducible first | refine br_dec (fun h => ?_) (fun h => ?_) | refine br_ndec (fun h => ?_) (fun h => ?_) | refine br_ne (fun h => ?_) (fun h => ?_) | refine br_eq (fun h => ?_) (fun h => ?_)) <;> first | (exfalso; omega) | conv => whnf)
        | (refine br_intro (fun h => ?_) (fun h => ?_) <;> conv => whnf)
        | ((first | refine auNd ?_ | refine idx_nat (by omega) (fun x hx => ?_) | refine frz_auto ?_ | refine draw_plain ?_ | refine auIx (fun x hx => ?_)); conv => whnf)
      rw [hm]
      rfl
  · cases h
/-- What Diff answers. -/
def dvR (b : List entT.El) (rs : List runT.El) (b2 : List entT.El) (rs2 : List runT.El) : List itemT.El × Int := if dvE b rs b2 rs2 ≠ 0 then ([], dvE b rs b2 rs2) else dfR (mV b rs) (mV b2 rs2)
def spDv : DSpec
  | [.agg [.lst (.st [.str, .str, .bool, .int .i64]) b, .lst (.st [.int .i64, .sl (.st [.str, .str, .bool, .int .i64])]) rs], .agg [.lst (.st [.str, .str, .bool, .int .i64]) b2, .lst (.st [.int .i64, .sl (.st [.str, .str, .bool, .int .i64])]) rs2]] => some (True, .tup [.lst itemT (dvR b rs b2 rs2).1, .int .i64 (dvR b rs b2 rs2).2])
  | _ => none
def svR (b : List entT.El) (rs : List runT.El) (b2 : List entT.El) (rs2 : List runT.El) : Bool := decide (dvE b rs b2 rs2 = 0) && sameL pairT (mV b rs) (mV b2 rs2)
def spSv : DSpec
  | [.agg [.lst (.st [.str, .str, .bool, .int .i64]) b, .lst (.st [.int .i64, .sl (.st [.str, .str, .bool, .int .i64])]) rs], .agg [.lst (.st [.str, .str, .bool, .int .i64]) b2, .lst (.st [.int .i64, .sl (.st [.str, .str, .bool, .int .i64])]) rs2]] => some (True, .tup [.bool (svR b rs b2 rs2), .int .i64 (dvE b rs b2 rs2)])
  | _ => none
noncomputable def cxun2 : Cx := ⟨tb, [], [(20, spMp), (21, spDiff), (34, spSameP)]⟩
theorem specsun2 : SpecsOk Try.prog cxun2.specs := .cons dMaps_ok (.cons mDiff_ok (.cons eqPr_ok .nil))
set_option maxRecDepth 100000 in
set_option maxHeartbeats 4000000 in
theorem dDiff_ok : SpecOk Try.prog 8 spDv := by
  refine spec_body (C := cxun2) mixed tbOk specsun2 (callN_ok (C := cxun2) mixed tbOk specsun2 FnsOk.nil 0) fnOk_dDiff ?_
  intro ys p r h hp
  unfold spDv at h
  split at h
  · rename_i b rs b2 rs2
    cases h
    by_cases he : dvE b rs b2 rs2 = 0
    · have hm : mpR b rs b2 rs2 = (mV b rs, mV b2 rs2, 0) := by rw [mpR, if_neg (by simp [he])]
      have hme : (mpR b rs b2 rs2).2.2 = 0 := by rw [hm]
      have hm1 : (mpR b rs b2 rs2).1.length ≤ 4611686018427387904 := by rw [hm]; have := mV_len (dv_zero he).1; show (mV b rs).length ≤ _; omega
      have hm2 : (mpR b rs b2 rs2).2.1.length ≤ 4611686018427387904 := by rw [hm]; have := mV_len (dv_zero he).2; show (mV b2 rs2).length ≤ _; omega
      conv => whnf
      repeat' first
        | ((first | refine auIk ?_ | refine auIi ?_ | refine auT ?_ | refine auF ?_ | with_reducible first | refine auKt ?_ | refine auKf ?_ | refine auNt ?_ | refine auNf ?_ | refine auEt ?_ | refine auEf ?_); conv => whnf)
        | ((with_reducible first | refine br_dec (fun h => ?_) (fun h => ?_) | refine br_ndec (fun h => ?_) (fun h => ?_) | refine br_ne (fun h => ?_) (fun h => ?_) | refine br_eq (fun h => ?_) (fun h => ?_)) <;> first | (exfalso; omega) | conv => whnf)
        | (refine br_intro (fun h => ?_) (fun h => ?_) <;> conv => whnf)
        | ((first | refine auNd ?_ | refine idx_nat (by omega) (fun x hx => ?_) | refine frz_auto ?_ | refine draw_plain ?_ | refine auIx (fun x hx => ?_)); conv => whnf)
      rw [dvR, if_neg (by simp [he]), hm]
    · have hm : mpR b rs b2 rs2 = ([], [], dvE b rs b2 rs2) := by rw [mpR, if_pos he]
      have hme : ¬ (mpR b rs b2 rs2).2.2 = 0 := by rw [hm]; exact he
      conv => whnf
      repeat' first
        | ((first | refine auIk ?_ | refine auIi ?_ | refine auT ?_ | refine auF ?_ | with_reducible first | refine auKt ?_ | refine auKf ?_ | refine auNt ?_ | refine auNf ?_ | refine auEt ?_ | refine auEf ?_); conv => whnf)
        | ((with_reducible first | refine br_dec (fun h => ?_) (fun h => ?_) | refine br_ndec (fun h => ?_) (fun h => ?_) | refine br_ne (fun h => ?_) (fun h => ?_) | refine br_eq (fun h => ?_) (fun h => ?_)) <;> first | (exfalso; omega) | conv => whnf)
        | (refine br_intro (fun h => ?_) (fun h => ?_) <;> conv => whnf)
        | ((first | refine auNd ?_ | refine idx_nat (by omega) (fun x hx => ?_) | refine frz_auto ?_ | refine draw_plain ?_ | refine auIx (fun x hx => ?_)); conv => whnf)
      rw [dvR, if_pos he, hm]
      rfl
  · cases h
set_option maxRecDepth 100000 in
set_option maxHeartbeats 4000000 in
theorem dSame_ok : SpecOk Try.prog 16 spSv := by
  refine spec_body (C := cxun2) mixed tbOk specsun2 (callN_ok (C := cxun2) mixed tbOk specsun2 FnsOk.nil 0) fnOk_dSame ?_
  intro ys p r h hp
  unfold spSv at h
  split at h
  · rename_i b rs b2 rs2
    cases h
    by_cases he : dvE b rs b2 rs2 = 0
    · have hm : mpR b rs b2 rs2 = (mV b rs, mV b2 rs2, 0) := by rw [mpR, if_neg (by simp [he])]
      have hme : (mpR b rs b2 rs2).2.2 = 0 := by rw [hm]
      have hm1 : (mpR b rs b2 rs2).1.length ≤ 4611686018427387904 := by rw [hm]; have := mV_len (dv_zero he).1; show (mV b rs).length ≤ _; omega
      conv => whnf
      repeat' first
        | ((first | refine auIk ?_ | refine auIi ?_ | refine auT ?_ | refine auF ?_ | with_reducible first | refine auKt ?_ | refine auKf ?_ | refine auNt ?_ | refine auNf ?_ | refine auEt ?_ | refine auEf ?_); conv => whnf)
        | ((with_reducible first | refine br_dec (fun h => ?_) (fun h => ?_) | refine br_ndec (fun h => ?_) (fun h => ?_) | refine br_ne (fun h => ?_) (fun h => ?_) | refine br_eq (fun h => ?_) (fun h => ?_)) <;> first | (exfalso; omega) | conv => whnf)
        | (refine br_intro (fun h => ?_) (fun h => ?_) <;> conv => whnf)
        | ((first | refine auNd ?_ | refine idx_nat (by omega) (fun x hx => ?_) | refine frz_auto ?_ | refine draw_plain ?_ | refine auIx (fun x hx => ?_)); conv => whnf)
      rw [svR, hm, he]
      rfl
    · have hm : mpR b rs b2 rs2 = ([], [], dvE b rs b2 rs2) := by rw [mpR, if_pos he]
      have hme : ¬ (mpR b rs b2 rs2).2.2 = 0 := by rw [hm]; exact he
      conv => whnf
      repeat' first
        | ((first | refine auIk ?_ | refine auIi ?_ | refine auT ?_ | refine auF ?_ | with_reducible first | refine auKt ?_ | refine auKf ?_ | refine auNt ?_ | refine auNf ?_ | refine auEt ?_ | refine auEf ?_); conv => whnf)
        | ((with_reducible first | refine br_dec (fun h => ?_) (fun h => ?_) | refine br_ndec (fun h => ?_) (fun h => ?_) | refine br_ne (fun h => ?_) (fun h => ?_) | refine br_eq (fun h => ?_) (fun h => ?_)) <;> first | (exfalso; omega) | conv => whnf)
        | (refine br_intro (fun h => ?_) (fun h => ?_) <;> conv => whnf)
        | ((first | refine auNd ?_ | refine idx_nat (by omega) (fun x hx => ?_) | refine frz_auto ?_ | refine draw_plain ?_ | refine auIx (fun x hx => ?_)); conv => whnf)
      rw [svR, hm, decide_eq_false he]
      rfl
  · cases h
end Go.Proofs.Ytdbnohpolknbbaa
namespace Go.Proofs.Ytdbnohpolknbbaa
open Av Bk

theorem take_nxU {α : Type} {a b : List α} {i : Nat} {x : α} (h : a.take i = b.take i) (ha : a[i]? = some x) (hb : b[i]? = some x) : a.take (i + 1) = b.take (i + 1) := by
  rw [List.take_add_one, List.take_add_one, h, ha, hb]
theorem take_alU {α : Type} {a b : List α} {i : Nat} (h : a.take i = b.take i) (ha : a.length ≤ i) (hb : b.length ≤ i) : a = b := by
  rwa [List.take_of_length_le ha, List.take_of_length_le hb] at h
theorem ne_atU {α : Type} {a b : List α} {i : Nat} {x y : α} (ha : a[i]? = some x) (hb : b[i]? = some y) (h : x ≠ y) : a ≠ b := by
  rintro rfl
  rw [ha] at hb
  cases hb
  exact h rfl
set_option maxRecDepth 100000 in
theorem fnOk_rInts : FnOk Try.prog 18 Try.f18 := ⟨by rfl, by kernel_rfl, by
  show okCode _ _ = true ∧ drawsOk _ = true
  exact ⟨by kernel_rfl, by kernel_rfl⟩⟩
def spInts : DSpec
  | [.lst (.int .i64) a, .lst (.int .i64) b] => some (a.length ≤ 4611686018427387904, .bool (decide (a = b)))
  | _ => none
set_option maxRecDepth 100000 in
set_option maxHeartbeats 2000000 in
theorem rInts_ok : SpecOk Try.prog 18 spInts := by
  refine spec_body (C := cx0) mixed tbOk SpecsOk.nil (callN_ok (C := cx0) mixed tbOk SpecsOk.nil FnsOk.nil 0) fnOk_rInts ?_
  intro ys p r h hp
  unfold spInts at h
  split at h
  · rename_i a b
    cases h
    by_cases hlen : a.length = b.length
    · conv => whnf
      repeat' first
        | ((first | refine auT ?_ | refine auF ?_ | with_reducible first | refine auKt ?_ | refine auKf ?_ | refine auNt ?_ | refine auNf ?_ | refine auEt ?_ | refine auEf ?_); conv => whnf)
        | ((with_reducible first | refine br_dec (fun h => ?_) (fun h => ?_) | refine br_ndec (fun h => ?_) (fun h => ?_) | refine br_ne (fun h => ?_) (fun h => ?_) | refine br_eq (fun h => ?_) (fun h => ?_)) <;> first | (exfalso; omega) | conv => whnf)
        | (refine br_intro (fun h => ?_) (fun h => ?_) <;> conv => whnf)
        | ((first | refine auNd ?_ | refine idx_nat (by omega) (fun x hx => ?_) | refine frz_auto ?_ | refine draw_plain ?_ | refine auIx (fun x hx => ?_)); conv => whnf)
      refine loop_inv [] [5] (fun vs h => ∃ i : Nat, vs = [.int .i64 (i : Int)] ∧ h = [] ∧ i ≤ a.length ∧ a.take i = b.take i) (fun vs _ => match vs with | [.int _ k] => a.length - k.toNat | _ => 0) ?_
      refine ⟨⟨0, rfl, rfl, Nat.zero_le _, rfl⟩, ?_⟩
      rintro vs h' - ⟨i, rfl, rfl, hi, hs⟩
      conv => whnf
      by_cases hil : i < a.length
      · obtain ⟨x, hx⟩ : ∃ x, a[i]? = some x := ⟨_, List.getElem?_eq_getElem hil⟩
        obtain ⟨y, hy⟩ : ∃ y, b[i]? = some y := ⟨_, List.getElem?_eq_getElem (by omega)⟩
        repeat' first
          | ((first | refine auIk ?_ | refine auIi ?_ | refine auT ?_ | refine auF ?_ | with_reducible first | refine auKt ?_ | refine auKf ?_ | refine auNt ?_ | refine auNf ?_ | refine auEt ?_ | refine auEf ?_); conv => whnf)
          | ((with_reducible first | refine br_dec (fun h => ?_) (fun h => ?_) | refine br_ndec (fun h => ?_) (fun h => ?_) | refine br_ne (fun h => ?_) (fun h => ?_) | refine br_eq (fun h => ?_) (fun h => ?_)) <;> first | (exfalso; omega) | conv => whnf)
          | (refine br_intro (fun h => ?_) (fun h => ?_) <;> conv => whnf)
          | ((first | refine auNd ?_ | refine idx_nat (by omega) (fun x hx => ?_) | refine frz_auto ?_ | refine draw_plain ?_ | refine auIx (fun x hx => ?_)); conv => whnf)
        · rw [decide_eq_false (ne_atU hx hy h)]
        · subst h
          refine back_intro (by conv => whnf) rfl ⟨i + 1, rfl, rfl, by omega, take_nxU hs hx hy⟩ ?_
          show a.length - ((i : Int) + 1).toNat < a.length - (i : Int).toNat
          omega
      · skip
        repeat' first
          | ((first | refine auIk ?_ | refine auIi ?_ | refine auT ?_ | refine auF ?_ | with_reducible first | refine auKt ?_ | refine auKf ?_ | refine auNt ?_ | refine auNf ?_ | refine auEt ?_ | refine auEf ?_); conv => whnf)
          | ((with_reducible first | refine br_dec (fun h => ?_) (fun h => ?_) | refine br_ndec (fun h => ?_) (fun h => ?_) | refine br_ne (fun h => ?_) (fun h => ?_) | refine br_eq (fun h => ?_) (fun h => ?_)) <;> first | (exfalso; omega) | conv => whnf)
          | (refine br_intro (fun h => ?_) (fun h => ?_) <;> conv => whnf)
          | ((first | refine auNd ?_ | refine idx_nat (by omega) (fun x hx => ?_) | refine frz_auto ?_ | refine draw_plain ?_ | refine auIx (fun x hx => ?_)); conv => whnf)
        rw [decide_eq_true (take_alU hs (by omega) (by omega))]
    · have hne : a ≠ b := fun e => hlen (by rw [e])
      conv => whnf
      repeat' first
        | ((first | refine auT ?_ | refine auF ?_ | with_reducible first | refine auKt ?_ | refine auKf ?_ | refine auNt ?_ | refine auNf ?_ | refine auEt ?_ | refine auEf ?_); conv => whnf)
        | ((with_reducible first | refine br_dec (fun h => ?_) (fun h => ?_) | refine br_ndec (fun h => ?_) (fun h => ?_) | refine br_ne (fun h => ?_) (fun h => ?_) | refine br_eq (fun h => ?_) (fun h => ?_)) <;> first | (exfalso; omega) | conv => whnf)
        | (refine br_intro (fun h => ?_) (fun h => ?_) <;> conv => whnf)
        | ((first | refine auNd ?_ | refine idx_nat (by omega) (fun x hx => ?_) | refine frz_auto ?_ | refine draw_plain ?_ | refine auIx (fun x hx => ?_)); conv => whnf)
      rw [decide_eq_false hne]
  · cases h
/-! ### Shared runs: plain -/
/-- Whether two runs are one. -/
def mtB (r s : runT.El) : Bool := (r.1 == s.1) && sameL entT r.2.1 s.2.1
/-! ### The functions -/
theorem run_len {b : List entT.El} {rs : List runT.El} (h : (vcL b rs).2 = 0) {r : runT.El} (hr : r ∈ rs) : r.2.1.length ≤ 4611686018427387904 := by
  have := (clL_zero ((vcL_zero h).gr r hr)).1
  omega
end Go.Proofs.Ytdbnohpolknbbaa
