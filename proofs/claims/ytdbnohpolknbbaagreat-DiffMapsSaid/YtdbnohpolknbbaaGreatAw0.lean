/-
  The map of a view, by the reference.
  The parts of a view: plain Lean.
  Views that are more than is looked at.
  An abstract reading of values and memory: a move that stands first in a region comes first, whatever the order.
-/
import Derived.Test.YtdbnohpolknbbaaGreatLg
import Derived.Test.YtdbnohpolknbbaaGreatE5
namespace Go.Proofs.YtdbnohpolknbbaaGreat
open Av Bk

theorem into_take {l : List pairT.El} {i : Nat} (hi : i ≤ l.length) (p : pairT.El) :
    List.take (0 + (List.take ((i : Int).toNat - Int.toNat 0) (List.drop (Int.toNat 0) l)).length + (List.take (1 + (List.take ((l.length : Int).toNat - (i : Int).toNat) (List.drop (i : Int).toNat l)).length) (List.take 1 [p] ++ List.take ((l.length : Int).toNat - (i : Int).toNat) (List.drop (i : Int).toNat l))).length)
      (List.take (0 + (List.take ((i : Int).toNat - Int.toNat 0) (List.drop (Int.toNat 0) l)).length) (List.take 0 [] ++ List.take ((i : Int).toNat - Int.toNat 0) (List.drop (Int.toNat 0) l)) ++
        List.take (1 + (List.take ((l.length : Int).toNat - (i : Int).toNat) (List.drop (i : Int).toNat l)).length) (List.take 1 [p] ++ List.take ((l.length : Int).toNat - (i : Int).toNat) (List.drop (i : Int).toNat l)))
    = l.take i ++ p :: l.drop i := by
  simp only [Int.toNat_natCast, show Int.toNat 0 = 0 from rfl, Nat.sub_zero, List.drop_zero, List.take_zero, List.nil_append, Nat.zero_add]
  have e1 : List.take (l.length - i) (l.drop i) = l.drop i := List.take_of_length_le (by simp)
  have e2 : (l.take i).length = i := by simp; omega
  rw [e1, e2]
  have e3 : List.take (1 + (l.drop i).length) (List.take 1 [p] ++ l.drop i) = p :: l.drop i := List.take_of_length_le (by simp; omega)
  rw [e3]
  have e4 : List.take i (l.take i) = l.take i := List.take_of_length_le (by omega)
  rw [e4]
  exact List.take_of_length_le (by simp; omega)
theorem mb_eq {a b : Bool} {c : AV} (h : a = b) : [AV.bool a, c] = [AV.bool b, c] := by rw [h]
theorem own_m {id g n m : Nat} {c d : AV} (h : n = m) : [d, AV.own id g n, c] = [d, AV.own id g m, c] := by rw [h]
theorem heap_m {a b c : AObj} {T : TypeId} {t : Ty} {g : Nat} {l m : List t.El} (hl : l = m) : [a, b, c, .arr T t l false g] = [a, b, c, AObj.arr T t m false g] := by rw [hl]
def spInto : DSpec
  | [.lst (.st [.str, .str]) l, .agg [.str k, .str v]] => some (l.length ≤ 1000000000, .lst pairT (intoP l (mkP k v)))
  | _ => none
set_option maxRecDepth 100000 in
theorem fnOk_rInto : FnOk Tryz.prog 34 Tryz.f34 := ⟨by rfl, by kernel_rfl, by
  show okCode _ _ = true ∧ drawsOk _ = true
  exact ⟨by kernel_rfl, by kernel_rfl⟩⟩
set_option maxRecDepth 100000 in
set_option maxHeartbeats 2000000 in
theorem rInto_ok : SpecOk Tryz.prog 34 spInto := by
  refine spec_body (C := cx0) mixed tbOk SpecsOk.nil (callN_ok (C := cx0) mixed tbOk SpecsOk.nil FnsOk.nil 0) fnOk_rInto ?_
  intro ys p r h hp
  unfold spInto at h
  split at h
  · rename_i l k v
    cases h
    conv => whnf
    repeat' first
      | ((first | refine auT ?_ | refine auF ?_ | with_reducible first | refine auKt ?_ | refine auKf ?_ | refine auNt ?_ | refine auNf ?_ | refine auEt ?_ | refine auEf ?_); conv => whnf)
      | ((with_reducible first | refine br_dec (fun h => ?_) (fun h => ?_) | refine br_ndec (fun h => ?_) (fun h => ?_) | refine br_ne (fun h => ?_) (fun h => ?_) | refine br_eq (fun h => ?_) (fun h => ?_)) <;> first | (exfalso; omega) | conv => whnf)
      | (refine br_intro (fun h => ?_) (fun h => ?_) <;> conv => whnf)
      | ((first | refine auNd ?_ | refine idx_nat (by omega) (fun x hx => ?_) | refine frz_auto ?_ | refine draw_plain ?_ | refine auIx (fun x hx => ?_)); conv => whnf)
    refine loop_inv [] [5] (fun vs h => ∃ i : Nat, vs = [.int .i64 (i : Int)] ∧ h = [.cells 60 [.str k, .str v], .arr 60 pairT [] false 0] ∧ i ≤ l.length ∧ ∀ p ∈ l.take i, sLt p.1 k = true) (fun vs _ => match vs with | [.int _ k] => l.length - k.toNat | _ => 0) ?_
    conv => whnf
    refine ⟨⟨0, rfl, rfl, Nat.zero_le _, by simp⟩, ?_⟩
    rintro vs h' - ⟨i, rfl, rfl, hi, hall⟩
    conv => whnf
    repeat' first
      | ((first | refine auT ?_ | refine auF ?_ | with_reducible first | refine auKt ?_ | refine auKf ?_ | refine auNt ?_ | refine auNf ?_ | refine auEt ?_ | refine auEf ?_); conv => whnf)
      | ((with_reducible first | refine br_dec (fun h => ?_) (fun h => ?_) | refine br_ndec (fun h => ?_) (fun h => ?_) | refine br_ne (fun h => ?_) (fun h => ?_) | refine br_eq (fun h => ?_) (fun h => ?_)) <;> first | (exfalso; omega) | conv => whnf)
      | (refine br_intro (fun h => ?_) (fun h => ?_) <;> conv => whnf)
      | ((first | refine auNd ?_ | refine idx_nat (by omega) (fun x hx => ?_) | refine frz_auto ?_ | refine draw_plain ?_ | refine auIx (fun x hx => ?_)); conv => whnf)
    · refine back_intro (by conv => whnf) rfl ⟨i + 1, rfl, rfl, by omega, take_succ_all hall hx h⟩ ?_
      show l.length - ((i : Int) + 1).toNat < l.length - (i : Int).toNat
      omega
    · refine congrArg (AV.lst pairT) ?_
      rw [into_cut, lbP_at (k := k) (i := i) hall hi (.inr ⟨x, hx, h⟩)]
      exact into_take hi _
    · refine congrArg (AV.lst pairT) ?_
      rw [into_cut, lbP_at (k := k) (i := i) hall hi (.inl (by omega))]
      exact into_take hi _
  · cases h
theorem mapF_len : ∀ l : List entT.El, (mapF l).1.length ≤ l.length ∧ (mapF l).2.length ≤ l.length := by
  refine list_snoc ⟨Nat.le_refl _, Nat.le_refl _⟩ ?_
  rintro l x ⟨h1, h2⟩
  have hi : ∀ (m : List pairT.El) (p : pairT.El), (intoP m p).length = m.length + 1 := fun m p => by
    rw [into_cut]
    simp only [List.length_append, List.length_take, List.length_cons, List.length_drop]
    omega
  rw [mapF_snoc, List.length_append]
  unfold mapStep
  split
  · simp only [List.length_cons, List.length_nil]; omega
  · simp only [List.length_append, List.length_cons, List.length_nil]
    split
    · omega
    · rw [hi]; omega
def allE (b : List entT.El) (rs : List runT.El) : List entT.El := (partsB b rs).flatten
def spMap : DSpec
  | [.agg [.lst (.st [.str, .str, .bool, .int .i64]) b, .lst (.st [.int .i64, .sl (.st [.str, .str, .bool, .int .i64])]) rs]] => some (rs.length ≤ 100000 ∧ (allE b rs).length ≤ 1000000000, .lst pairT (mapL (allE b rs)))
  | _ => none
theorem flat_len {α : Type} {L : List (List α)} {i : Nat} {l : List α} {k : Nat} (h : L[i]? = some l) (hk : k ≤ l.length) : ((L.take i).flatten ++ l.take k).length ≤ L.flatten.length := by
  have h1 : L.flatten = (L.take i).flatten ++ (l ++ (L.drop (i + 1)).flatten) := by
    have hi := (List.getElem?_eq_some_iff.1 h).1
    have he := (List.getElem?_eq_some_iff.1 h).2
    conv => lhs; rw [← List.take_append_drop i L, List.drop_eq_getElem_cons hi, he]
    rw [List.flatten_append, List.flatten_cons]
  rw [h1]
  simp only [List.length_append, List.length_take]
  omega
theorem flat_all {α : Type} {L : List (List α)} {i : Nat} {l : List α} (h : L[i]? = some l) : (L.take (i + 1)).flatten = (L.take i).flatten ++ l := by
  rw [take_snoc1 h, List.flatten_append]
  simp
theorem metB_take {met : List ByteArray} {n : Nat} {m k : ByteArray} (h : met[n]? = some m) : metB (met.take (n + 1)) k = (metB (met.take n) k || sEq m k) := by
  rw [take_snoc1 h]
  simp [metB]
set_option maxRecDepth 100000 in
theorem fnOk_rMap : FnOk Tryz.prog 11 Tryz.f11 := ⟨by rfl, by kernel_rfl, by
  show okCode _ _ = true ∧ drawsOk _ = true
  exact ⟨by kernel_rfl, by kernel_rfl⟩⟩
noncomputable def cxh1 : Cx := ⟨tb, [], [(33, spPB), (34, spInto)]⟩
theorem specsh1 : SpecsOk Tryz.prog cxh1.specs := .cons rfParts_ok (.cons rInto_ok .nil)
set_option maxRecDepth 100000 in
set_option maxHeartbeats 4000000 in
theorem rMap_ok : SpecOk Tryz.prog 11 spMap := by
  refine spec_body (C := cxh1) mixed tbOk specsh1 (callN_ok (C := cxh1) mixed tbOk specsh1 FnsOk.nil 0) fnOk_rMap ?_
  intro ys p r h hp
  unfold spMap at h
  split at h
  · rename_i b rs
    cases h
    obtain ⟨hp1, hp2⟩ := hp
    conv => whnf
    repeat' first
      | ((first | refine auT ?_ | refine auF ?_ | with_reducible first | refine auKt ?_ | refine auKf ?_ | refine auNt ?_ | refine auNf ?_ | refine auEt ?_ | refine auEf ?_); conv => whnf)
      | ((with_reducible first | refine br_dec (fun h => ?_) (fun h => ?_) | refine br_ndec (fun h => ?_) (fun h => ?_) | refine br_ne (fun h => ?_) (fun h => ?_) | refine br_eq (fun h => ?_) (fun h => ?_)) <;> first | (exfalso; omega) | conv => whnf)
      | (refine br_intro (fun h => ?_) (fun h => ?_) <;> conv => whnf)
      | ((first | refine auNd ?_ | refine idx_nat (by omega) (fun x hx => ?_) | refine frz_auto ?_ | refine draw_plain ?_ | refine auIx (fun x hx => ?_)); conv => whnf)
    generalize hL : partsB b rs = L
    have hAll : allE b rs = L.flatten := by unfold allE; rw [hL]
    rw [hAll] at hp2 ⊢
    have hLl : L.length ≤ 100001 := by rw [← hL]; simp [partsB]; omega
    refine loop_inv [.lst 4 pairT] [4, 5, 6] (fun vs h => ∃ (i g : Nat) (met : List ByteArray) (out : List pairT.El), vs = [.lst pairT out, .own 3 g met.length, .int .i64 (i : Int)] ∧ h = [.cells 25 [.lst entT b, .lst runT rs], .arr 60 pairT [] false 0, .dead, .arr 9 .str met false g] ∧ i ≤ L.length ∧ mapF (L.take i).flatten = (met, out)) (fun vs _ => match vs with | [_, _, .int _ k] => L.length - k.toNat | _ => 0) ?_
    conv => whnf
    refine need_in ⟨rfl, by simp⟩ ?_
    conv => whnf
    refine ⟨⟨0, 0, [], [], rfl, rfl, Nat.zero_le _, rfl⟩, ?_⟩
    rintro vs h' - ⟨i, g, met, out, rfl, rfl, hi, hm⟩
    by_cases hil : i < L.length
    · obtain ⟨lp, hlp⟩ : ∃ lp, L[i]? = some lp := ⟨_, List.getElem?_eq_getElem hil⟩
      have hlb : lp.length ≤ 1000000000 := by
        have := flat_len hlp (Nat.le_refl _)
        rw [List.take_length, List.length_append] at this
        omega
      conv => whnf
      repeat' first
        | ((first | refine auIk ?_ | refine auIi ?_ | refine auT ?_ | refine auF ?_ | with_reducible first | refine auKt ?_ | refine auKf ?_ | refine auNt ?_ | refine auNf ?_ | refine auEt ?_ | refine auEf ?_); conv => whnf)
        | ((with_reducible first | refine br_dec (fun h => ?_) (fun h => ?_) | refine br_ndec (fun h => ?_) (fun h => ?_) | refine br_ne (fun h => ?_) (fun h => ?_) | refine br_eq (fun h => ?_) (fun h => ?_)) <;> first | (exfalso; omega) | conv => whnf)
        | (refine br_intro (fun h => ?_) (fun h => ?_) <;> conv => whnf)
        | ((first | refine auNd ?_ | refine idx_nat (by omega) (fun x hx => ?_) | refine frz_auto ?_ | refine draw_plain ?_ | refine auIx (fun x hx => ?_)); conv => whnf)
      refine loop_inv [] [4, 5, 7] (fun vs h => ∃ (k g : Nat) (met : List ByteArray) (out : List pairT.El), vs = [.lst pairT out, .own 3 g met.length, .int .i64 (k : Int)] ∧ h = [.cells 25 [.lst entT b, .lst runT rs], .arr 60 pairT [] false 0, .dead, .arr 9 .str met false g] ∧ k ≤ lp.length ∧ mapF ((L.take i).flatten ++ lp.take k) = (met, out)) (fun vs _ => match vs with | [_, _, .int _ k] => lp.length - k.toNat | _ => 0) ?_
      conv => whnf
      refine ⟨⟨0, g, met, out, rfl, rfl, Nat.zero_le _, by rw [List.take_zero, List.append_nil]; exact hm⟩, ?_⟩
      clear hm
      rintro vs h' - ⟨k, g, met, out, rfl, rfl, hk, hm⟩
      have hfl := flat_len hlp hk
      have hml := (mapF_len ((L.take i).flatten ++ lp.take k)).1
      have hol := (mapF_len ((L.take i).flatten ++ lp.take k)).2
      rw [hm] at hml hol
      have hml : met.length ≤ 1000000000 := by simp only at hml; omega
      have hol : out.length ≤ 1000000000 := by simp only at hol; omega
      by_cases hkl : k < lp.length
      · obtain ⟨x, hx⟩ : ∃ x, lp[k]? = some x := ⟨_, List.getElem?_eq_getElem hkl⟩
        have hnx : mapF ((L.take i).flatten ++ lp.take (k + 1)) = mapStep (met, out) x := by rw [take_snoc1 hx, ← List.append_assoc, mapF_snoc, hm]
        conv => whnf
        repeat' first
          | ((first | refine auIk ?_ | refine auIi ?_ | refine auT ?_ | refine auF ?_ | with_reducible first | refine auKt ?_ | refine auKf ?_ | refine auNt ?_ | refine auNf ?_ | refine auEt ?_ | refine auEf ?_); conv => whnf)
          | ((with_reducible first | refine br_dec (fun h => ?_) (fun h => ?_) | refine br_ndec (fun h => ?_) (fun h => ?_) | refine br_ne (fun h => ?_) (fun h => ?_) | refine br_eq (fun h => ?_) (fun h => ?_)) <;> first | (exfalso; omega) | conv => whnf)
          | (refine br_intro (fun h => ?_) (fun h => ?_) <;> conv => whnf)
          | ((first | refine auNd ?_ | refine idx_nat (by omega) (fun x hx => ?_) | refine frz_auto ?_ | refine draw_plain ?_ | refine auIx (fun x hx => ?_)); conv => whnf)
        refine loop_inv [] [9, 10] (fun vs h => ∃ (n : Nat), vs = [.bool (metB (met.take n) x.1), .int .i64 (n : Int)] ∧ h = [.cells 25 [.lst entT b, .lst runT rs], .arr 60 pairT [] false 0, .dead, .arr 9 .str met false g, .cells 54 [.str x.1, .str x.2.1, .bool x.2.2.1, .int .i64 x.2.2.2.1]] ∧ n ≤ met.length) (fun vs _ => match vs with | [_, .int _ k] => met.length - k.toNat | _ => 0) ?_
        conv => whnf
        refine ⟨⟨0, rfl, rfl, Nat.zero_le _⟩, ?_⟩
        rintro vs h' - ⟨n, rfl, rfl, hn⟩
        have hend : ¬ n < met.length → metB (met.take n) x.1 = metB met x.1 := fun h => by rw [List.take_of_length_le (by omega)]
        conv => whnf
        repeat' first
          | ((first | refine auIk ?_ | refine auIi ?_ | refine auT ?_ | refine auF ?_ | with_reducible first | refine auKt ?_ | refine auKf ?_ | refine auNt ?_ | refine auNf ?_ | refine auEt ?_ | refine auEf ?_); conv => whnf)
          | ((with_reducible first | refine br_dec (fun h => ?_) (fun h => ?_) | refine br_ndec (fun h => ?_) (fun h => ?_) | refine br_ne (fun h => ?_) (fun h => ?_) | refine br_eq (fun h => ?_) (fun h => ?_)) <;> first | (exfalso; omega) | conv => whnf)
          | (refine br_intro (fun h => ?_) (fun h => ?_) <;> conv => whnf)
          | ((first | refine auNd ?_ | refine idx_nat (by omega) (fun x hx => ?_) | refine frz_auto ?_ | refine draw_plain ?_ | refine auIx (fun x hx => ?_)); conv => whnf)
        · rename_i hs
          obtain ⟨z, hz⟩ : ∃ z, met[n]? = some z := ⟨_, List.getElem?_eq_getElem (by omega)⟩
          refine back_intro (by conv => whnf) rfl ⟨n + 1, mb_eq ?_, rfl, by omega⟩ ?_
          · rw [metB_take hz, h]; rfl
          · show met.length - ((n : Int) + 1).toNat < met.length - (n : Int).toNat
            omega
        · have hz : met[n]? = some x := hx
          refine back_intro (by conv => whnf) rfl ⟨n + 1, mb_eq ?_, rfl, by omega⟩ ?_
          · rw [metB_take hz, h]; rfl
          · show met.length - ((n : Int) + 1).toNat < met.length - (n : Int).toNat
            omega
        · rw [hend (by omega)] at h
          have hs : mapStep (met, out) x = (met, out) := by unfold mapStep; rw [if_pos h]
          rw [hs] at hnx
          refine back_intro (by conv => whnf) rfl ⟨k + 1, g, met, out, rfl, rfl, by omega, hnx⟩ ?_
          show lp.length - ((k : Int) + 1).toNat < lp.length - (k : Int).toNat
          omega
        · rename_i hs
          rw [hend (by omega)] at hs
          have hd : x.2.2.1 = false := by simpa using h
          have hs : mapStep (met, out) x = (met ++ [x.1], intoP out (mkP x.1 x.2.1)) := by unfold mapStep; rw [if_neg (by simp [hs]), if_neg (by simp [hd])]
          rw [hs] at hnx
          refine back_intro (by conv => whnf) rfl ⟨k + 1, g + 1, met ++ [x.1], intoP out (mkP x.1 x.2.1), own_m ?_, heap_m ?_, by omega, hnx⟩ ?_
          · rw [List.length_append]; rfl
          · simp only [cast_self, List.take_length]; rfl
          · show lp.length - ((k : Int) + 1).toNat < lp.length - (k : Int).toNat
            omega
        · rename_i hs
          rw [hend (by omega)] at hs
          have hd : x.2.2.1 = true := by simpa using h
          have hs : mapStep (met, out) x = (met ++ [x.1], out) := by unfold mapStep; rw [if_neg (by simp [hs]), if_pos hd]
          rw [hs] at hnx
          refine back_intro (by conv => whnf) rfl ⟨k + 1, g + 1, met ++ [x.1], out, own_m ?_, heap_m ?_, by omega, hnx⟩ ?_
          · rw [List.length_append]; rfl
          · simp only [cast_self, List.take_length]; rfl
          · show lp.length - ((k : Int) + 1).toNat < lp.length - (k : Int).toNat
            omega
      · conv => whnf
        repeat' first
          | ((first | refine auIk ?_ | refine auIi ?_ | refine auT ?_ | refine auF ?_ | with_reducible first | refine auKt ?_ | refine auKf ?_ | refine auNt ?_ | refine auNf ?_ | refine auEt ?_ | refine auEf ?_); conv => whnf)
          | ((with_reducible first | refine br_dec (fun h => ?_) (fun h => ?_) | refine br_ndec (fun h => ?_) (fun h => ?_) | refine br_ne (fun h => ?_) (fun h => ?_) | refine br_eq (fun h => ?_) (fun h => ?_)) <;> first | (exfalso; omega) | conv => whnf)
          | (refine br_intro (fun h => ?_) (fun h => ?_) <;> conv => whnf)
          | ((first | refine auNd ?_ | refine idx_nat (by omega) (fun x hx => ?_) | refine frz_auto ?_ | refine draw_plain ?_ | refine auIx (fun x hx => ?_)); conv => whnf)
        refine back_intro (by conv => whnf) rfl ⟨i + 1, g, met, out, rfl, rfl, by omega, ?_⟩ ?_
        · rw [List.take_of_length_le (i := k) (l := lp) (by omega)] at hm
          rw [flat_all hlp]
          exact hm
        · show L.length - ((i : Int) + 1).toNat < L.length - (i : Int).toNat
          omega
    · conv => whnf
      repeat' first
        | ((first | refine auIk ?_ | refine auIi ?_ | refine auT ?_ | refine auF ?_ | with_reducible first | refine auKt ?_ | refine auKf ?_ | refine auNt ?_ | refine auNf ?_ | refine auEt ?_ | refine auEf ?_); conv => whnf)
        | ((with_reducible first | refine br_dec (fun h => ?_) (fun h => ?_) | refine br_ndec (fun h => ?_) (fun h => ?_) | refine br_ne (fun h => ?_) (fun h => ?_) | refine br_eq (fun h => ?_) (fun h => ?_)) <;> first | (exfalso; omega) | conv => whnf)
        | (refine br_intro (fun h => ?_) (fun h => ?_) <;> conv => whnf)
        | ((first | refine auNd ?_ | refine idx_nat (by omega) (fun x hx => ?_) | refine frz_auto ?_ | refine draw_plain ?_ | refine auIx (fun x hx => ?_)); conv => whnf)
      rw [List.take_of_length_le (by omega)] at hm
      unfold mapL
      rw [hm]
  · cases h
end Go.Proofs.YtdbnohpolknbbaaGreat
namespace Go.Proofs.YtdbnohpolknbbaaGreat
open Av Bk

theorem parts_at {b : List entT.El} {rs : List runT.El} {i : Nat} (h : i < (partsA b rs).length) : ∃ l, (partsB b rs)[i]? = some l ∧ ((partsA b rs)[i]? = some (.inl l) ∨ ∃ id, (partsA b rs)[i]? = some (.inr (.inl (id, l, ())))) := by
  cases i with
  | zero => exact ⟨b, rfl, .inl rfl⟩
  | succ i =>
    have hi : i < rs.length := by simpa [partsA] using h
    obtain ⟨r, hr⟩ : ∃ r, rs[i]? = some r := ⟨_, List.getElem?_eq_getElem hi⟩
    refine ⟨r.2.1, ?_, .inr ⟨r.1, ?_⟩⟩
    · simp [partsB, hr]
    · simp only [partsA, List.getElem?_cons_succ, List.getElem?_map, hr, Option.map_some]
theorem parts_good {b : List entT.El} {rs : List runT.El} (h : GoodV b rs) {l : List entT.El} (hl : l ∈ partsB b rs) : (clL l).2 = 0 := by
  rcases List.mem_cons.1 hl with rfl | hl
  · exact h.gb
  · obtain ⟨r, hr, rfl⟩ := List.mem_map.1 hl
    exact h.gr r hr
end Go.Proofs.YtdbnohpolknbbaaGreat
namespace Go.Proofs.YtdbnohpolknbbaaGreat
open Av Bk

def wideE (x : entT.El) : Bool := decide (200 < (x.1.size : Int)) || decide (200 < (x.2.1.size : Int))
def farGo (n : Int) : List runT.El → Bool
  | [] => false
  | r :: rs => if 100 < n + (if 200 < (r.2.1.length : Int) then 200 else (r.2.1.length : Int)) then true else if r.2.1.any wideE = true then true else farGo (n + (if 200 < (r.2.1.length : Int) then 200 else (r.2.1.length : Int))) rs
def farB (b : List entT.El) (rs : List runT.El) : Bool :=
  if 20 < b.length ∨ 26 < rs.length then true else if b.any wideE = true then true else farGo b.length rs
def spFar : DSpec
  | [.agg [.lst (.st [.str, .str, .bool, .int .i64]) b, .lst (.st [.int .i64, .sl (.st [.str, .str, .bool, .int .i64])]) rs]] => some (True, .bool (farB b rs))
  | _ => none
theorem any_at {α : Type} {p : α → Bool} {l : List α} {i : Nat} {x : α} (hx : l[i]? = some x) (h : p x = true) : l.any p = true :=
  List.any_eq_true.2 ⟨x, List.mem_of_getElem? hx, h⟩
theorem any_end {α : Type} {p : α → Bool} {l : List α} {i : Nat} (hall : ∀ y ∈ l.take i, p y = false) (hi : l.length ≤ i) : l.any p = false := by
  rw [List.take_of_length_le hi] at hall
  rw [List.any_eq_false]
  intro x hx
  simp [hall x hx]
theorem far_step {n : Int} {rs : List runT.El} {i : Nat} {r : runT.El} (hr : rs[i]? = some r) : farGo n (rs.drop i) = if 100 < n + (if 200 < (r.2.1.length : Int) then 200 else (r.2.1.length : Int)) then true else if r.2.1.any wideE = true then true else farGo (n + (if 200 < (r.2.1.length : Int) then 200 else (r.2.1.length : Int))) (rs.drop (i + 1)) := by
  have hi := (List.getElem?_eq_some_iff.1 hr).1
  have he := (List.getElem?_eq_some_iff.1 hr).2
  rw [List.drop_eq_getElem_cons hi, he, farGo]
set_option maxRecDepth 100000 in
theorem fnOk_far : FnOk Tryz.prog 7 Tryz.f7 := ⟨by rfl, by kernel_rfl, by
  show okCode _ _ = true ∧ drawsOk _ = true
  exact ⟨by kernel_rfl, by kernel_rfl⟩⟩
set_option maxRecDepth 100000 in
set_option maxHeartbeats 2000000 in
theorem far_ok : SpecOk Tryz.prog 7 spFar := by
  refine spec_body (C := cx0) mixed tbOk SpecsOk.nil (callN_ok (C := cx0) mixed tbOk SpecsOk.nil FnsOk.nil 0) fnOk_far ?_
  intro ys p r h hp
  unfold spFar at h
  split at h
  · rename_i b rs
    cases h
    conv => whnf
    repeat' first
      | ((first | refine auT ?_ | refine auF ?_ | with_reducible first | refine auKt ?_ | refine auKf ?_ | refine auNt ?_ | refine auNf ?_ | refine auEt ?_ | refine auEf ?_); conv => whnf)
      | ((with_reducible first | refine br_dec (fun h => ?_) (fun h => ?_) | refine br_ndec (fun h => ?_) (fun h => ?_) | refine br_ne (fun h => ?_) (fun h => ?_) | refine br_eq (fun h => ?_) (fun h => ?_)) <;> first | (exfalso; omega) | conv => whnf)
      | (refine br_intro (fun h => ?_) (fun h => ?_) <;> conv => whnf)
      | ((first | refine auNd ?_ | refine idx_nat (by omega) (fun x hx => ?_) | refine frz_auto ?_ | refine draw_plain ?_ | refine auIx (fun x hx => ?_)); conv => whnf)
    · rw [farB, if_pos (.inl (by omega))]
    · rw [farB, if_pos (.inr (by omega))]
    · have hF : farB b rs = if b.any wideE = true then true else farGo b.length rs := by rw [farB, if_neg (by omega)]
      refine loop_inv [] [4] (fun vs h => ∃ i : Nat, vs = [.int .i64 (i : Int)] ∧ h = [.cells 25 [.lst entT b, .lst runT rs]] ∧ i ≤ b.length ∧ ∀ y ∈ b.take i, wideE y = false) (fun vs _ => match vs with | [.int _ k] => b.length - k.toNat | _ => 0) ?_
      conv => whnf
      refine ⟨⟨0, rfl, rfl, by omega, by simp⟩, ?_⟩
      rintro vs h' - ⟨i, rfl, rfl, hi, hall⟩
      by_cases hil : i < b.length
      · obtain ⟨x, hx⟩ : ∃ x, b[i]? = some x := ⟨_, List.getElem?_eq_getElem hil⟩
        conv => whnf
        repeat' first
          | ((first | refine auIk ?_ | refine auIi ?_ | refine auT ?_ | refine auF ?_ | with_reducible first | refine auKt ?_ | refine auKf ?_ | refine auNt ?_ | refine auNf ?_ | refine auEt ?_ | refine auEf ?_); conv => whnf)
          | ((with_reducible first | refine br_dec (fun h => ?_) (fun h => ?_) | refine br_ndec (fun h => ?_) (fun h => ?_) | refine br_ne (fun h => ?_) (fun h => ?_) | refine br_eq (fun h => ?_) (fun h => ?_)) <;> first | (exfalso; omega) | conv => whnf)
          | (refine br_intro (fun h => ?_) (fun h => ?_) <;> conv => whnf)
          | ((first | refine auNd ?_ | refine idx_nat (by omega) (fun x hx => ?_) | refine frz_auto ?_ | refine draw_plain ?_ | refine auIx (fun x hx => ?_)); conv => whnf)
        · rw [hF, if_pos (any_at hx (by simp [wideE, *]))]
        · rw [hF, if_pos (any_at hx (by simp [wideE, *]))]
        · refine back_intro (by conv => whnf) rfl ⟨i + 1, rfl, rfl, by omega, take_succ_all hall hx (by simp [wideE]; omega)⟩ ?_
          show b.length - ((i : Int) + 1).toNat < b.length - (i : Int).toNat
          omega
      · conv => whnf
        repeat' first
          | ((first | refine auIk ?_ | refine auIi ?_ | refine auT ?_ | refine auF ?_ | with_reducible first | refine auKt ?_ | refine auKf ?_ | refine auNt ?_ | refine auNf ?_ | refine auEt ?_ | refine auEf ?_); conv => whnf)
          | ((with_reducible first | refine br_dec (fun h => ?_) (fun h => ?_) | refine br_ndec (fun h => ?_) (fun h => ?_) | refine br_ne (fun h => ?_) (fun h => ?_) | refine br_eq (fun h => ?_) (fun h => ?_)) <;> first | (exfalso; omega) | conv => whnf)
          | (refine br_intro (fun h => ?_) (fun h => ?_) <;> conv => whnf)
          | ((first | refine auNd ?_ | refine idx_nat (by omega) (fun x hx => ?_) | refine frz_auto ?_ | refine draw_plain ?_ | refine auIx (fun x hx => ?_)); conv => whnf)
        rw [any_end hall (by omega), if_neg (by decide)] at hF
        rw [hF]
        refine loop_inv [] [3, 5] (fun vs h => ∃ (j : Nat) (n : Int), vs = [.int .i64 n, .int .i64 (j : Int)] ∧ h = [.cells 25 [.lst entT b, .lst runT rs]] ∧ j ≤ rs.length ∧ 0 ≤ n ∧ n ≤ 20 + 200 * j ∧ farGo b.length rs = farGo n (rs.drop j)) (fun vs _ => match vs with | [_, .int _ k] => rs.length - k.toNat | _ => 0) ?_
        conv => whnf
        refine ⟨⟨0, b.length, rfl, rfl, by omega, by omega, by omega, rfl⟩, ?_⟩
        rintro vs h' - ⟨j, n, rfl, rfl, hj, hn, hn2, hG⟩
        rw [hG]
        by_cases hjl : j < rs.length
        · obtain ⟨r, hr⟩ : ∃ r, rs[j]? = some r := ⟨_, List.getElem?_eq_getElem hjl⟩
          have hst := far_step (n := n) hr
          conv => whnf
          repeat' first
            | ((first | refine auIk ?_ | refine auIi ?_ | refine auT ?_ | refine auF ?_ | with_reducible first | refine auKt ?_ | refine auKf ?_ | refine auNt ?_ | refine auNf ?_ | refine auEt ?_ | refine auEf ?_); conv => whnf)
            | ((with_reducible first | refine br_dec (fun h => ?_) (fun h => ?_) | refine br_ndec (fun h => ?_) (fun h => ?_) | refine br_ne (fun h => ?_) (fun h => ?_) | refine br_eq (fun h => ?_) (fun h => ?_)) <;> first | (exfalso; omega) | conv => whnf)
            | (refine br_intro (fun h => ?_) (fun h => ?_) <;> conv => whnf)
            | ((first | refine auNd ?_ | refine idx_nat (by omega) (fun x hx => ?_) | refine frz_auto ?_ | refine draw_plain ?_ | refine auIx (fun x hx => ?_)); conv => whnf)
          · rw [hst, if_pos h]
          · have hn100 := h
            refine loop_inv [] [7] (fun vs h => ∃ k : Nat, vs = [.int .i64 (k : Int)] ∧ h = [.cells 25 [.lst entT b, .lst runT rs]] ∧ k ≤ r.2.1.length ∧ ∀ y ∈ r.2.1.take k, wideE y = false) (fun vs _ => match vs with | [.int _ k] => r.2.1.length - k.toNat | _ => 0) ?_
            conv => whnf
            refine ⟨⟨0, rfl, rfl, Nat.zero_le _, by simp⟩, ?_⟩
            rintro vs h' - ⟨k, rfl, rfl, hk, hall⟩
            have hrl : r.2.1.length ≤ 200 := by
              split at hn100 <;> omega
            by_cases hkl : k < r.2.1.length
            · obtain ⟨x, hx⟩ : ∃ x, r.2.1[k]? = some x := ⟨_, List.getElem?_eq_getElem hkl⟩
              conv => whnf
              repeat' first
                | ((first | refine auIk ?_ | refine auIi ?_ | refine auT ?_ | refine auF ?_ | with_reducible first | refine auKt ?_ | refine auKf ?_ | refine auNt ?_ | refine auNf ?_ | refine auEt ?_ | refine auEf ?_); conv => whnf)
                | ((with_reducible first | refine br_dec (fun h => ?_) (fun h => ?_) | refine br_ndec (fun h => ?_) (fun h => ?_) | refine br_ne (fun h => ?_) (fun h => ?_) | refine br_eq (fun h => ?_) (fun h => ?_)) <;> first | (exfalso; omega) | conv => whnf)
                | (refine br_intro (fun h => ?_) (fun h => ?_) <;> conv => whnf)
                | ((first | refine auNd ?_ | refine idx_nat (by omega) (fun x hx => ?_) | refine frz_auto ?_ | refine draw_plain ?_ | refine auIx (fun x hx => ?_)); conv => whnf)
              · rw [hst, if_neg hn100, if_pos (any_at hx (by simp [wideE, *]))]
              · rw [hst, if_neg hn100, if_pos (any_at hx (by simp [wideE, *]))]
              · refine back_intro (by conv => whnf) rfl ⟨k + 1, rfl, rfl, by omega, take_succ_all hall hx (by simp [wideE]; omega)⟩ ?_
                show r.2.1.length - ((k : Int) + 1).toNat < r.2.1.length - (k : Int).toNat
                omega
            · conv => whnf
              repeat' first
                | ((first | refine auIk ?_ | refine auIi ?_ | refine auT ?_ | refine auF ?_ | with_reducible first | refine auKt ?_ | refine auKf ?_ | refine auNt ?_ | refine auNf ?_ | refine auEt ?_ | refine auEf ?_); conv => whnf)
                | ((with_reducible first | refine br_dec (fun h => ?_) (fun h => ?_) | refine br_ndec (fun h => ?_) (fun h => ?_) | refine br_ne (fun h => ?_) (fun h => ?_) | refine br_eq (fun h => ?_) (fun h => ?_)) <;> first | (exfalso; omega) | conv => whnf)
                | (refine br_intro (fun h => ?_) (fun h => ?_) <;> conv => whnf)
                | ((first | refine auNd ?_ | refine idx_nat (by omega) (fun x hx => ?_) | refine frz_auto ?_ | refine draw_plain ?_ | refine auIx (fun x hx => ?_)); conv => whnf)
              rw [if_neg hn100, any_end hall (by omega), if_neg (by decide)] at hst
              refine back_intro (by conv => whnf) rfl ⟨j + 1, n + (if 200 < (r.2.1.length : Int) then 200 else (r.2.1.length : Int)), rfl, rfl, by omega, ?_, ?_, ?_⟩ ?_
              · split <;> omega
              · split <;> omega
              · exact hst
              · show rs.length - ((j : Int) + 1).toNat < rs.length - (j : Int).toNat
                omega
        · conv => whnf
          repeat' first
            | ((first | refine auIk ?_ | refine auIi ?_ | refine auT ?_ | refine auF ?_ | with_reducible first | refine auKt ?_ | refine auKf ?_ | refine auNt ?_ | refine auNf ?_ | refine auEt ?_ | refine auEf ?_); conv => whnf)
            | ((with_reducible first | refine br_dec (fun h => ?_) (fun h => ?_) | refine br_ndec (fun h => ?_) (fun h => ?_) | refine br_ne (fun h => ?_) (fun h => ?_) | refine br_eq (fun h => ?_) (fun h => ?_)) <;> first | (exfalso; omega) | conv => whnf)
            | (refine br_intro (fun h => ?_) (fun h => ?_) <;> conv => whnf)
            | ((first | refine auNd ?_ | refine idx_nat (by omega) (fun x hx => ?_) | refine frz_auto ?_ | refine draw_plain ?_ | refine auIx (fun x hx => ?_)); conv => whnf)
          rw [List.drop_eq_nil_of_le (by omega)]
          rfl
  · cases h
theorem flat_bound {L : List (List entT.El)} {m : Nat} (h : ∀ l ∈ L, l.length ≤ m) : L.flatten.length ≤ L.length * m := by
  induction L with
  | nil => simp
  | cons l L ih =>
    rw [List.flatten_cons, List.length_append, List.length_cons, Nat.add_mul, Nat.one_mul]
    have h1 := h l (by simp)
    have h2 := ih (fun l hl => h l (by simp [hl]))
    omega
theorem all_len {b : List entT.El} {rs : List runT.El} (h : GoodV b rs) : rs.length ≤ 100000 ∧ (allE b rs).length ≤ 1000000000 := by
  have h1 := h.lr
  refine ⟨by omega, ?_⟩
  have h2 := flat_bound (L := partsB b rs) (m := 5000) (fun l hl => (clL_zero (parts_good h hl)).1)
  have h3 : (partsB b rs).length = rs.length + 1 := by simp [partsB]
  rw [h3] at h2
  unfold allE
  have : (rs.length + 1) * 5000 ≤ 25 * 5000 := Nat.mul_le_mul_right _ (by omega)
  omega
theorem all_err {b : List entT.El} {rs : List runT.El} (h : GoodV b rs) {x : entT.El} (hx : x ∈ allE b rs) : errX x = 0 := by
  unfold allE at hx
  obtain ⟨l, hl, hx⟩ := List.mem_flatten.1 hx
  exact (clL_zero (parts_good h hl)).2.1 x hx
end Go.Proofs.YtdbnohpolknbbaaGreat
namespace Av
open Go

/-- The operands of an operation; of some, not known. -/
def opsL : Op → Option (List Operand)
  | .move x | .assign x | .nilCheck x | .fieldAddr _ x _ | .load _ x | .extract x _ | .unOp _ _ x | .box _ x | .makeInterface _ x => some [x]
  | .store _ x y | .indexAddr _ x y | .binOp _ _ x y _ => some [x, y]
  | .alloc _ => some []
  | .call c => match c.callee with
    | .value f => some (f :: c.args.toList)
    | .builtin _ => some c.args.toList
    | .invoke r _ => some (r :: c.args.toList)
  | .build _ ps | .buildSlice _ _ ps => some (ps.toList.map (·.2))
  | _ => none
theorem opsL_ok {o : Op} {l : List Operand} (h : opsL o = some l) : (∀ x ∈ o.operands.toList, x ∈ l) ∧ ∀ cs b, o ≠ .select cs b := by
  refine ⟨fun x hx => ?_, fun cs b e => by subst e; simp [opsL] at h⟩
  cases o <;> simp only [opsL, Option.some.injEq, reduceCtorEq] at h <;> first
    | (subst h; simp [Op.operands] at hx; done)
    | (subst h; simpa [Op.operands] using hx)
    | skip
  rename_i c
  have hx : x ∈ (Call.operands c).toList := hx
  unfold Call.operands at hx
  split at h <;> rename_i hc <;> rw [hc] at hx <;> cases h <;> simpa using hx
def movX (o : Oper) : Option (Option Nat) := match o.op with
  | .move (.tmp x) => some (some x)
  | .move (.const _) => some none
  | _ => none
def neq (a : Option Nat) (b : Nat) : Bool := match a with | some a => !Nat.beq a b | none => true
theorem neq_ok {a : Option Nat} {b : Nat} (h : neq a b = true) : a ≠ some b := by
  rintro rfl
  simp [neq] at h
/-- An operation waits for the first one, or has nothing to do with it. -/
def waitsL (d : Nat) (x : Option Nat) (o : Oper) : Bool :=
  (o.after.toList.any fun e => Region.binds .any e && Nat.beq e.on 0) ||
  (match o.guard, opsL o.op with
  | none, some l => (l.all fun y => match y with | .tmp t => !Nat.beq t d | _ => true) && neq o.dst d && (match x with | some x => neq o.dst x | none => true)
  | _, _ => false)
def hoistL (o0 : Oper) (l : List Oper) : Array Oper := (o0 :: l.map fun o => { o with after := o.after.push ⟨0, .data⟩ }).toArray
/-- The slot that the first operation writes, and the region with it ahead. -/
def hoistO (C : Cx) (ops : Array Oper) : Option (Nat × Array Oper) := match barsOk0 C ops with
  | true => none
  | false => match ops.toList with
    | [] => none
    | o0 :: l => match movX o0, o0.guard, o0.dst, o0.after.toList with
      | some x, none, some d, [] => match (l.all fun o => waitsL d x o && (opsL o.op).isSome) && (match x with | some x => !Nat.beq x d | none => true) && (drawOk (hoistL o0 l) || manyS (hoistL o0 l)) with
        | true => some (d, hoistL o0 l)
        | false => none
      | _, _, _, _ => none
section
variable {P : Program}
theorem upon_monoQ {o : Oper} {a : Act} {K : Act → World → Prop} {Q Q' : Exit → Act → World → Prop} (hp : ∀ c a w, Q (.panic c) a w → Q' (.panic c) a w) (hl : LetsOut Q → LetsOut Q') {r : Result Next} (h : o.upon P a K Q r) : o.upon P a K Q' r := by
  cases r with
  | ok n w =>
    cases n <;> simp only [Oper.upon] at h ⊢ <;> first
      | exact h
      | exact Calls.mono h (fun e w'' he => by cases e <;> first | exact he | exact hp _ _ _ he | exact hl he)
  | halt x w => cases x <;> simp only [Oper.upon] at h ⊢ <;> first | exact h | exact hp _ _ _ h
theorem wpOp_monoQ {ops : Array Oper} {i : Nat} {a : Act} {w : World} {K : Act → World → Prop} {Q Q' : Exit → Act → World → Prop} (hp : ∀ c a w, Q (.panic c) a w → Q' (.panic c) a w) (hl : LetsOut Q → LetsOut Q') (h : wpOp P ops Q i K a w) : wpOp P ops Q' i K a w := by
  unfold wpOp at *
  split
  · rename_i hi; rw [hi] at h; exact h
  · rename_i o hi
    rw [hi] at h
    simp only at h
    split
    · rename_i hw
      rw [if_pos hw] at h
      exact h.imp (upon_monoQ hp hl) (fun ⟨h1, h2⟩ => ⟨h1, hl h2⟩)
    · rename_i hw
      rw [if_neg hw] at h
      exact h
theorem wpAny_monoQ {ops : Array Oper} {Q Q' : Exit → Act → World → Prop} (hn : ∀ a w, Q .normal a w → Q' .normal a w) (hp : ∀ c a w, Q (.panic c) a w → Q' (.panic c) a w) (hl : LetsOut Q → LetsOut Q') : ∀ (fuel : Nat) (listed : Array Bool) (a : Act) (w : World), wpAny P .any ops Q fuel listed a w → wpAny P .any ops Q' fuel listed a w
  | 0, listed, a, w, h => ⟨h.1, hn _ _ h.2⟩
  | fuel + 1, listed, a, w, h => ⟨fun hr => hn _ _ (h.1 hr), fun i hi => wpOp_monoQ hp hl (wpOp_mono (fun a' w' h' => wpAny_monoQ hn hp hl fuel _ a' w' h') (h.2 i hi))⟩
theorem hoist_get {o0 : Oper} {l : List Oper} {ops : Array Oper} (hl : ops.toList = o0 :: l) (i : Nat) : (hoistL o0 l)[i]? = (ops[i]?).map fun o => match i with | 0 => o | _ => { o with after := o.after.push ⟨0, .data⟩ } := by
  have : ops[i]? = (o0 :: l)[i]? := by rw [← hl]; simp
  rw [this]
  unfold hoistL
  rw [List.getElem?_toArray]
  cases i with
  | zero => rfl
  | succ i => simp only [List.getElem?_cons_succ, List.getElem?_map]
theorem hoist_ready {o0 : Oper} {l : List Oper} {ops : Array Oper} (hl : ops.toList = o0 :: l) {listed : Array Bool} (h0 : listed.getD 0 false = true) (i : Nat) : i ∈ Region.ready .any (hoistL o0 l) listed ↔ i ∈ Region.ready .any ops listed := by
  rw [mem_ready, mem_ready, hoist_get hl]
  cases ho : ops[i]? with
  | none => simp
  | some o =>
    cases i with
    | zero => simp
    | succ i =>
      simp only [Option.map_some, Option.some.injEq, exists_eq_left']
      refine and_congr_right (fun _ => ⟨fun h e he hb => h e (by simp [he]) hb, fun h e he hb => ?_⟩)
      rcases Array.mem_push.1 he with he | rfl
      · exact h e he hb
      · exact h0
theorem hoist_op {o0 : Oper} {l : List Oper} {ops : Array Oper} (hl : ops.toList = o0 :: l) {Q : Exit → Act → World → Prop} {i : Nat} {K : Act → World → Prop} {a : Act} {w : World} (h : wpOp P (hoistL o0 l) Q i K a w) : wpOp P ops Q i K a w := by
  have hy : ∀ (t : Array Value) (g : Nat), yielded (hoistL o0 l) t g = yielded ops t g := by
    intro t g
    unfold yielded
    rw [hoist_get hl]
    cases ops[g]? with
    | none => rfl
    | some o => cases g <;> rfl
  unfold wpOp at *
  rw [hoist_get hl] at h
  cases ho : ops[i]? with
  | none => rw [ho] at h; exact h
  | some o =>
    rw [ho] at h
    have hw : ∀ o : Oper, Region.wanted o (yielded (hoistL o0 l) a.tmps) = Region.wanted o (yielded ops a.tmps) := by
      intro o
      unfold Region.wanted
      cases o.guard with
      | none => rfl
      | some g => simp only [hy]
    cases i with
    | zero =>
      simp only [Option.map_some, hw] at h
      exact h
    | succ i =>
      simp only [Option.map_some, hw] at h
      exact h
theorem hoist_any {o0 : Oper} {l : List Oper} {ops : Array Oper} (hl : ops.toList = o0 :: l) {Q : Exit → Act → World → Prop} : ∀ (fuel : Nat) (listed : Array Bool) (a : Act) (w : World), listed.getD 0 false = true → wpAny P .any (hoistL o0 l) Q fuel listed a w → wpAny P .any ops Q fuel listed a w
  | 0, listed, a, w, h0, h => by
    refine ⟨?_, h.2⟩
    rw [List.eq_nil_iff_forall_not_mem] at *
    exact fun i hi => (List.eq_nil_iff_forall_not_mem.1 h.1) i ((hoist_ready hl h0 i).2 hi)
  | fuel + 1, listed, a, w, h0, h => by
    refine ⟨fun hr => h.1 ?_, fun i hi => ?_⟩
    · rw [List.eq_nil_iff_forall_not_mem] at *
      exact fun i hi => hr i ((hoist_ready hl h0 i).1 hi)
    · exact wpOp_mono (fun a' w' h' => hoist_any hl fuel _ a' w' (getD_set_true h0) h') (hoist_op hl (h.2 i ((hoist_ready hl h0 i).2 hi)))
theorem put_putd (a : Act) (d : Nat) (u v : Value) : (a.put (some d) u).put (some d) v = a.put (some d) v := by
  simp [Act.put]
theorem put_self (a : Act) (d : Nat) : ∃ u, a.put (some d) u = a := by
  refine ⟨a.tmps.getD d undef, ?_⟩
  unfold Act.put
  simp only
  congr 1
  apply Array.ext_getElem?
  intro i
  rw [Array.getElem?_setIfInBounds]
  split
  · rename_i h
    subst h
    split
    · rename_i h; simp [Array.getD_eq_getD_getElem?, Array.getElem?_eq_getElem h]
    · rename_i h; simp [Array.getElem?_eq_none (Nat.le_of_not_lt h)]
  · rfl
/-- What holds of the region with the move ahead holds of it. -/
theorem hoist_ok {C : Cx} {ops ops' : Array Oper} {d : Nat} (hh : hoistO C ops = some (d, ops')) {Q : Exit → Act → World → Prop} {a : Act} {w : World}
    (h : wpAny P .any ops' (fun e a w => match e with | .panic c => ∀ u, Q (.panic c) (a.put (some d) u) w | e => Q e a w) ops'.size (Array.replicate ops'.size false) a w) : wpAny P .any ops Q ops.size (Array.replicate ops.size false) a w := by
  unfold hoistO at hh
  split at hh
  · cases hh
  · split at hh
    · cases hh
    · rename_i o0 l hl
      split at hh
      · rename_i x d' hx hg hd haf
        split at hh
        · rename_i hc
          cases hh
          simp only [Bool.and_eq_true, List.all_eq_true] at hc
          obtain ⟨⟨hc1, hc2⟩, _⟩ := hc
          have hsz : (hoistL o0 l).size = ops.size := by
            rw [← Array.length_toList (xs := ops), hl]
            simp [hoistL]
          have h1 : 0 < ops.size := by rw [← Array.length_toList (xs := ops), hl]; simp
          have h00 : ops[0]? = some o0 := by
            have : ops[0]? = (o0 :: l)[0]? := by rw [← hl]; simp
            rw [this]; rfl
          obtain ⟨n, hn⟩ : ∃ n, ops.size = n + 1 := ⟨ops.size - 1, by omega⟩
          rw [hsz] at h
          let Q2 : Exit → Act → World → Prop := fun e a w => match e with | .panic c => ∀ u, Q (.panic c) (a.put (some d) u) w | e => Q e a w
          refine wpAny_monoQ (Q := Q2) (Q' := Q) (fun _ _ h => h) (fun c a w h => by obtain ⟨u, hu⟩ := put_self a d; have := h u; rw [hu] at this; exact this) (fun h => h) _ _ _ _ ?_
          have h : wpAny P .any (hoistL o0 l) Q2 ops.size (Array.replicate ops.size false) a w := h
          have hr : ∀ op : Array Oper, op[0]? = some o0 → 0 ∈ Region.ready .any op (Array.replicate ops.size false) := by
            intro op ho
            rw [mem_ready]
            refine ⟨?_, o0, ho, fun e he => ?_⟩
            · rw [Array.getD_eq_getD_getElem?, Array.getElem?_replicate, if_pos h1]; rfl
            · rw [← Array.mem_toList_iff, haf] at he; cases he
          obtain ⟨v, hv, hxv⟩ : ∃ v, (∀ (w : World) , (execOp a.eval o0).run P w = .ok (.value v) w) ∧ (∀ w, ((execOp a.eval o0).runT P w #[]).2 = #[]) := by
            unfold movX at hx
            split at hx
            · rename_i y ho; exact ⟨a.eval (.tmp y), fun w => by unfold execOp; rw [ho]; rfl, fun w => by unfold execOp; rw [ho]; rfl⟩
            · rename_i y ho; exact ⟨a.eval (.const y), fun w => by unfold execOp; rw [ho]; rfl, fun w => by unfold execOp; rw [ho]; rfl⟩
            · cases hx
          have hw0 : ∀ op : Array Oper, Region.wanted o0 (yielded op a.tmps) = true := fun op => by simp [Region.wanted, hg]
          rw [hn] at h ⊢
          have h2 := h.2 0 (by rw [← hn]; exact hr _ (by rw [hoist_get hl, h00]; rfl))
          unfold wpOp at h2
          rw [hoist_get hl, h00] at h2
          simp only [Option.map_some, hw0, if_true] at h2
          have h3 : wpAny P .any (hoistL o0 l) Q2 n ((Array.replicate (n + 1) false).setIfInBounds 0 true) (a.put o0.dst v) w := by
            rcases h2 with h2 | ⟨h2, _⟩
            · unfold Oper.wp at h2
              rw [hv, Oper.upon_value] at h2
              exact h2
            · unfold Oper.asks at h2
              rw [hxv] at h2
              simp at h2
          have h4 := hoist_any hl n _ _ _ (by simp) h3
          refine wpAny_first h00 (fun j o cs b hj => ?_) (fun c a w hq u => ?_) n _ a w (fun j oj hj hne _ hno => ?_) (by rw [← hn]; exact hr _ h00) (.inl ⟨hw0 _, hv⟩) h4
          · have hj' : (o0 :: l)[j]? = some o := by rw [← hl]; simpa using hj
            cases j with
            | zero =>
              cases hj'
              unfold movX at hx
              intro e
              rw [e] at hx
              cases hx
            | succ j =>
              have := (hc1 o (List.mem_of_getElem? (by simpa using hj'))).2
              obtain ⟨lo, hlo⟩ := Option.isSome_iff_exists.1 this
              exact (opsL_ok hlo).2 cs b
          · have := hq u
            rw [hd, put_putd] at this
            exact this
          · have hj' : (o0 :: l)[j]? = some oj := by rw [← hl]; simpa using hj
            obtain ⟨j, rfl⟩ : ∃ k, j = k + 1 := ⟨j - 1, by omega⟩
            have hw := (hc1 oj (List.mem_of_getElem? (by simpa using hj'))).1
            unfold waitsL at hw
            rw [Bool.or_eq_true] at hw
            rcases hw with hw | hw
            · obtain ⟨e, he, hb⟩ := List.any_eq_true.1 hw
              rw [Bool.and_eq_true] at hb
              exact absurd (Nat.eq_of_beq_eq_true hb.2) (hno e (Array.mem_toList_iff.1 he) hb.1)
            · split at hw
              · rename_i lo hgj hlo
                simp only [Bool.and_eq_true, List.all_eq_true] at hw
                obtain ⟨⟨h5, h6⟩, h7⟩ := hw
                have h6 := neq_ok h6
                have h8 : d ∉ oj.looksAt ops := by
                  unfold Oper.looksAt
                  rw [hgj]
                  simp only [List.append_nil, List.mem_filterMap, not_exists, not_and]
                  intro y hy
                  have h9 := h5 y ((opsL_ok hlo).1 y hy)
                  cases y with
                  | tmp t =>
                    simp only [Bool.not_eq_true', Option.some.injEq] at h9 ⊢
                    rintro rfl
                    simp at h9
                  | _ => simp
                have h10 : ∀ e, oj.dst = some e → e ∉ o0.looksAt ops := by
                  intro e he
                  unfold Oper.looksAt
                  rw [hg]
                  simp only [List.append_nil, List.mem_filterMap, not_exists, not_and]
                  intro y hy
                  unfold movX at hx
                  split at hx
                  · rename_i z hz
                    cases hx
                    rw [hz] at hy
                    simp [Op.operands] at hy
                    subst hy
                    simp only [Option.some.injEq]
                    rintro rfl
                    exact neq_ok h7 he
                  · rename_i z hz
                    rw [hz] at hy
                    simp [Op.operands] at hy
                    subst hy
                    simp
                  · cases hx
                unfold Oper.apart
                rw [hd]
                simp only [Bool.and_eq_true, Bool.not_eq_true', List.contains_eq_mem, decide_eq_false_iff_not, bne_iff_ne, ne_eq]
                refine ⟨⟨h8, h6⟩, ?_⟩
                cases hdj : oj.dst with
                | none => rfl
                | some e => simp only [Bool.not_eq_true', decide_eq_false_iff_not]; exact h10 e hdj
              · cases hw
        · cases hh
      · cases hh
theorem hoist_ops {C : Cx} {ops ops' : Array Oper} {d N : Nat} (hh : hoistO C ops = some (d, ops')) (hN : ∀ o ∈ ops.toList, dstOk N o = true) : (drawOk ops' || manyS ops') = true ∧ (∀ o ∈ ops'.toList, dstOk N o = true) ∧ d < N := by
  unfold hoistO at hh
  split at hh
  · cases hh
  · split at hh
    · cases hh
    · rename_i o0 l hl
      split at hh
      · rename_i x d' hx hg hd haf
        split at hh
        · rename_i hc
          cases hh
          simp only [Bool.and_eq_true] at hc
          rw [hl] at hN
          refine ⟨hc.2, fun o ho => ?_, ?_⟩
          · unfold hoistL at ho
            rw [List.toList_toArray] at ho
            rcases List.mem_cons.1 ho with rfl | ho
            · exact hN o List.mem_cons_self
            · obtain ⟨o', ho', rfl⟩ := List.mem_map.1 ho
              exact hN o' (List.mem_cons_of_mem _ ho')
          · have := hN o0 List.mem_cons_self
            unfold dstOk at this
            rw [hd] at this
            simpa using this
        · cases hh
      · cases hh
end
end Av
