/-
  Views: the runs that two have in common, by the code.
  Differences of tables, by key. Plain Lean.
  What the laws of differences need. Plain Lean.
  The runs that views have in common. Plain Lean.
  Differences behind others, by key. Plain Lean.
  Differences behind others, by the reference.
  slices.Insert at pairs: the roads of its text, by the walk.
-/
import Derived.Test.YtdbnohpolknbbaaUo
import Derived.Test.YtdbnohpolknbbaaLp
import Derived.Test.YtdbnohpolknbbaaE4
import Derived.Test.YtdbnohpolknbbaaLi
import Derived.Shelf.Spec.SlicesInsertGrow
namespace Go.Proofs.Ytdbnohpolknbbaa
open Av Bk

set_option maxRecDepth 100000 in
theorem fnOk_dShared : FnOk Try.prog 9 Try.f9 := ⟨by rfl, by kernel_rfl, by
  show okCode _ _ = true ∧ drawsOk _ = true
  exact ⟨by kernel_rfl, by kernel_rfl⟩⟩
set_option maxRecDepth 100000 in
theorem fnOk_dShared1 : FnOk Try.prog 23 Try.f23 := ⟨by rfl, by kernel_rfl, by
  show okCode _ _ = true ∧ drawsOk _ = true
  exact ⟨by kernel_rfl, by kernel_rfl⟩⟩
set_option maxRecDepth 100000 in
theorem fnOk_contRn : FnOk Try.prog 22 Try.f22 := ⟨by rfl, by kernel_rfl, by
  show okCode _ _ = true ∧ drawsOk _ = true
  exact ⟨by kernel_rfl, by kernel_rfl⟩⟩
set_option maxRecDepth 100000 in
theorem fnOk_idxRn : FnOk Try.prog 44 Try.f44 := ⟨by rfl, by kernel_rfl, by
  show okCode _ _ = true ∧ drawsOk _ = true
  exact ⟨by kernel_rfl, by kernel_rfl⟩⟩
set_option maxRecDepth 100000 in
theorem fnOk_slSrtU : FnOk Try.prog 25 Try.f25 := ⟨by rfl, by kernel_rfl, by
  show okCode _ _ = true ∧ drawsOk _ = true
  exact ⟨by kernel_rfl, by kernel_rfl⟩⟩
/-- The ids of the runs that others have too. -/
def shL (rs rs2 : List runT.El) : List Int := (rs.filter (fun r => rs2.any (mtB r))).map (fun r => r.1)
theorem shL_take {rs rs2 : List runT.El} {i : Nat} {r : runT.El} (hr : rs[i]? = some r) : shL (rs.take (i + 1)) rs2 = shL (rs.take i) rs2 ++ (if rs2.any (mtB r) = true then [r.1] else []) := by
  unfold shL
  rw [List.take_add_one, hr, List.filter_append, List.map_append]
  congr 1
  show (List.filter (fun r => rs2.any (mtB r)) [r]).map (fun r => r.1) = _
  rw [List.filter_cons]
  split <;> rfl
theorem shL_len (rs rs2 : List runT.El) : (shL rs rs2).length ≤ rs.length := by
  unfold shL
  rw [List.length_map]
  exact List.length_filter_le _ _
def dhR (b : List entT.El) (rs : List runT.El) (b2 : List entT.El) (rs2 : List runT.El) : List Int × Int := if dvE b rs b2 rs2 ≠ 0 then ([], dvE b rs b2 rs2) else (sortedI (shL rs rs2), 0)
def spSh : DSpec
  | [.agg [.lst (.st [.str, .str, .bool, .int .i64]) b, .lst (.st [.int .i64, .sl (.st [.str, .str, .bool, .int .i64])]) rs], .agg [.lst (.st [.str, .str, .bool, .int .i64]) b2, .lst (.st [.int .i64, .sl (.st [.str, .str, .bool, .int .i64])]) rs2]] => some (True, .tup [.lst (.int .i64) (dhR b rs b2 rs2).1, .int .i64 (dhR b rs b2 rs2).2])
  | _ => none
theorem sh_vs {g n m : Nat} {k : Int} (h : n = m) : [AV.own 3 g n, .int .i64 k] = [AV.own 3 g m, .int .i64 k] := by rw [h]
theorem sh_heap {a b c : AObj} {T : TypeId} {g : Nat} {l m : List Int} (h : l = m) : [a, b, c, .arr T (.int .i64) l false g] = [a, b, c, AObj.arr T (.int .i64) m false g] := by rw [h]
noncomputable def cxuq : Cx := ⟨tb, [(23, Try.f23), (22, Try.f22), (44, Try.f44)], [(20, spMp), (24, spSameE)]⟩
theorem specsuq : SpecsOk Try.prog cxuq.specs := .cons dMaps_ok (.cons eqEn_ok .nil)
theorem fnsuq : FnsOk Try.prog cxuq.fns := .cons fnOk_dShared1 (.cons fnOk_contRn (.cons fnOk_idxRn .nil))
set_option maxRecDepth 100000 in
theorem isortsU : ∀ f ∈ [25], SortIOk Try.prog f := by
  intro f hf
  rw [List.mem_singleton] at hf
  subst hf
  exact SortIOk.of sortI fnOk_slSrtU.enters
set_option maxRecDepth 100000 in
set_option maxHeartbeats 4000000 in
theorem dShared_ok : SpecOk Try.prog 9 spSh := by
  refine spec_body (C := cxuq) mixed tbOk specsuq (callY_ok (C := cxuq) mixed tbOk specsuq fnsuq isortsU SortsOk.nil 5) fnOk_dShared ?_
  intro ys p r h hp
  unfold spSh at h
  split at h
  · rename_i b rs b2 rs2
    cases h
    by_cases he : dvE b rs b2 rs2 = 0
    · have hm : mpR b rs b2 rs2 = (mV b rs, mV b2 rs2, 0) := by rw [mpR, if_neg (by simp [he])]
      have hme : (mpR b rs b2 rs2).2.2 = 0 := by rw [hm]
      have hlr := (vcL_zero (dv_zero he).1).lr
      have hlr2 := (vcL_zero (dv_zero he).2).lr
      conv => whnf
      repeat' first
        | ((first | refine auIk ?_ | refine auIi ?_ | refine auT ?_ | refine auF ?_ | with_reducible first | refine auKt ?_ | refine auKf ?_ | refine auNt ?_ | refine auNf ?_ | refine auEt ?_ | refine auEf ?_); conv => whnf)
        | ((with_reducible first | refine br_dec (fun h => ?_) (fun h => ?_) | refine br_ndec (fun h => ?_) (fun h => ?_) | refine br_ne (fun h => ?_) (fun h => ?_) | refine br_eq (fun h => ?_) (fun h => ?_)) <;> first | (exfalso; omega) | conv => whnf)
        | (refine br_intro (fun h => ?_) (fun h => ?_) <;> conv => whnf)
        | ((first | refine auNd ?_ | refine idx_nat (by omega) (fun x hx => ?_) | refine frz_auto ?_ | refine draw_plain ?_ | refine auIx (fun x hx => ?_)); conv => whnf)
      refine loop_inv [] [9, 25] (fun vs h => ∃ (i g : Nat), vs = [.own 3 g (shL (rs.take i) rs2).length, .int .i64 (i : Int)] ∧ h = [.cells 25 [.lst entT b, .lst runT rs], .cells 25 [.lst entT b2, .lst runT rs2], .arr 3 (.int .i64) [] false 0, .arr 3 (.int .i64) (shL (rs.take i) rs2) false g] ∧ i ≤ rs.length) (fun vs _ => match vs with | [_, .int _ k] => rs.length - k.toNat | _ => 0) ?_
      conv => whnf
      refine ⟨⟨0, 0, rfl, rfl, Nat.zero_le _⟩, ?_⟩
      rintro vs h' - ⟨i, g, rfl, rfl, hi⟩
      have hsl := shL_len (rs.take i) rs2
      have hsl2 : (shL (rs.take i) rs2).length ≤ 24 := by rw [List.length_take] at hsl; omega
      by_cases hil : i < rs.length
      · obtain ⟨r, hr⟩ : ∃ r, rs[i]? = some r := ⟨_, List.getElem?_eq_getElem hil⟩
        have hrl := run_len (dv_zero he).1 (List.mem_of_getElem? hr)
        conv => whnf
        repeat' first
          | ((first | refine auIk ?_ | refine auIi ?_ | refine auT ?_ | refine auF ?_ | with_reducible first | refine auKt ?_ | refine auKf ?_ | refine auNt ?_ | refine auNf ?_ | refine auEt ?_ | refine auEf ?_); conv => whnf)
          | ((with_reducible first | refine br_dec (fun h => ?_) (fun h => ?_) | refine br_ndec (fun h => ?_) (fun h => ?_) | refine br_ne (fun h => ?_) (fun h => ?_) | refine br_eq (fun h => ?_) (fun h => ?_)) <;> first | (exfalso; omega) | conv => whnf)
          | (refine br_intro (fun h => ?_) (fun h => ?_) <;> conv => whnf)
          | ((first | refine auNd ?_ | refine idx_nat (by omega) (fun x hx => ?_) | refine frz_auto ?_ | refine draw_plain ?_ | refine auIx (fun x hx => ?_)); conv => whnf)
        refine loop_inv [] [8] (fun vs h => ∃ k : Nat, vs = [.int .i64 (k : Int)] ∧ h = [.cells 25 [.lst entT b, .lst runT rs], .cells 25 [.lst entT b2, .lst runT rs2], .arr 3 (.int .i64) [] false 0, .arr 3 (.int .i64) (shL (rs.take i) rs2) false g, .cells 39 [.int .i64 r.1, .lst entT r.2.1]] ∧ k ≤ rs2.length ∧ ∀ s ∈ rs2.take k, mtB r s = false) (fun vs _ => match vs with | [.int _ k] => rs2.length - k.toNat | _ => 0) ?_
        conv => whnf
        refine ⟨⟨0, rfl, rfl, Nat.zero_le _, by simp⟩, ?_⟩
        rintro vs h' - ⟨k, rfl, rfl, hk, hall⟩
        have hst := shL_take (rs2 := rs2) hr
        by_cases hkl : k < rs2.length
        · obtain ⟨s, hs⟩ : ∃ s, rs2[k]? = some s := ⟨_, List.getElem?_eq_getElem hkl⟩
          have hmt : mtB r s = ((r.1 == s.1) && sameL entT r.2.1 s.2.1) := rfl
          have hnx : mtB r s = false → ∀ z ∈ rs2.take (k + 1), mtB r z = false := fun h z hz => by
            rw [List.take_add_one, hs] at hz
            rcases List.mem_append.1 hz with hz | hz
            · exact hall z hz
            · have : z = s := by simpa using hz
              rw [this]; exact h
          by_cases hid : r.1 = s.1
          · have hid2 : (r.1 == s.1) = true := by rw [hid]; exact beq_self_eq_true _
            rw [hid2, Bool.true_and] at hmt
            conv => whnf
            repeat' first
              | ((first | refine auIk ?_ | refine auIi ?_ | refine auT ?_ | refine auF ?_ | with_reducible first | refine auKt ?_ | refine auKf ?_ | refine auNt ?_ | refine auNf ?_ | refine auEt ?_ | refine auEf ?_); conv => whnf)
              | ((with_reducible first | refine br_dec (fun h => ?_) (fun h => ?_) | refine br_ndec (fun h => ?_) (fun h => ?_) | refine br_ne (fun h => ?_) (fun h => ?_) | refine br_eq (fun h => ?_) (fun h => ?_)) <;> first | (exfalso; omega) | conv => whnf)
              | (refine br_intro (fun h => ?_) (fun h => ?_) <;> conv => whnf)
              | ((first | refine auNd ?_ | refine idx_nat (by omega) (fun x hx => ?_) | refine frz_auto ?_ | refine draw_plain ?_ | refine auIx (fun x hx => ?_)); conv => whnf)
            · rename_i hse _
              have hany : rs2.any (mtB r) = true := List.any_eq_true.2 ⟨s, List.mem_of_getElem? hs, by rw [hmt]; first | exact hse | exact h | assumption⟩
              rw [hany, if_pos rfl] at hst
              refine back_intro (by conv => whnf) rfl ⟨i + 1, g + 1, sh_vs ?_, sh_heap ?_, by omega⟩ ?_
              · rw [hst, List.length_append]; rfl
              · rw [hst]; simp only [cast_self, List.take_length]; rfl
              · show rs.length - ((i : Int) + 1).toNat < rs.length - (i : Int).toNat
                omega
            · refine back_intro (by conv => whnf) rfl ⟨k + 1, rfl, rfl, by omega, hnx (hmt.trans (by first | exact h | assumption))⟩ ?_
              show rs2.length - ((k : Int) + 1).toNat < rs2.length - (k : Int).toNat
              omega
          · have hid2 : (r.1 == s.1) = false := beq_eq_false_iff_ne.2 hid
            rw [hid2, Bool.false_and] at hmt
            conv => whnf
            repeat' first
              | ((first | refine auIk ?_ | refine auIi ?_ | refine auT ?_ | refine auF ?_ | with_reducible first | refine auKt ?_ | refine auKf ?_ | refine auNt ?_ | refine auNf ?_ | refine auEt ?_ | refine auEf ?_); conv => whnf)
              | ((with_reducible first | refine br_dec (fun h => ?_) (fun h => ?_) | refine br_ndec (fun h => ?_) (fun h => ?_) | refine br_ne (fun h => ?_) (fun h => ?_) | refine br_eq (fun h => ?_) (fun h => ?_)) <;> first | (exfalso; omega) | conv => whnf)
              | (refine br_intro (fun h => ?_) (fun h => ?_) <;> conv => whnf)
              | ((first | refine auNd ?_ | refine idx_nat (by omega) (fun x hx => ?_) | refine frz_auto ?_ | refine draw_plain ?_ | refine auIx (fun x hx => ?_)); conv => whnf)
            refine back_intro (by conv => whnf) rfl ⟨k + 1, rfl, rfl, by omega, hnx hmt⟩ ?_
            show rs2.length - ((k : Int) + 1).toNat < rs2.length - (k : Int).toNat
            omega
        · have hany : rs2.any (mtB r) = false := by
            rw [List.any_eq_false]
            intro z hz
            rw [hall z (by rw [List.take_of_length_le (by omega)]; exact hz)]
            decide
          rw [hany, if_neg (by decide), List.append_nil] at hst
          conv => whnf
          repeat' first
            | ((first | refine auIk ?_ | refine auIi ?_ | refine auT ?_ | refine auF ?_ | with_reducible first | refine auKt ?_ | refine auKf ?_ | refine auNt ?_ | refine auNf ?_ | refine auEt ?_ | refine auEf ?_); conv => whnf)
            | ((with_reducible first | refine br_dec (fun h => ?_) (fun h => ?_) | refine br_ndec (fun h => ?_) (fun h => ?_) | refine br_ne (fun h => ?_) (fun h => ?_) | refine br_eq (fun h => ?_) (fun h => ?_)) <;> first | (exfalso; omega) | conv => whnf)
            | (refine br_intro (fun h => ?_) (fun h => ?_) <;> conv => whnf)
            | ((first | refine auNd ?_ | refine idx_nat (by omega) (fun x hx => ?_) | refine frz_auto ?_ | refine draw_plain ?_ | refine auIx (fun x hx => ?_)); conv => whnf)
          refine back_intro (by conv => whnf) rfl ⟨i + 1, g, sh_vs (by rw [hst]), sh_heap hst.symm, by omega⟩ ?_
          show rs.length - ((i : Int) + 1).toNat < rs.length - (i : Int).toNat
          omega
      · have hz := sortedI_len (shL (rs.take i) rs2)
        conv => whnf
        repeat' first
          | ((first | refine auIk ?_ | refine auIi ?_ | refine auT ?_ | refine auF ?_ | with_reducible first | refine auKt ?_ | refine auKf ?_ | refine auNt ?_ | refine auNf ?_ | refine auEt ?_ | refine auEf ?_); conv => whnf)
          | ((with_reducible first | refine br_dec (fun h => ?_) (fun h => ?_) | refine br_ndec (fun h => ?_) (fun h => ?_) | refine br_ne (fun h => ?_) (fun h => ?_) | refine br_eq (fun h => ?_) (fun h => ?_)) <;> first | (exfalso; omega) | conv => whnf)
          | (refine br_intro (fun h => ?_) (fun h => ?_) <;> conv => whnf)
          | ((first | refine auNd ?_ | refine idx_nat (by omega) (fun x hx => ?_) | refine frz_auto ?_ | refine draw_plain ?_ | refine auIx (fun x hx => ?_)); conv => whnf)
        rw [dhR, if_neg (by simp [he])]
        rw [List.take_of_length_le (l := sortedI _) (by omega), List.take_of_length_le (by omega)]
    · have hm : mpR b rs b2 rs2 = ([], [], dvE b rs b2 rs2) := by rw [mpR, if_pos he]
      have hme : ¬ (mpR b rs b2 rs2).2.2 = 0 := by rw [hm]; exact he
      conv => whnf
      repeat' first
        | ((first | refine auIk ?_ | refine auIi ?_ | refine auT ?_ | refine auF ?_ | with_reducible first | refine auKt ?_ | refine auKf ?_ | refine auNt ?_ | refine auNf ?_ | refine auEt ?_ | refine auEf ?_); conv => whnf)
        | ((with_reducible first | refine br_dec (fun h => ?_) (fun h => ?_) | refine br_ndec (fun h => ?_) (fun h => ?_) | refine br_ne (fun h => ?_) (fun h => ?_) | refine br_eq (fun h => ?_) (fun h => ?_)) <;> first | (exfalso; omega) | conv => whnf)
        | (refine br_intro (fun h => ?_) (fun h => ?_) <;> conv => whnf)
        | ((first | refine auNd ?_ | refine idx_nat (by omega) (fun x hx => ?_) | refine frz_auto ?_ | refine draw_plain ?_ | refine auIx (fun x hx => ?_)); conv => whnf)
      rw [dhR, if_pos he, hm]
      rfl
  · cases h
end Go.Proofs.Ytdbnohpolknbbaa
namespace Go.Proofs.Ytdbnohpolknbbaa
open Av Bk

/-! ### Lists that ascend -/
/-- The items of a key. -/
abbrev atK (l : List itemT.El) (k : ByteArray) : List itemT.El := l.filter (fun x => sEq x.2.1 k)
/-! ### Differences by key -/
end Go.Proofs.Ytdbnohpolknbbaa
namespace Go.Proofs.Ytdbnohpolknbbaa
open Av Bk

/-! ### The maps of views -/
/-! ### Items of a difference -/
theorem find_at {l : List itemT.El} {k : ByteArray} : l.find? (fun x => sEq x.2.1 k) = (atK l k).head? := by
  rw [List.head?_filter]
end Go.Proofs.Ytdbnohpolknbbaa
namespace Go.Proofs.Ytdbnohpolknbbaa
open Av Bk

theorem eqIt_refl (x : itemT.El) : eqT itemT x x = true := by
  show ((x.1 == x.1) && (sEq x.2.1 x.2.1 && (sEq x.2.2.1 x.2.2.1 && sEq x.2.2.2.1 x.2.2.2.1))) = true
  rw [sEq_refl, sEq_refl, sEq_refl, beq_self_eq_true]
  rfl
theorem sameI_refl : ∀ l : List itemT.El, sameL itemT l l = true
  | [] => rfl
  | x :: l => by
    rw [sameL, sameI_refl l, eqIt_refl]
    rfl
end Go.Proofs.Ytdbnohpolknbbaa
namespace Go.Proofs.Ytdbnohpolknbbaa
open Av Bk

theorem thGo_len : ∀ (l m out : List itemT.El) (n : Int), (thGo out l m n).1.length ≤ out.length + l.length + m.length
  | [], m, out, n => by
    show (out ++ m).length ≤ _
    rw [List.length_append]; simp
  | x :: l, m, out, n => by
    induction m generalizing out n with
    | nil =>
      rw [th_xn]
      have := thGo_len l [] (out ++ [x]) n
      simp only [List.length_append, List.length_cons, List.length_nil] at this ⊢
      omega
    | cons y m ih =>
      by_cases c1 : sLt x.2.1 y.2.1 = true
      · rw [th_lt c1]
        have := thGo_len l (y :: m) (out ++ [x]) n
        simp only [List.length_append, List.length_cons, List.length_nil] at this ⊢
        omega
      · have c1 : sLt x.2.1 y.2.1 = false := by simpa using c1
        by_cases c2 : sLt y.2.1 x.2.1 = true
        · rw [th_gt c2]
          have := ih (out ++ [y]) (n + 1)
          simp only [List.length_append, List.length_cons, List.length_nil] at this ⊢
          omega
        · have c2 : sLt y.2.1 x.2.1 = false := by simpa using c2
          by_cases c3 : afO x = bfO y
          · rw [th_eq c1 c2 c3]
            have := thGo_len l m (out ++ joinI x y) (n + 1)
            have hj : (joinI x y).length ≤ 1 := by
              unfold joinI dfI
              split <;> simp
            simp only [List.length_append, List.length_cons] at this ⊢
            omega
          · rw [th_ne c1 c2 c3]
            exact Nat.zero_le _
theorem thR_len (l m : List itemT.El) : (thR l m).1.length ≤ 16000 := by
  unfold thR
  split
  · exact Nat.zero_le _
  · rename_i h1
    split
    · exact Nat.zero_le _
    · rename_i h2
      have h3 := thGo_len l m [] 0
      have h4 := (icL_zero (l := l) (by simpa using h1)).1
      have h5 := (icL_zero (l := m) (by simpa using h2)).1
      simp only [List.length_nil] at h3
      omega
end Go.Proofs.Ytdbnohpolknbbaa
namespace Go.Proofs.Ytdbnohpolknbbaa
open Av Bk

set_option maxRecDepth 100000 in
theorem fnOk_rBoth : FnOk Try.prog 33 Try.f33 := ⟨by rfl, by kernel_rfl, by
  show okCode _ _ = true ∧ drawsOk _ = true
  exact ⟨by kernel_rfl, by kernel_rfl⟩⟩
set_option maxRecDepth 100000 in
theorem fnOk_rThen : FnOk Try.prog 13 Try.f13 := ⟨by rfl, by kernel_rfl, by
  show okCode _ _ = true ∧ drawsOk _ = true
  exact ⟨by kernel_rfl, by kernel_rfl⟩⟩
def zeroIt : itemT.El := mkI 0 ⟨#[]⟩ ⟨#[]⟩ ⟨#[]⟩
def bothR (x y : itemT.El) : itemT.El × Int := if afO x = bfO y then ((joinI x y).headD zeroIt, 0) else (zeroIt, 6)
def spBo : DSpec
  | [.agg [.int .i64 k, .str a, .str b, .str c], .agg [.int .i64 k2, .str a2, .str b2, .str c2]] => some (itE (mkI k a b c) = 0 ∧ itE (mkI k2 a2 b2 c2) = 0, .tup [itA (bothR (mkI k a b c) (mkI k2 a2 b2 c2)).1, .int .i64 (bothR (mkI k a b c) (mkI k2 a2 b2 c2)).2])
  | _ => none
theorem bo_no {x y : itemT.El} (h : afO x ≠ bfO y) : AV.tup [itA zeroIt, .int .i64 6] = AV.tup [itA (bothR x y).1, .int .i64 (bothR x y).2] := by
  unfold bothR
  rw [if_neg h]
theorem bo_is {x y z : itemT.El} (h : afO x = bfO y) (hz : (joinI x y).headD zeroIt = z) : AV.tup [itA z, .int .i64 0] = AV.tup [itA (bothR x y).1, .int .i64 (bothR x y).2] := by
  unfold bothR
  rw [if_pos h, hz]
theorem ne_n {x y : ByteArray} (h : (!sEq x y) = true) : x ≠ y := sEq_no.1 (by simpa using h)
theorem eq_n {x y : ByteArray} (h : (!sEq x y) = false) : x = y := sEq_iff.1 (by simpa using h)
theorem df_ss {k b c : ByteArray} (h : b ≠ c) : dfI k (some b) (some c) = [mkI 3 k b c] := if_neg (fun e => h (Option.some.inj e))
theorem df_aa (k : ByteArray) (a : Option ByteArray) : dfI k a a = [] := if_pos rfl
set_option maxRecDepth 100000 in
set_option maxHeartbeats 4000000 in
theorem rBoth_ok : SpecOk Try.prog 33 spBo := by
  refine spec_body (C := cx0) mixed tbOk SpecsOk.nil (callN_ok (C := cx0) mixed tbOk SpecsOk.nil FnsOk.nil 0) fnOk_rBoth ?_
  intro ys p r h hp
  unfold spBo at h
  split at h
  · rename_i k a b c k2 a2 b2 c2
    cases h
    obtain ⟨hx, hy⟩ := hp
    rcases itE_cases hx with ⟨rfl, rfl⟩ | ⟨rfl, rfl⟩ | ⟨rfl, hne⟩ <;> rcases itE_cases hy with ⟨rfl, rfl⟩ | ⟨rfl, rfl⟩ | ⟨rfl, hne2⟩
    all_goals (conv => whnf)
    all_goals
      repeat' first
        | ((first | refine auIk ?_ | refine auIi ?_ | refine auT ?_ | refine auF ?_ | with_reducible first | refine auKt ?_ | refine auKf ?_ | refine auNt ?_ | refine auNf ?_ | refine auEt ?_ | refine auEf ?_); conv => whnf)
        | ((with_reducible first | refine br_dec (fun h => ?_) (fun h => ?_) | refine br_ndec (fun h => ?_) (fun h => ?_) | refine br_ne (fun h => ?_) (fun h => ?_) | refine br_eq (fun h => ?_) (fun h => ?_)) <;> first | (exfalso; omega) | conv => whnf)
        | (refine br_intro (fun h => ?_) (fun h => ?_) <;> conv => whnf)
        | ((first | refine auNd ?_ | refine idx_nat (by omega) (fun x hx => ?_) | refine frz_auto ?_ | refine draw_plain ?_ | refine auIx (fun x hx => ?_)); conv => whnf)
    · exact bo_no (show (some c : Option ByteArray) ≠ none from nofun)
    · exact bo_no (show (some c : Option ByteArray) ≠ some b2 from fun e => ne_n h (Option.some.inj e).symm)
    · obtain rfl := eq_n h
      exact bo_is (z := zeroIt) (show (some b2 : Option ByteArray) = some b2 from rfl) rfl
    · exact bo_no (show (some c : Option ByteArray) ≠ some b2 from fun e => ne_n h (Option.some.inj e).symm)
    · obtain rfl := eq_n h
      exact bo_is (z := mkI 1 a ⟨#[]⟩ c2) (show (some b2 : Option ByteArray) = some b2 from rfl) rfl
    · exact bo_is (x := mkI 2 a b ⟨#[]⟩) (y := mkI 1 a2 ⟨#[]⟩ c2) (z := mkI 3 a b c2) (show (none : Option ByteArray) = none from rfl) (by rw [show joinI (mkI 2 a b ⟨#[]⟩) (mkI 1 a2 ⟨#[]⟩ c2) = dfI a (some b) (some c2) from rfl, df_ss (ne_n h)]; rfl)
    · obtain rfl := eq_n h
      exact bo_is (x := mkI 2 a b ⟨#[]⟩) (y := mkI 1 a2 ⟨#[]⟩ b) (z := zeroIt) (show (none : Option ByteArray) = none from rfl) (by rw [show joinI (mkI 2 a b ⟨#[]⟩) (mkI 1 a2 ⟨#[]⟩ b) = dfI a (some b) (some b) from rfl, df_aa]; rfl)
    · exact bo_no (show (none : Option ByteArray) ≠ some b2 from nofun)
    · exact bo_no (show (none : Option ByteArray) ≠ some b2 from nofun)
    · exact bo_no (show (some c : Option ByteArray) ≠ none from nofun)
    · exact bo_no (show (some c : Option ByteArray) ≠ some b2 from fun e => ne_n h (Option.some.inj e).symm)
    · obtain rfl := eq_n h
      exact bo_is (z := mkI 2 a b ⟨#[]⟩) (show (some b2 : Option ByteArray) = some b2 from rfl) rfl
    · exact bo_no (show (some c : Option ByteArray) ≠ some b2 from fun e => ne_n h (Option.some.inj e).symm)
    · rename_i h'
      obtain rfl := eq_n h'
      exact bo_is (x := mkI 3 a b b2) (y := mkI 3 a2 b2 c2) (z := mkI 3 a b c2) (show (some b2 : Option ByteArray) = some b2 from rfl) (by rw [show joinI (mkI 3 a b b2) (mkI 3 a2 b2 c2) = dfI a (some b) (some c2) from rfl, df_ss (ne_n h)]; rfl)
    · rename_i h'
      obtain rfl := eq_n h'
      obtain rfl := eq_n h
      exact bo_is (x := mkI 3 a b b2) (y := mkI 3 a2 b2 b) (z := zeroIt) (show (some b2 : Option ByteArray) = some b2 from rfl) (by rw [show joinI (mkI 3 a b b2) (mkI 3 a2 b2 b) = dfI a (some b) (some b) from rfl, df_aa]; rfl)
  · cases h
theorem join_cases (x y : itemT.El) : joinI x y = [] ∨ ∃ z : itemT.El, joinI x y = [z] ∧ ¬ z.1 = (0 : Int) := by
  unfold joinI dfI
  split
  · exact .inl rfl
  · refine .inr ⟨_, rfl, ?_⟩
    show ¬ (if bfO x = none then (1 : Int) else if afO y = none then 2 else 3) = 0
    split
    · decide
    · split <;> decide
theorem to_vs {l l2 : List itemT.El} {g n n2 : Nat} {k k2 : Int} (h : l = l2) (hn : n = n2) (hk : k = k2) : [AV.lst itemT l, .own 1 g n, .int .i64 k] = [AV.lst itemT l2, .own 1 g n2, .int .i64 k2] := by rw [h, hn, hk]
theorem tn_heapT {a : AObj} {T : TypeId} {g : Nat} {l m : List itemT.El} (h : l = m) : [a, .arr T itemT l false g] = [a, AObj.arr T itemT m false g] := by rw [h]
noncomputable def cxuba : Cx := ⟨tb, [], [(32, spIC), (33, spBo)]⟩
theorem specsuba : SpecsOk Try.prog cxuba.specs := .cons rIC_ok (.cons rBoth_ok .nil)
set_option maxRecDepth 100000 in
set_option maxHeartbeats 4000000 in
theorem rThen_ok : SpecOk Try.prog 13 spTh := by
  refine spec_body (C := cxuba) mixed tbOk specsuba (callN_ok (C := cxuba) mixed tbOk specsuba FnsOk.nil 0) fnOk_rThen ?_
  intro ys p r h hp
  unfold spTh at h
  split at h
  · rename_i l m
    cases h
    obtain ⟨hp1, hp2⟩ := hp
    by_cases hl : (icL l).2 = 0
    · by_cases hm : (icL m).2 = 0
      · have hll := icL_zero hl
        have hmm := icL_zero hm
        conv => whnf
        repeat' first
          | ((first | refine auIk ?_ | refine auIi ?_ | refine auT ?_ | refine auF ?_ | with_reducible first | refine auKt ?_ | refine auKf ?_ | refine auNt ?_ | refine auNf ?_ | refine auEt ?_ | refine auEf ?_); conv => whnf)
          | ((with_reducible first | refine br_dec (fun h => ?_) (fun h => ?_) | refine br_ndec (fun h => ?_) (fun h => ?_) | refine br_ne (fun h => ?_) (fun h => ?_) | refine br_eq (fun h => ?_) (fun h => ?_)) <;> first | (exfalso; omega) | conv => whnf)
          | (refine br_intro (fun h => ?_) (fun h => ?_) <;> conv => whnf)
          | ((first | refine auNd ?_ | refine idx_nat (by omega) (fun x hx => ?_) | refine frz_auto ?_ | refine draw_plain ?_ | refine auIx (fun x hx => ?_)); conv => whnf)
        refine loop_inv [] [0, 9, 10] (fun vs h => ∃ (l' out : List itemT.El) (n g : Nat), vs = [.lst itemT l', .own 1 g out.length, .int .i64 (n : Int)] ∧ h = [.arr 37 itemT [] false 0, .arr 37 itemT out false g] ∧ thGo [] l m 0 = thGo out l' (m.drop n) (n : Int) ∧ n ≤ m.length ∧ l'.length ≤ 8000 ∧ out.length + l'.length + (m.length - n) ≤ 16000 ∧ ∀ x ∈ l', itE x = 0) (fun vs _ => match vs with | [.lst _ l', _, .int _ n] => l'.length + (m.length - n.toNat) | _ => 0) ?_
        conv => whnf
        refine ⟨⟨l, [], 0, 0, rfl, rfl, rfl, Nat.zero_le _, hll.1, by have := hll.1; have := hmm.1; simp; omega, hll.2.1⟩, ?_⟩
        rintro vs h' - ⟨l', out, n, g, rfl, rfl, hth, hn, hl8, hle, hval⟩
        have hm8 := hmm.1
        have hn0 : ([] : List itemT.El).length = 0 := rfl
        by_cases hnm : n < m.length
        · obtain ⟨y, hy⟩ : ∃ y, m[n]? = some y := ⟨_, List.getElem?_eq_getElem hnm⟩
          rw [th_drop hy] at hth
          rcases l' with _ | ⟨x, l'⟩
          · rw [th_ny] at hth
            simp only [List.length_nil] at hle
            conv => whnf
            repeat' first
              | ((first | refine auIk ?_ | refine auIi ?_ | refine auT ?_ | refine auF ?_ | with_reducible first | refine auKt ?_ | refine auKf ?_ | refine auNt ?_ | refine auNf ?_ | refine auEt ?_ | refine auEf ?_); conv => whnf)
              | ((with_reducible first | refine br_dec (fun h => ?_) (fun h => ?_) | refine br_ndec (fun h => ?_) (fun h => ?_) | refine br_ne (fun h => ?_) (fun h => ?_) | refine br_eq (fun h => ?_) (fun h => ?_)) <;> first | (exfalso; omega) | conv => whnf)
              | (refine br_intro (fun h => ?_) (fun h => ?_) <;> conv => whnf)
              | ((first | refine auNd ?_ | refine idx_nat (by omega) (fun x hx => ?_) | refine frz_auto ?_ | refine draw_plain ?_ | refine auIx (fun x hx => ?_)); conv => whnf)
            refine back_intro (by conv => whnf) rfl ⟨[], out ++ [y], n + 1, g + 1, to_vs rfl ?_ rfl, tn_heapT ?_, hth, by omega, by simp, ?_, by simp⟩ ?_
            · rw [List.length_append]; rfl
            · simp only [cast_self, List.take_length]; rfl
            · rw [List.length_append]; simp only [List.length_cons, List.length_nil] at hle ⊢; omega
            · show ([] : List itemT.El).length + (m.length - ((n : Int) + 1).toNat) < ([] : List itemT.El).length + (m.length - (n : Int).toNat)
              omega
          · have hx0 : (x :: l')[Int.toNat 0]? = some x := rfl
            have hlx : (x :: l').length = l'.length + 1 := rfl
            have hlx2 : 0 < (x :: l').length := Nat.succ_pos _
            by_cases h1 : sLt x.2.1 y.2.1 = true
            · rw [th_lt h1] at hth
              conv => whnf
              repeat' first
                | ((first | refine auIk ?_ | refine auIi ?_ | refine auT ?_ | refine auF ?_ | with_reducible first | refine auKt ?_ | refine auKf ?_ | refine auNt ?_ | refine auNf ?_ | refine auEt ?_ | refine auEf ?_); conv => whnf)
                | ((with_reducible first | refine br_dec (fun h => ?_) (fun h => ?_) | refine br_ndec (fun h => ?_) (fun h => ?_) | refine br_ne (fun h => ?_) (fun h => ?_) | refine br_eq (fun h => ?_) (fun h => ?_)) <;> first | (exfalso; omega) | conv => whnf)
                | (refine br_intro (fun h => ?_) (fun h => ?_) <;> conv => whnf)
                | ((first | refine auNd ?_ | refine idx_nat (by omega) (fun x hx => ?_) | refine frz_auto ?_ | refine draw_plain ?_ | refine auIx (fun x hx => ?_)); conv => whnf)
              refine back_intro (by conv => whnf) rfl ⟨l', out ++ [x], n, g + 1, to_vs tail_take ?_ rfl, tn_heapT ?_, by rw [th_drop hy]; exact hth, by omega, by omega, ?_, fun z hz => hval z (List.mem_cons_of_mem _ hz)⟩ ?_
              · rw [List.length_append]; rfl
              · simp only [cast_self, List.take_length]; rfl
              · rw [List.length_append]; simp only [List.length_cons, List.length_nil] at hle ⊢; omega
              · show (List.take (((x :: l').length : Int).toNat - Int.toNat 1) (List.drop (Int.toNat 1) (x :: l'))).length + (m.length - (n : Int).toNat) < (x :: l').length + (m.length - (n : Int).toNat)
                rw [tail_take]
                simp only [List.length_cons]; omega
            · have h1 : sLt x.2.1 y.2.1 = false := by simpa using h1
              by_cases h2 : sLt y.2.1 x.2.1 = true
              · rw [th_gt h2] at hth
                conv => whnf
                repeat' first
                  | ((first | refine auIk ?_ | refine auIi ?_ | refine auT ?_ | refine auF ?_ | with_reducible first | refine auKt ?_ | refine auKf ?_ | refine auNt ?_ | refine auNf ?_ | refine auEt ?_ | refine auEf ?_); conv => whnf)
                  | ((with_reducible first | refine br_dec (fun h => ?_) (fun h => ?_) | refine br_ndec (fun h => ?_) (fun h => ?_) | refine br_ne (fun h => ?_) (fun h => ?_) | refine br_eq (fun h => ?_) (fun h => ?_)) <;> first | (exfalso; omega) | conv => whnf)
                  | (refine br_intro (fun h => ?_) (fun h => ?_) <;> conv => whnf)
                  | ((first | refine auNd ?_ | refine idx_nat (by omega) (fun x hx => ?_) | refine frz_auto ?_ | refine draw_plain ?_ | refine auIx (fun x hx => ?_)); conv => whnf)
                refine back_intro (by conv => whnf) rfl ⟨x :: l', out ++ [y], n + 1, g + 1, to_vs rfl ?_ rfl, tn_heapT ?_, hth, by omega, by omega, ?_, hval⟩ ?_
                · rw [List.length_append]; rfl
                · simp only [cast_self, List.take_length]; rfl
                · rw [List.length_append]; simp only [List.length_cons, List.length_nil] at hle ⊢; omega
                · show (x :: l').length + (m.length - ((n : Int) + 1).toNat) < (x :: l').length + (m.length - (n : Int).toNat)
                  omega
              · have h2 : sLt y.2.1 x.2.1 = false := by simpa using h2
                have hvx := hval x List.mem_cons_self
                have hvy := hmm.2.1 y (List.mem_of_getElem? hy)
                have hvx2 : itE (mkI x.1 x.2.1 x.2.2.1 x.2.2.2.1) = 0 := hvx
                have hvy2 : itE (mkI y.1 y.2.1 y.2.2.1 y.2.2.2.1) = 0 := hvy
                by_cases hab : afO x = bfO y
                · rw [th_eq h1 h2 hab] at hth
                  rcases join_cases x y with hj | ⟨z, hj, hz⟩
                  · rw [hj, List.append_nil] at hth
                    have hb : bothR (mkI x.1 x.2.1 x.2.2.1 x.2.2.2.1) (mkI y.1 y.2.1 y.2.2.1 y.2.2.2.1) = (zeroIt, 0) := by
                      show bothR x y = _
                      unfold bothR
                      rw [if_pos hab, hj]
                      rfl
                    have hb2 : (bothR (mkI x.1 x.2.1 x.2.2.1 x.2.2.2.1) (mkI y.1 y.2.1 y.2.2.1 y.2.2.2.1)).2 = 0 := by rw [hb]
                    have hb3 : (bothR (mkI x.1 x.2.1 x.2.2.1 x.2.2.2.1) (mkI y.1 y.2.1 y.2.2.1 y.2.2.2.1)).1.1 = (0 : Int) := by rw [hb]; rfl
                    conv => whnf
                    repeat' first
                      | ((first | refine auIk ?_ | refine auIi ?_ | refine auT ?_ | refine auF ?_ | with_reducible first | refine auKt ?_ | refine auKf ?_ | refine auNt ?_ | refine auNf ?_ | refine auEt ?_ | refine auEf ?_); conv => whnf)
                      | ((with_reducible first | refine br_dec (fun h => ?_) (fun h => ?_) | refine br_ndec (fun h => ?_) (fun h => ?_) | refine br_ne (fun h => ?_) (fun h => ?_) | refine br_eq (fun h => ?_) (fun h => ?_)) <;> first | (exfalso; omega) | conv => whnf)
                      | (refine br_intro (fun h => ?_) (fun h => ?_) <;> conv => whnf)
                      | ((first | refine auNd ?_ | refine idx_nat (by omega) (fun x hx => ?_) | refine frz_auto ?_ | refine draw_plain ?_ | refine auIx (fun x hx => ?_)); conv => whnf)
                    refine back_intro (by conv => whnf) rfl ⟨l', out, n + 1, g, to_vs tail_take rfl rfl, rfl, hth, by omega, by omega, ?_, fun z hz => hval z (List.mem_cons_of_mem _ hz)⟩ ?_
                    · simp only [List.length_cons] at hle ⊢; omega
                    · show (List.take (((x :: l').length : Int).toNat - Int.toNat 1) (List.drop (Int.toNat 1) (x :: l'))).length + (m.length - ((n : Int) + 1).toNat) < (x :: l').length + (m.length - (n : Int).toNat)
                      rw [tail_take]
                      simp only [List.length_cons]; omega
                  · rw [hj] at hth
                    have hb : bothR (mkI x.1 x.2.1 x.2.2.1 x.2.2.2.1) (mkI y.1 y.2.1 y.2.2.1 y.2.2.2.1) = (z, 0) := by
                      show bothR x y = _
                      unfold bothR
                      rw [if_pos hab, hj]
                      rfl
                    have hb2 : (bothR (mkI x.1 x.2.1 x.2.2.1 x.2.2.2.1) (mkI y.1 y.2.1 y.2.2.1 y.2.2.2.1)).2 = 0 := by rw [hb]
                    have hb3 : ¬ (bothR (mkI x.1 x.2.1 x.2.2.1 x.2.2.2.1) (mkI y.1 y.2.1 y.2.2.1 y.2.2.2.1)).1.1 = (0 : Int) := by rw [hb]; exact hz
                    conv => whnf
                    repeat' first
                      | ((first | refine auIk ?_ | refine auIi ?_ | refine auT ?_ | refine auF ?_ | with_reducible first | refine auKt ?_ | refine auKf ?_ | refine auNt ?_ | refine auNf ?_ | refine auEt ?_ | refine auEf ?_); conv => whnf)
                      | ((with_reducible first | refine br_dec (fun h => ?_) (fun h => ?_) | refine br_ndec (fun h => ?_) (fun h => ?_) | refine br_ne (fun h => ?_) (fun h => ?_) | refine br_eq (fun h => ?_) (fun h => ?_)) <;> first | (exfalso; omega) | conv => whnf)
                      | (refine br_intro (fun h => ?_) (fun h => ?_) <;> conv => whnf)
                      | ((first | refine auNd ?_ | refine idx_nat (by omega) (fun x hx => ?_) | refine frz_auto ?_ | refine draw_plain ?_ | refine auIx (fun x hx => ?_)); conv => whnf)
                    refine back_intro (by conv => whnf) rfl ⟨l', _, n + 1, g + 1, to_vs tail_take ?_ rfl, tn_heapT ?_, hth, by omega, by omega, ?_, fun z hz => hval z (List.mem_cons_of_mem _ hz)⟩ ?_
                    · rw [List.length_append]; rfl
                    · simp only [cast_self, List.take_length]; rw [hb]; rfl
                    · rw [List.length_append]; simp only [List.length_cons, List.length_nil] at hle ⊢; omega
                    · show (List.take (((x :: l').length : Int).toNat - Int.toNat 1) (List.drop (Int.toNat 1) (x :: l'))).length + (m.length - ((n : Int) + 1).toNat) < (x :: l').length + (m.length - (n : Int).toNat)
                      rw [tail_take]
                      simp only [List.length_cons]; omega
                · have hb : bothR (mkI x.1 x.2.1 x.2.2.1 x.2.2.2.1) (mkI y.1 y.2.1 y.2.2.1 y.2.2.2.1) = (zeroIt, 6) := by
                    show bothR x y = _
                    unfold bothR
                    rw [if_neg hab]
                  have hb2 : ¬ (bothR (mkI x.1 x.2.1 x.2.2.1 x.2.2.2.1) (mkI y.1 y.2.1 y.2.2.1 y.2.2.2.1)).2 = 0 := by rw [hb]; decide
                  conv => whnf
                  repeat' first
                    | ((first | refine auIk ?_ | refine auIi ?_ | refine auT ?_ | refine auF ?_ | with_reducible first | refine auKt ?_ | refine auKf ?_ | refine auNt ?_ | refine auNf ?_ | refine auEt ?_ | refine auEf ?_); conv => whnf)
                    | ((with_reducible first | refine br_dec (fun h => ?_) (fun h => ?_) | refine br_ndec (fun h => ?_) (fun h => ?_) | refine br_ne (fun h => ?_) (fun h => ?_) | refine br_eq (fun h => ?_) (fun h => ?_)) <;> first | (exfalso; omega) | conv => whnf)
                    | (refine br_intro (fun h => ?_) (fun h => ?_) <;> conv => whnf)
                    | ((first | refine auNd ?_ | refine idx_nat (by omega) (fun x hx => ?_) | refine frz_auto ?_ | refine draw_plain ?_ | refine auIx (fun x hx => ?_)); conv => whnf)
                  rw [hb]
                  exact th_tup hl hm (hth.trans (th_ne h1 h2 hab)) rfl
        · have hnm : n = m.length := by omega
          subst hnm
          rw [List.drop_length] at hth
          rcases l' with _ | ⟨x, l'⟩
          · rw [th_nn] at hth
            conv => whnf
            repeat' first
              | ((first | refine auIk ?_ | refine auIi ?_ | refine auT ?_ | refine auF ?_ | with_reducible first | refine auKt ?_ | refine auKf ?_ | refine auNt ?_ | refine auNf ?_ | refine auEt ?_ | refine auEf ?_); conv => whnf)
              | ((with_reducible first | refine br_dec (fun h => ?_) (fun h => ?_) | refine br_ndec (fun h => ?_) (fun h => ?_) | refine br_ne (fun h => ?_) (fun h => ?_) | refine br_eq (fun h => ?_) (fun h => ?_)) <;> first | (exfalso; omega) | conv => whnf)
              | (refine br_intro (fun h => ?_) (fun h => ?_) <;> conv => whnf)
              | ((first | refine auNd ?_ | refine idx_nat (by omega) (fun x hx => ?_) | refine frz_auto ?_ | refine draw_plain ?_ | refine auIx (fun x hx => ?_)); conv => whnf)
            exact th_tup hl hm hth (by simp)
          · have hx0 : (x :: l')[Int.toNat 0]? = some x := rfl
            have hlx : (x :: l').length = l'.length + 1 := rfl
            rw [th_xn] at hth
            conv => whnf
            repeat' first
              | ((first | refine auIk ?_ | refine auIi ?_ | refine auT ?_ | refine auF ?_ | with_reducible first | refine auKt ?_ | refine auKf ?_ | refine auNt ?_ | refine auNf ?_ | refine auEt ?_ | refine auEf ?_); conv => whnf)
              | ((with_reducible first | refine br_dec (fun h => ?_) (fun h => ?_) | refine br_ndec (fun h => ?_) (fun h => ?_) | refine br_ne (fun h => ?_) (fun h => ?_) | refine br_eq (fun h => ?_) (fun h => ?_)) <;> first | (exfalso; omega) | conv => whnf)
              | (refine br_intro (fun h => ?_) (fun h => ?_) <;> conv => whnf)
              | ((first | refine auNd ?_ | refine idx_nat (by omega) (fun x hx => ?_) | refine frz_auto ?_ | refine draw_plain ?_ | refine auIx (fun x hx => ?_)); conv => whnf)
            refine back_intro (by conv => whnf) rfl ⟨l', out ++ [x], m.length, g + 1, to_vs tail_take ?_ rfl, tn_heapT ?_, by rw [List.drop_length]; exact hth, by omega, by omega, ?_, fun z hz => hval z (List.mem_cons_of_mem _ hz)⟩ ?_
            · rw [List.length_append]; rfl
            · simp only [cast_self, List.take_length]; rfl
            · rw [List.length_append]; simp only [List.length_cons, List.length_nil] at hle ⊢; omega
            · show (List.take (((x :: l').length : Int).toNat - Int.toNat 1) (List.drop (Int.toNat 1) (x :: l'))).length + (m.length - (m.length : Int).toNat) < (x :: l').length + (m.length - (m.length : Int).toNat)
              rw [tail_take]
              simp only [List.length_cons]; omega
      · conv => whnf
        repeat' first
          | ((first | refine auIk ?_ | refine auIi ?_ | refine auT ?_ | refine auF ?_ | with_reducible first | refine auKt ?_ | refine auKf ?_ | refine auNt ?_ | refine auNf ?_ | refine auEt ?_ | refine auEf ?_); conv => whnf)
          | ((with_reducible first | refine br_dec (fun h => ?_) (fun h => ?_) | refine br_ndec (fun h => ?_) (fun h => ?_) | refine br_ne (fun h => ?_) (fun h => ?_) | refine br_eq (fun h => ?_) (fun h => ?_)) <;> first | (exfalso; omega) | conv => whnf)
          | (refine br_intro (fun h => ?_) (fun h => ?_) <;> conv => whnf)
          | ((first | refine auNd ?_ | refine idx_nat (by omega) (fun x hx => ?_) | refine frz_auto ?_ | refine draw_plain ?_ | refine auIx (fun x hx => ?_)); conv => whnf)
        rw [thR, if_neg (by simp [hl]), if_pos hm]
        rfl
    · conv => whnf
      repeat' first
        | ((first | refine auIk ?_ | refine auIi ?_ | refine auT ?_ | refine auF ?_ | with_reducible first | refine auKt ?_ | refine auKf ?_ | refine auNt ?_ | refine auNf ?_ | refine auEt ?_ | refine auEf ?_); conv => whnf)
        | ((with_reducible first | refine br_dec (fun h => ?_) (fun h => ?_) | refine br_ndec (fun h => ?_) (fun h => ?_) | refine br_ne (fun h => ?_) (fun h => ?_) | refine br_eq (fun h => ?_) (fun h => ?_)) <;> first | (exfalso; omega) | conv => whnf)
        | (refine br_intro (fun h => ?_) (fun h => ?_) <;> conv => whnf)
        | ((first | refine auNd ?_ | refine idx_nat (by omega) (fun x hx => ?_) | refine frz_auto ?_ | refine draw_plain ?_ | refine auIx (fun x hx => ?_)); conv => whnf)
      rw [thR, if_pos hl]
      rfl
  · cases h
end Go.Proofs.Ytdbnohpolknbbaa
set_option linter.unusedVariables false
set_option linter.unusedSimpArgs false
namespace Go.Proofs.Ytdbnohpolknbbaa
open Go.Shelf Go.RowKit Go.Lib Go.Proofs

section
variable {P : Program}
/-- A copy of elements of k cells. -/
theorem run_copy_k (w : World) (dT sT ty elem : TypeId) (k : Nat) (b o dLen dCap : Nat) (a : Addr) (sLen sCap q : Nat) (cs : List Value)
    (hu : P.underlying dT = some (.slice elem)) (hs : (P.info? elem).map (·.size) = some k) (hq : Nat.min sLen dLen = q) (hn : cs.length = q * k)
    (hsrc : ∀ j v, cs[j]? = some v → w.cell? (a.add j) = some v) (hc : ∀ j, j < cs.length → (w.cell? ⟨b, o + j, none⟩).isSome = true) (hf : ∀ j, j < cs.length → w.frozen? ⟨b, o + j, none⟩ = false) (h1 : ∀ v ∈ cs, v.oneCell' = true) :
    (Builtin.copy_ #[dT, sT] ty #[.slice (some ⟨b, o, none⟩) dLen dCap, .slice (some a) sLen sCap]).run P w = .ok (goInt q) (w.setCells b o cs) := by
  have hl := run_loadCells_list (P := P) w a cs hsrc
  have hst := run_storeCells_cells (P := P) b o cs 0 w (by simpa using hc) (by simpa using hf) h1
  cases hi : P.info? elem with
  | none => simp [hi] at hs
  | some i =>
    have hi2 : i.size = k := by simpa [hi] using hs
    simp [Builtin.copy_, run_underlying hu, Builtin.lenOf, Builtin.firstCells, sizeOf, typeInfo, hi, hi2, hq, ← hn, hl, hst]
end
theorem prInfo : ∃ ie z, Try.prog.info? 56 = some ie ∧ ie.size = 2 ∧ ie.bytes = 32 ∧ ie.zero = some z ∧ z.cells.size = 2 := by
  obtain ⟨ie, z, h1, h2, h3, h4, h5⟩ := (Av.tb_und tbOk (T := 56) (ti := _) rfl).info
  refine ⟨ie, z, h1, h2, h3, h4, ?_⟩
  have := Av.zero_size tbOk (e := 56) (te := _) rfl (t := pairT) rfl h1 h4
  exact this
theorem prSize : (Try.prog.info? 56).map (·.size) = some 2 := by
  obtain ⟨ie, z, h1, h2, _⟩ := prInfo
  rw [h1]
  simp [h2]

set_option maxHeartbeats 4000000 in
set_option maxRecDepth 100000 in
/-- There is room, and elements stand behind the place. -/
theorem ins_shift (b off n c i vb voff m vc : Nat) (cs vs : List Value) (w : World) (hi : i < n) (hm : 0 < m) (hroom : n + m ≤ c) (hc63 : c ≤ 9223372036854775807) (hvb : vb ≠ b)
    (hcl : cs.length = n * 2) (hvl : vs.length = m * 2)
    (hcs : ∀ j v, cs[j]? = some v → w.cell? ⟨b, off + j, none⟩ = some v) (hsp : ∀ j, j < (n + m) * 2 → (w.cell? ⟨b, off + j, none⟩).isSome = true) (hfz : ∀ j, j < (n + m) * 2 → w.frozen? ⟨b, off + j, none⟩ = false)
    (hvs : ∀ j v, vs[j]? = some v → w.cell? ⟨vb, voff + j, none⟩ = some v) (h1c : ∀ v ∈ cs, v.oneCell' = true) (h1v : ∀ v ∈ vs, v.oneCell' = true)
    (tA tB : TypeId) (kA kB : Nat) (hsa : w.shape? vb = some (tA, kA)) (hsb : w.shape? b = some (tB, kB)) (hkB : kB ≠ 0) (hfa : w.frozen? ⟨vb, voff, none⟩ = false) (hfe : w.frozen? ⟨vb, kA, none⟩ = false) :
    Calls Try.prog 49 #[.slice (some ⟨b, off, none⟩) n c, .int .i64 i, .slice (some ⟨vb, voff, none⟩) m vc] w fun e w' =>
      e = .returned (.slice (some ⟨b, off, none⟩) (n + m) c) ∧ w' = (w.drew.setCells b (off + (i + m) * 2) (cs.drop (i * 2))).setCells b (off + i * 2) vs := by
  have hz1 : ¬ ((m : Int) = 0) := by omega
  have hz2 : ¬ ((i : Int) = (n : Int)) := by omega
  have hsz := prSize
  have hov : ∀ lb cb, (callFunc 73 #[.slice (some ⟨vb, voff, none⟩) m vc, .slice (some ⟨b, off + (i + m) * 2, none⟩) lb cb]).run Try.prog w = .ok (.value (.bool false)) w := fun lb cb => by
    rw [run_callFunc_extern Try.func73 (by kernel_rfl) (by kernel_rfl) (by kernel_rfl) (e := Extern.SlicesOverlaps.overlaps #[52, 52] #[4]) (by kernel_rfl),
      Lib.run_overlaps_apart w 52 4 56 Try.underlying52 2 Try.sizeOf56 ⟨vb, voff, none⟩ ⟨b, off + (i + m) * 2, none⟩ m vc lb cb hvb tA tB kA kB hsa hsb hkB hfa hfe]
    rfl
  have hdl : (cs.drop (i * 2)).length = (n - i) * 2 := by rw [List.length_drop, hcl]; omega
  have hw1 : IntKind.i64.wrap ((i : Int) + (m : Int)) = (i : Int) + (m : Int) := by rw [IntKind.wrap_i64]; omega
  have hb1 : (0 : Int) ≤ (i : Int) + (m : Int) := by omega
  have hin : i ≤ n := by omega
  have htn : ((i : Int) + (m : Int)).toNat = i + m := by omega
  have hb2 : ¬ (c = i + m) := by omega
  have hb3 : (i : Int) ≤ (n : Int) + (m : Int) := by omega
  have hb4 : ¬ (c = i) := by omega
  have hcp1 : ∀ ty dc sc, (Builtin.copy_ #[52, 52] ty #[.slice (some ⟨b, off + (i + m) * 2, none⟩) (n + m - (i + m)) dc, .slice (some ⟨b, off + i * 2, none⟩) (n + m - i) sc]).run Try.prog w.drew = .ok (goInt ((n - i : Nat) : Int)) (w.drew.setCells b (off + (i + m) * 2) (cs.drop (i * 2))) := fun ty dc sc =>
    run_copy_k w.drew _ _ ty 56 2 b (off + (i + m) * 2) (n + m - (i + m)) dc ⟨b, off + i * 2, none⟩ (n + m - i) sc (n - i) (cs.drop (i * 2)) Try.underlying52 hsz (by simp only [Nat.min_def]; split <;> omega) hdl
      (fun j v hj => by rw [Addr.add_lit, Nat.add_assoc]; exact hcs (i * 2 + j) v (by rwa [List.getElem?_drop] at hj))
      (fun j hj => by rw [Nat.add_assoc]; exact hsp _ (by omega)) (fun j hj => by rw [Nat.add_assoc]; exact hfz _ (by omega)) (fun v hv => h1c v (List.mem_of_mem_drop hv))
  obtain ⟨W1, hW1⟩ : ∃ W1, W1 = w.drew.setCells b (off + (i + m) * 2) (cs.drop (i * 2)) := ⟨_, rfl⟩
  have hsp1 : ∀ k, k < (n + m) * 2 → (W1.cell? ⟨b, off + k, none⟩).isSome = true := fun k hk => by
    rw [hW1]
    exact isSome_setCells b _ _ _ (fun j hj => by rw [Nat.add_assoc]; exact hsp _ (by omega)) _ (hsp k hk)
  have hcp2 : ∀ (W : World), (∀ x, W.cell? x = W1.cell? x) → (∀ x, W.frozen? x = W1.frozen? x) → ∀ ty dc, (Builtin.copy_ #[52, 52] ty #[.slice (some ⟨b, off + i * 2, none⟩) (n + m - i) dc, .slice (some ⟨vb, voff, none⟩) m vc]).run Try.prog W = .ok (goInt m) (W.setCells b (off + i * 2) vs) := fun W hWc hWf ty dc =>
    run_copy_k W _ _ ty 56 2 b (off + i * 2) (n + m - i) dc ⟨vb, voff, none⟩ m vc m vs Try.underlying52 hsz (by simp only [Nat.min_def]; split <;> omega) hvl
      (fun j v hj => by
        rw [Addr.add_lit, hWc, hW1, World.cell?_setCells_out b _ _ _ _ (fun h _ => absurd h hvb)]
        exact hvs j v hj)
      (fun j hj => by rw [hWc, Nat.add_assoc]; exact hsp1 _ (by omega)) (fun j hj => by rw [hWf, hW1, World.frozen?_setCells, Nat.add_assoc]; exact hfz _ (by omega)) h1v
  rw [← hW1] at hcp1
  have mixed := mixed
  go_enter Try.func49, Try.ntmps49
  go_wp2_with (simp only [hov])
  go_region_law_o (refine step_copy_runI rfl _ _ 52 52 rfl _ _ (by simp [Act.eval, Act.put]) (by simp [Act.eval, Act.put]) (hcp1 _ _ _) ?_)
  go_wp2_with (at_builtin; refine wpList_copy_runI _ rfl _ _ 52 52 rfl _ _ rfl rfl (hcp2 _ (fun _ => rfl) (fun _ => rfl) _ _) ?_)
  go_ret
  first | exact ⟨rfl, rfl⟩ | exact ⟨rfl, by rw [hW1]⟩

set_option maxHeartbeats 4000000 in
set_option maxRecDepth 100000 in
/-- At the end. -/
theorem ins_end (base : Option Addr) (n c vb voff m vc : Nat) (w w1 : World) (v1 : Value) (hm : 0 < m) (hnc : n ≤ c) (hc63 : c ≤ 9223372036854775807) (hnil : base = none → n = 0 ∧ c = 0)
    (hrun : ∀ ty, (Builtin.append_ #[52, 52] ty #[.slice base n c, .slice (some ⟨vb, voff, none⟩) m vc]).run Try.prog w = .ok v1 w1) :
    Calls Try.prog 49 #[.slice base n c, .int .i64 n, .slice (some ⟨vb, voff, none⟩) m vc] w fun e w' => e = .returned v1 ∧ w' = w1 := by
  have hz1 : ¬ ((m : Int) = 0) := by omega
  have mixed := mixed
  go_enter Try.func49, Try.ntmps49
  cases base with
  | none =>
    obtain ⟨rfl, rfl⟩ := hnil rfl
    go_wp2_with (at_builtin; refine Lib.wpList_append_run _ rfl _ _ _ _ rfl _ _ rfl rfl _ _ (hrun _) ?_)
    go_ret
    exact ⟨rfl, rfl⟩
  | some a =>
    obtain ⟨ab, ao, asp⟩ := a
    go_wp2_with (at_builtin; refine Lib.wpList_append_run _ rfl _ _ _ _ rfl _ _ rfl rfl _ _ (hrun _) ?_)
    all_goals (go_ret; exact ⟨rfl, rfl⟩)

set_option maxHeartbeats 4000000 in
set_option maxRecDepth 100000 in
/-- No room, and elements stand behind the place: a new row. -/
theorem ins_grow (ie : TypeInfo) (z : Value) (hie : Try.prog.info? 56 = some ie) (hzs : ie.size = 2) (hzb : ie.bytes = 32) (hz0 : ie.zero = some z) (hzc : z.cells.size = 2)
    (b off n c i vb voff m vc : Nat) (cs vs : List Value) (w : World) (hi : i < n) (hm : 0 < m) (hnc : n ≤ c) (hroom : c < n + m) (hbig : (n + m) * 32 ≤ 140737488355328)
    (hcl : cs.length = n * 2) (hvl : vs.length = m * 2)
    (hcs : ∀ j v, cs[j]? = some v → w.cell? ⟨b, off + j, none⟩ = some v)
    (hvs : ∀ j v, vs[j]? = some v → w.cell? ⟨vb, voff + j, none⟩ = some v) (h1c : ∀ v ∈ cs, v.oneCell' = true) (h1v : ∀ v ∈ vs, v.oneCell' = true) :
    Calls Try.prog 49 #[.slice (some ⟨b, off, none⟩) n c, .int .i64 i, .slice (some ⟨vb, voff, none⟩) m vc] w fun e w' =>
      e = .returned (.slice (some ⟨w.heap.size, 0, none⟩) (n + m) (grownCap w (n + m) c 56)) ∧
      w' = (((w.alloc (.cells ((cs.take (i * 2)).toArray ++ Builtin.zeroCells z.cells (n + m - i) ++ Builtin.zeroCells z.cells (grownCap w (n + m) c 56 - (n + m))) 56)).drew.setCells w.heap.size (i * 2) vs).drew).setCells w.heap.size ((i + m) * 2) (cs.drop (i * 2)) := by
  have hz1 : ¬ ((m : Int) = 0) := by omega
  have hz2 : ¬ ((i : Int) = (n : Int)) := by omega
  have hz3 : (c : Int) < (n : Int) + (m : Int) := by omega
  have hsz := prSize
  have hbw : b < w.heap.size := block_lt_of_cell (hcs 0 _ (List.getElem?_eq_getElem (by omega)))
  have hvw : vb < w.heap.size := block_lt_of_cell (hvs 0 _ (List.getElem?_eq_getElem (by omega)))
  have hkk : (n : Int) + (m : Int) - (i : Int) = ((n + m - i : Nat) : Int) := by omega
  have hik : i + (n + m - i) = n + m := by omega
  have hold : (Builtin.firstCells ie.size i (.slice (some ⟨b, off, none⟩) i c)).run Try.prog w.drew = .ok (cs.take (i * 2)).toArray w.drew := by
    rw [hzs]
    exact run_firstCells_some w.drew 2 i ⟨b, off, none⟩ i c (cs.take (i * 2)) (by rw [List.length_take]; omega) (fun j v hj => by
      rw [Addr.add_lit]
      rw [List.getElem?_take] at hj
      split at hj
      · exact hcs j v hj
      · cases hj)
  have hrz : ∀ ty, (Builtin.append_ #[52, 3] ty #[.slice (some ⟨b, off, none⟩) i c, .int .i64 ((n : Int) + (m : Int) - (i : Int))]).run Try.prog w =
      .ok (.slice (some ⟨w.heap.size, 0, none⟩) (n + m) (grownCap w (n + m) c 56)) (w.drew.alloc (.cells ((cs.take (i * 2)).toArray ++ Builtin.zeroCells z.cells (n + m - i) ++ Builtin.zeroCells z.cells (grownCap w (n + m) c 56 - (n + m))) 56)) := fun ty => by
    have h := Lib.run_append_grow_zeros w 52 3 ty 56 ie z .i64 .i64 Try.underlying52 Try.underlying3 hie hz0 (some ⟨b, off, none⟩) i c (cs.take (i * 2)) hold (n + m - i) (by omega) (by omega) (by omega) (by omega) (by rw [hzb]; omega) (by rw [hzb, hik]; exact growslice_fits hroom hbig)
    rw [hik] at h
    rw [hkk]
    exact h
  obtain ⟨G, hG⟩ : ∃ G, G = grownCap w (n + m) c 56 := ⟨_, rfl⟩
  obtain ⟨ROW, hROW⟩ : ∃ ROW : Array Value, ROW = (cs.take (i * 2)).toArray ++ Builtin.zeroCells z.cells (n + m - i) ++ Builtin.zeroCells z.cells (G - (n + m)) := ⟨_, rfl⟩
  rw [← hG] at hrz ⊢
  rw [← hROW] at hrz ⊢
  have hRl : (n + m) * 2 ≤ ROW.size := by
    rw [hROW]
    simp [Builtin.zeroCells, hzc]
    omega
  obtain ⟨W1, hW1⟩ : ∃ W1, W1 = w.drew.alloc (.cells ROW 56) := ⟨_, rfl⟩
  rw [← hW1] at hrz
  have hN : ∀ j, j < (n + m) * 2 → (W1.cell? ⟨w.heap.size, j, none⟩).isSome = true := fun j hj => by
    rw [hW1, World.cell?_alloc_at (w := w.drew) ROW _ w.heap.size j rfl, Array.getElem?_eq_getElem (by omega)]; rfl
  have hNf : ∀ j, W1.frozen? ⟨w.heap.size, j, none⟩ = false := fun j => by rw [hW1]; exact World.frozen?_alloc_at (w := w.drew) ROW _ w.heap.size j rfl
  have hOb : ∀ j v, w.cell? ⟨b, j, none⟩ = some v → W1.cell? ⟨b, j, none⟩ = some v := fun j v h => by rw [hW1, World.cell?_alloc_past (w := w.drew) _ b j hbw]; exact h
  have hOv : ∀ j v, w.cell? ⟨vb, j, none⟩ = some v → W1.cell? ⟨vb, j, none⟩ = some v := fun j v h => by rw [hW1, World.cell?_alloc_past (w := w.drew) _ vb j hvw]; exact h
  have hcpA : ∀ (W : World), (∀ x, W.cell? x = W1.cell? x) → (∀ x, W.frozen? x = W1.frozen? x) → ∀ ty dc, (Builtin.copy_ #[52, 52] ty #[.slice (some ⟨w.heap.size, i * 2, none⟩) (n + m - i) dc, .slice (some ⟨vb, voff, none⟩) m vc]).run Try.prog W = .ok (goInt m) (W.setCells w.heap.size (i * 2) vs) := fun W hWc hWf ty dc =>
    run_copy_k W _ _ ty 56 2 w.heap.size (i * 2) (n + m - i) dc ⟨vb, voff, none⟩ m vc m vs Try.underlying52 hsz (by simp only [Nat.min_def]; split <;> omega) hvl
      (fun j v hj => by rw [Addr.add_lit, hWc]; exact hOv _ v (hvs j v hj))
      (fun j hj => by rw [hWc]; exact hN _ (by omega)) (fun j hj => by rw [hWf]; exact hNf _) h1v
  have hGn : n + m ≤ G := by rw [hG]; exact grownCap_ge w _ _ _
  have hG63 : G ≤ 9223372036854775807 := by
    have := grownCap_le_maxLen w (n + m) c 56 (by unfold maxLen; omega)
    rw [← hG] at this
    unfold maxLen at this
    omega
  have hGi : ¬ (G = i) := by omega
  have hGim : ¬ (G = i + m) := by omega
  have hci : ¬ (c = i) := by omega
  have hbN : b ≠ w.heap.size := by omega
  have hdl : (cs.drop (i * 2)).length = (n - i) * 2 := by rw [List.length_drop, hcl]; omega
  have hcpB : ∀ (W : World), (∀ x, W.cell? x = (W1.setCells w.heap.size (i * 2) vs).cell? x) → (∀ x, W.frozen? x = (W1.setCells w.heap.size (i * 2) vs).frozen? x) → ∀ ty dc sc, (Builtin.copy_ #[52, 52] ty #[.slice (some ⟨w.heap.size, (i + m) * 2, none⟩) (n + m - (i + m)) dc, .slice (some ⟨b, off + i * 2, none⟩) (n - i) sc]).run Try.prog W = .ok (goInt ((n - i : Nat) : Int)) (W.setCells w.heap.size ((i + m) * 2) (cs.drop (i * 2))) := fun W hWc hWf ty dc sc =>
    run_copy_k W _ _ ty 56 2 w.heap.size ((i + m) * 2) (n + m - (i + m)) dc ⟨b, off + i * 2, none⟩ (n - i) sc (n - i) (cs.drop (i * 2)) Try.underlying52 hsz (by simp only [Nat.min_def]; split <;> omega) hdl
      (fun j v hj => by
        rw [Addr.add_lit, hWc, World.cell?_setCells_out _ _ _ _ _ (fun h _ => absurd h hbN), Nat.add_assoc]
        exact hOb _ v (hcs (i * 2 + j) v (by rwa [List.getElem?_drop] at hj)))
      (fun j hj => by rw [hWc]; exact isSome_setCells _ _ _ _ (fun t ht => hN _ (by omega)) _ (hN _ (by omega)))
      (fun j hj => by rw [hWf, World.frozen?_setCells]; exact hNf _) (fun v hv => h1c v (List.mem_of_mem_drop hv))
  subst hW1
  have hE1 : ∀ x, ((w.alloc (.cells ROW 56)).drew).cell? x = (w.drew.alloc (.cells ROW 56)).cell? x := fun x => rfl
  have hE2 : ∀ x, ((w.alloc (.cells ROW 56)).drew).frozen? x = (w.drew.alloc (.cells ROW 56)).frozen? x := fun x => rfl
  have hF1 : ∀ x, (((w.alloc (.cells ROW 56)).drew.setCells w.heap.size (i * 2) vs).drew).cell? x = ((w.drew.alloc (.cells ROW 56)).setCells w.heap.size (i * 2) vs).cell? x := fun x => rfl
  have hF2 : ∀ x, (((w.alloc (.cells ROW 56)).drew.setCells w.heap.size (i * 2) vs).drew).frozen? x = ((w.drew.alloc (.cells ROW 56)).setCells w.heap.size (i * 2) vs).frozen? x := fun x => rfl
  have hw1 : IntKind.i64.wrap ((i : Int) + (m : Int)) = (i : Int) + (m : Int) := by rw [IntKind.wrap_i64]; omega
  have hb1 : (0 : Int) ≤ (i : Int) + (m : Int) := by omega
  have hin : i ≤ n := by omega
  have htn : ((i : Int) + (m : Int)).toNat = i + m := by omega
  have hb3 : (i : Int) ≤ (n : Int) := by omega
  have mixed := mixed
  clear hkk hik hold hROW hG hRl
  go_enter Try.func49, Try.ntmps49
  go_wp2_with (first
    | (at_builtin; refine Lib.wpList_append_run _ rfl _ _ _ _ rfl _ _ rfl rfl _ _ (hrz _) ?_)
    | (at_builtin; refine wpList_copy_runI _ rfl _ _ 52 52 rfl _ _ rfl rfl (hcpA _ hE1 hE2 _ _) ?_)
    | (at_builtin; refine wpList_copy_runI _ rfl _ _ 52 52 rfl _ _ rfl rfl (hcpB _ (fun _ => rfl) (fun _ => rfl) _ _ _) ?_))
  go_region_law_o (refine step_copy_runI rfl _ _ 52 52 rfl (.slice (some ⟨w.heap.size, (i + m) * 2, none⟩) (n + m - (i + m)) (G - (i + m))) (.slice (some ⟨b, off + i * 2, none⟩) (n - i) (c - i)) (by simp [Act.eval, Act.put]) (by simp [Act.eval, Act.put]) (hcpB _ hF1 hF2 3 (G - (i + m)) (c - i)) ?_)
  go_wp2
  go_ret
  exact ⟨rfl, rfl⟩
end Go.Proofs.Ytdbnohpolknbbaa
