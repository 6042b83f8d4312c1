/-
  The pairs of a range, by the code.
  Differences of two maps, by the code.
  The view of the examples; lists of pairs that are the same.
  Whether two lists of pairs are the same.
  Whether two lists of differences are the same; differences the other way; ids.
-/
import Derived.Test.YtdbnohpolknbbaaGreatLo
import Derived.Test.YtdbnohpolknbbaaGreatUt
namespace Go.Proofs.YtdbnohpolknbbaaGreat
open Av Bk

set_option maxRecDepth 100000 in
theorem fnOk_lkPart : FnOk Tryz.prog 59 Tryz.f59 := ⟨by rfl, by kernel_rfl, by
  show okCode _ _ = true ∧ drawsOk _ = true
  exact ⟨by kernel_rfl, by kernel_rfl⟩⟩
set_option maxRecDepth 100000 in
theorem fnOk_lkPart1 : FnOk Tryz.prog 76 Tryz.f76 := ⟨by rfl, by kernel_rfl, by
  show okCode _ _ = true ∧ drawsOk _ = true
  exact ⟨by kernel_rfl, by kernel_rfl⟩⟩
set_option maxRecDepth 100000 in
theorem fnOk_delPair : FnOk Tryz.prog 74 Tryz.f74 := ⟨by rfl, by kernel_rfl, by
  show okCode _ _ = true ∧ drawsOk _ = true
  exact ⟨by kernel_rfl, by kernel_rfl⟩⟩
noncomputable def cxp1 : Cx := ⟨tb, [(76, Tryz.f76), (74, Tryz.f74), (98, Tryz.f98)], [(58, spVC), (73, spRg), (77, spIn), (75, spPairs)]⟩
theorem specsp1 : SpecsOk Tryz.prog cxp1.specs := .cons verC_ok (.cons keysRg_ok (.cons keysIn_ok (.consF lkPairs_ok .nil)))
theorem fnsp1 : FnsOk Tryz.prog cxp1.fns := .cons fnOk_lkPart1 (.cons fnOk_delPair (.cons fnOk_idxPair .nil))
theorem in_has {lo hi k : ByteArray} {bd : Bool} (h : rgE lo hi bd = 0) (hk : keyE k = 0) : (decide (inE lo hi bd k = 0) && hasB lo hi bd k) = hasB lo hi bd k := by
  have : inE lo hi bd k = 0 := by unfold inE; rw [if_neg (by simp [h]), hk]
  simp [this]
/-- An array of which elements are left out, in place: at the beginning what stays of the first ones. -/
structure DelOk (q : pairT.El → Bool) (m cur : List pairT.El) (i j : Nat) : Prop where
  len : cur.length = m.length
  le : i ≤ j
  hd : cur.take i = (m.take j).filter q
  tl : cur.drop j = m.drop j
theorem del_get {q : pairT.El → Bool} {m cur : List pairT.El} {i j : Nat} (h : DelOk q m cur i j) : cur[j]? = m[j]? := by
  have h1 : (cur.drop j)[0]? = (m.drop j)[0]? := by rw [h.tl]
  rw [List.getElem?_drop, List.getElem?_drop] at h1
  simpa using h1
theorem del_keep {q : pairT.El → Bool} {m cur : List pairT.El} {i j : Nat} {x : pairT.El} (h : DelOk q m cur i j) (hj : j < m.length) (hx : cur[j]? = some x) (hq : q x = true) : DelOk q m (cur.set i x) (i + 1) (j + 1) where
  len := by rw [List.length_set]; exact h.len
  le := by have := h.le; omega
  hd := by
    have hi : i < (cur.set i x).length := by rw [List.length_set, h.len]; have := h.le; omega
    rw [List.take_succ_eq_append_getElem hi, List.getElem_set_self, List.take_set_of_le (Nat.le_refl _), h.hd, filter_snoc ((del_get h).symm.trans hx), if_pos hq]
  tl := by
    rw [List.drop_set_of_lt (by have := h.le; omega), ← List.drop_drop, ← List.drop_drop, h.tl]
theorem del_drop {q : pairT.El → Bool} {m cur : List pairT.El} {i j : Nat} {x : pairT.El} (h : DelOk q m cur i j) (hx : cur[j]? = some x) (hq : q x = false) : DelOk q m cur i (j + 1) where
  len := h.len
  le := by have := h.le; omega
  hd := by rw [h.hd, filter_snoc ((del_get h).symm.trans hx), if_neg (by simp [hq]), List.append_nil]
  tl := by rw [← List.drop_drop, ← List.drop_drop, h.tl]
theorem del_start {q : pairT.El → Bool} {m : List pairT.El} {i : Nat} {x : pairT.El} (hall : ∀ p ∈ m.take i, q p = true) (hx : m[i]? = some x) (hq : q x = false) : DelOk q m m i (i + 1) where
  len := rfl
  le := Nat.le_succ _
  hd := by rw [filter_snoc hx, if_neg (by simp [hq]), List.append_nil, List.filter_eq_self.2 hall]
  tl := rfl
theorem take_app {l : List pairT.El} (r : List pairT.El) {i : Nat} (h : i ≤ l.length) : List.take i (List.take i l ++ r) = l.take i := by
  rw [List.take_append_of_le_length (by rw [List.length_take]; omega), List.take_take, Nat.min_self]
set_option maxRecDepth 100000 in
set_option maxHeartbeats 4000000 in
theorem lkPart_ok : SpecOk Tryz.prog 59 spPart := by
  refine spec_body (C := cxp1) mixed tbOk specsp1 (callN_ok (C := cxp1) mixed tbOk specsp1 fnsp1 5) fnOk_lkPart ?_
  intro ys p r h hp
  unfold spPart at h
  split at h
  · rename_i b rs lo hi bd
    cases h
    by_cases hv : (vcL b rs).2 = 0
    · by_cases hr : rgE lo hi bd = 0
      · have hg := vcL_zero hv
        have hal := all_len hg
        have hml := mapL_len (allE b rs)
        have hk : ∀ p ∈ mapL (allE b rs), (decide (inE lo hi bd p.1 = 0) && hasB lo hi bd p.1) = hasB lo hi bd p.1 := fun p hp => in_has hr (mapL_key hg hp)
        rw [part_g hv hr]
        conv => whnf
        repeat' first
          | ((first | refine auIk ?_ | refine auIi ?_ | refine auT ?_ | refine auF ?_ | with_reducible first | refine auKt ?_ | refine auKf ?_ | refine auNt ?_ | refine auNf ?_ | refine auEt ?_ | refine auEf ?_); conv => whnf)
          | ((with_reducible first | refine br_dec (fun h => ?_) (fun h => ?_) | refine br_ndec (fun h => ?_) (fun h => ?_) | refine br_ne (fun h => ?_) (fun h => ?_) | refine br_eq (fun h => ?_) (fun h => ?_)) <;> first | (exfalso; omega) | conv => whnf)
          | (refine br_intro (fun h => ?_) (fun h => ?_) <;> conv => whnf)
          | ((first | refine auNd ?_ | refine idx_nat (by omega) (fun x hx => ?_) | refine frz_auto ?_ | refine draw_plain ?_ | refine auIx (fun x hx => ?_)); conv => whnf)
        generalize mapL (allE b rs) = m at hml hk ⊢
        have hlm : (FRes.l ⟨60, pairT, m⟩).length = m.length := rfl
        refine loop_inv [] [8] (fun vs h => ∃ i : Nat, vs = [.int .i64 (i : Int)] ∧ h = [.cells 25 [.lst entT b, .lst runT rs], .cells 103 [.str lo, .str hi, .bool bd], .arr 60 pairT [] false 0, .arr 60 pairT m false 0, .arr 60 pairT [] false 0] ∧ i ≤ m.length ∧ ∀ p ∈ m.take i, hasB lo hi bd p.1 = true) (fun vs _ => match vs with | [.int _ k] => m.length - k.toNat | _ => 0) ?_
        conv => whnf
        refine ⟨⟨0, rfl, rfl, by omega, by simp⟩, ?_⟩
        rintro vs h' - ⟨i, rfl, rfl, hi0, hall⟩
        by_cases hil : i < m.length
        · obtain ⟨x, hx⟩ : ∃ x, m[i]? = some x := ⟨_, List.getElem?_eq_getElem hil⟩
          have hkx := hk x (List.mem_of_getElem? hx)
          conv => whnf
          repeat' first
            | ((first | refine auIk ?_ | refine auIi ?_ | refine auT ?_ | refine auF ?_ | with_reducible first | refine auKt ?_ | refine auKf ?_ | refine auNt ?_ | refine auNf ?_ | refine auEt ?_ | refine auEf ?_); conv => whnf)
            | ((with_reducible first | refine br_dec (fun h => ?_) (fun h => ?_) | refine br_ndec (fun h => ?_) (fun h => ?_) | refine br_ne (fun h => ?_) (fun h => ?_) | refine br_eq (fun h => ?_) (fun h => ?_)) <;> first | (exfalso; omega) | conv => whnf)
            | (refine br_intro (fun h => ?_) (fun h => ?_) <;> conv => whnf)
            | ((first | refine auNd ?_ | refine idx_nat (by omega) (fun x hx => ?_) | refine frz_auto ?_ | refine draw_plain ?_ | refine auIx (fun x hx => ?_)); conv => whnf)
          · rename_i h0
            rw [hkx] at h0
            have hq : hasB lo hi bd x.1 = false := by simpa using h0
            refine loop_inv [] [5, 6] (fun vs h => ∃ (i j : Nat) (cur : List pairT.El), vs = [.int .i64 (i : Int), .int .i64 (j : Int)] ∧ h = [.cells 25 [.lst entT b, .lst runT rs], .cells 103 [.str lo, .str hi, .bool bd], .arr 60 pairT [] false 0, .arr 60 pairT cur false 0, .arr 60 pairT [] false 0, .cells 60 [.str x.1, .str x.2.1]] ∧ j ≤ m.length ∧ DelOk (fun p => hasB lo hi bd p.1) m cur i j) (fun vs _ => match vs with | [_, .int _ k] => m.length - k.toNat | _ => 0) ?_
            conv => whnf
            refine ⟨⟨i, i + 1, m, rfl, rfl, by omega, del_start hall hx hq⟩, ?_⟩
            clear hi0 hall hx hkx
            rintro vs h' - ⟨i, j, cur, rfl, rfl, hj, hd⟩
            have hij := hd.le
            have hcl := hd.len
            by_cases hjl : j < m.length
            · obtain ⟨y, hy⟩ : ∃ y, cur[j]? = some y := ⟨_, List.getElem?_eq_getElem (by omega)⟩
              have hky := hk y (List.mem_of_getElem? ((del_get hd).symm.trans hy))
              conv => whnf
              repeat' first
                | ((first | refine auIk ?_ | refine auIi ?_ | refine auT ?_ | refine auF ?_ | with_reducible first | refine auKt ?_ | refine auKf ?_ | refine auNt ?_ | refine auNf ?_ | refine auEt ?_ | refine auEf ?_); conv => whnf)
                | ((with_reducible first | refine br_dec (fun h => ?_) (fun h => ?_) | refine br_ndec (fun h => ?_) (fun h => ?_) | refine br_ne (fun h => ?_) (fun h => ?_) | refine br_eq (fun h => ?_) (fun h => ?_)) <;> first | (exfalso; omega) | conv => whnf)
                | (refine br_intro (fun h => ?_) (fun h => ?_) <;> conv => whnf)
                | ((first | refine auNd ?_ | refine idx_nat (by omega) (fun x hx => ?_) | refine frz_auto ?_ | refine draw_plain ?_ | refine auIx (fun x hx => ?_)); conv => whnf)
              · rw [hky] at h
                have hq : hasB lo hi bd y.1 = true := by simpa using h
                refine back_intro (by conv => whnf) rfl ⟨i + 1, j + 1, cur.set i y, rfl, rfl, by omega, del_keep hd hjl hy hq⟩ ?_
                show m.length - ((j : Int) + 1).toNat < m.length - (j : Int).toNat
                omega
              · rw [hky] at h
                have hq : hasB lo hi bd y.1 = false := by simpa using h
                refine back_intro (by conv => whnf) rfl ⟨i, j + 1, cur, rfl, rfl, by omega, del_drop hd hy hq⟩ ?_
                show m.length - ((j : Int) + 1).toNat < m.length - (j : Int).toNat
                omega
            · conv => whnf
              repeat' first
                | ((first | refine auIk ?_ | refine auIi ?_ | refine auT ?_ | refine auF ?_ | with_reducible first | refine auKt ?_ | refine auKf ?_ | refine auNt ?_ | refine auNf ?_ | refine auEt ?_ | refine auEf ?_); conv => whnf)
                | ((with_reducible first | refine br_dec (fun h => ?_) (fun h => ?_) | refine br_ndec (fun h => ?_) (fun h => ?_) | refine br_ne (fun h => ?_) (fun h => ?_) | refine br_eq (fun h => ?_) (fun h => ?_)) <;> first | (exfalso; omega) | conv => whnf)
                | (refine br_intro (fun h => ?_) (fun h => ?_) <;> conv => whnf)
                | ((first | refine auNd ?_ | refine idx_nat (by omega) (fun x hx => ?_) | refine frz_auto ?_ | refine draw_plain ?_ | refine auIx (fun x hx => ?_)); conv => whnf)
              refine part_eq ?_
              have hh := hd.hd
              rw [List.take_of_length_le (l := m) (i := j) (by omega)] at hh
              rw [← hh]
              refine congrArg (fun l => (l, (0 : Int))) ?_
              exact (take_app _ (by omega)).symm
          · rw [hkx] at h
            have hq : hasB lo hi bd x.1 = true := by simpa using h
            refine back_intro (by conv => whnf) rfl ⟨i + 1, rfl, rfl, by omega, take_succ_all hall hx hq⟩ ?_
            show m.length - ((i : Int) + 1).toNat < m.length - (i : Int).toNat
            omega
        · conv => whnf
          repeat' first
            | ((first | refine auIk ?_ | refine auIi ?_ | refine auT ?_ | refine auF ?_ | with_reducible first | refine auKt ?_ | refine auKf ?_ | refine auNt ?_ | refine auNf ?_ | refine auEt ?_ | refine auEf ?_); conv => whnf)
            | ((with_reducible first | refine br_dec (fun h => ?_) (fun h => ?_) | refine br_ndec (fun h => ?_) (fun h => ?_) | refine br_ne (fun h => ?_) (fun h => ?_) | refine br_eq (fun h => ?_) (fun h => ?_)) <;> first | (exfalso; omega) | conv => whnf)
            | (refine br_intro (fun h => ?_) (fun h => ?_) <;> conv => whnf)
            | ((first | refine auNd ?_ | refine idx_nat (by omega) (fun x hx => ?_) | refine frz_auto ?_ | refine draw_plain ?_ | refine auIx (fun x hx => ?_)); conv => whnf)
          rw [List.take_of_length_le (by omega)] at hall
          rw [List.take_of_length_le (by omega), List.filter_eq_self.2 hall]
      · conv => whnf
        repeat' first
          | ((first | refine auIk ?_ | refine auIi ?_ | refine auT ?_ | refine auF ?_ | with_reducible first | refine auKt ?_ | refine auKf ?_ | refine auNt ?_ | refine auNf ?_ | refine auEt ?_ | refine auEf ?_); conv => whnf)
          | ((with_reducible first | refine br_dec (fun h => ?_) (fun h => ?_) | refine br_ndec (fun h => ?_) (fun h => ?_) | refine br_ne (fun h => ?_) (fun h => ?_) | refine br_eq (fun h => ?_) (fun h => ?_)) <;> first | (exfalso; omega) | conv => whnf)
          | (refine br_intro (fun h => ?_) (fun h => ?_) <;> conv => whnf)
          | ((first | refine auNd ?_ | refine idx_nat (by omega) (fun x hx => ?_) | refine frz_auto ?_ | refine draw_plain ?_ | refine auIx (fun x hx => ?_)); conv => whnf)
        rw [part_r hv hr]
        rfl
    · conv => whnf
      repeat' first
        | ((first | refine auIk ?_ | refine auIi ?_ | refine auT ?_ | refine auF ?_ | with_reducible first | refine auKt ?_ | refine auKf ?_ | refine auNt ?_ | refine auNf ?_ | refine auEt ?_ | refine auEf ?_); conv => whnf)
        | ((with_reducible first | refine br_dec (fun h => ?_) (fun h => ?_) | refine br_ndec (fun h => ?_) (fun h => ?_) | refine br_ne (fun h => ?_) (fun h => ?_) | refine br_eq (fun h => ?_) (fun h => ?_)) <;> first | (exfalso; omega) | conv => whnf)
        | (refine br_intro (fun h => ?_) (fun h => ?_) <;> conv => whnf)
        | ((first | refine auNd ?_ | refine idx_nat (by omega) (fun x hx => ?_) | refine frz_auto ?_ | refine draw_plain ?_ | refine auIx (fun x hx => ?_)); conv => whnf)
      rw [part_v hv]
      rfl
  · cases h
end Go.Proofs.YtdbnohpolknbbaaGreat
namespace Go.Proofs.YtdbnohpolknbbaaGreat
open Av Bk

theorem ordS_is (a b : ByteArray) : ordS a b = if sLt a b = true then -1 else if sLt b a = true then 1 else 0 := rfl
theorem heap_u3 {b c : AObj} {T : TypeId} {t : Ty} {g : Nat} {l m : List t.El} (hl : l = m) : [b, c, .arr T t l false g] = [b, c, AObj.arr T t m false g] := by rw [hl]
set_option maxRecDepth 100000 in
set_option maxHeartbeats 4000000 in
theorem mDiff_ok : SpecOk Tryz.prog 31 spDiff := by
  refine spec_body (C := cxue2) mixed tbOk specsue2 (callN_ok (C := cxue2) mixed tbOk specsue2 FnsOk.nil 0) fnOk_mDiff ?_
  intro ys p r h hp
  unfold spDiff at h
  split at h
  · rename_i a b
    cases h
    obtain ⟨hp1, hp2⟩ := hp
    by_cases ha : (mcL a).2 = 0
    · by_cases hb : (mcL b).2 = 0
      · have hal := mcL_len ha
        have hbl := mcL_len hb
        rw [show dfR a b = (diffL a b, 0) by rw [dfR, if_neg (by simp [ha]), if_neg (by simp [hb])]]
        have q0 : ([a, b] : List (Ty.sl pairT).El)[Int.toNat 0]? = some a := rfl
        have q1 : ([a, b] : List (Ty.sl pairT).El)[Int.toNat (0 + 1)]? = some b := rfl
        conv => whnf
        repeat' first
          | ((first | refine auIk ?_ | refine auIi ?_ | refine auT ?_ | refine auF ?_ | with_reducible first | refine auKt ?_ | refine auKf ?_ | refine auNt ?_ | refine auNf ?_ | refine auEt ?_ | refine auEf ?_); conv => whnf)
          | ((with_reducible first | refine br_dec (fun h => ?_) (fun h => ?_) | refine br_ndec (fun h => ?_) (fun h => ?_) | refine br_ne (fun h => ?_) (fun h => ?_) | refine br_eq (fun h => ?_) (fun h => ?_)) <;> first | (exfalso; omega) | conv => whnf)
          | (refine br_intro (fun h => ?_) (fun h => ?_) <;> conv => whnf)
          | ((first | refine auNd ?_ | refine idx_nat (by omega) (fun x hx => ?_) | refine frz_auto ?_ | refine draw_plain ?_ | refine auIx (fun x hx => ?_)); conv => whnf)
        refine loop_turns 3 ?_
        conv => whnf
        repeat' first
          | ((first | refine auIk ?_ | refine auIi ?_ | refine auT ?_ | refine auF ?_ | with_reducible first | refine auKt ?_ | refine auKf ?_ | refine auNt ?_ | refine auNf ?_ | refine auEt ?_ | refine auEf ?_); conv => whnf)
          | ((with_reducible first | refine br_dec (fun h => ?_) (fun h => ?_) | refine br_ndec (fun h => ?_) (fun h => ?_) | refine br_ne (fun h => ?_) (fun h => ?_) | refine br_eq (fun h => ?_) (fun h => ?_)) <;> first | (exfalso; omega) | conv => whnf)
          | (refine br_intro (fun h => ?_) (fun h => ?_) <;> conv => whnf)
          | ((first | refine auNd ?_ | refine idx_nat (by omega) (fun x hx => ?_) | refine frz_auto ?_ | refine draw_plain ?_ | refine auIx (fun x hx => ?_)); conv => whnf)
        refine loop_inv [] [0, 1, 10] (fun vs h => ∃ (a' b' : List pairT.El) (g : Nat) (out : List itemT.El), vs = [.lst pairT a', .lst pairT b', .own 2 g out.length] ∧ h = [.arr 64 itemT [] false 0, .arr 34 (.sl pairT) [a, b] false 0, .arr 64 itemT out false g] ∧ out ++ diffL a' b' = diffL a b ∧ out.length ≤ 8000 ∧ a'.length ≤ 4000 ∧ b'.length ≤ 4000) (fun vs _ => match vs with | [.lst _ a', .lst _ b', _] => a'.length + b'.length | _ => 0) ?_
        conv => whnf
        refine ⟨⟨a, b, 0, [], rfl, rfl, rfl, by simp, hal, hbl⟩, ?_⟩
        rintro vs h' - ⟨a', b', g, out, rfl, rfl, ho, hol, hla, hlb⟩
        have hn0 : ([] : List pairT.El).length = 0 := rfl
        have hle := diffL_len a b
        have hlo : out.length + (diffL a' b').length ≤ a.length + b.length := by rw [← ho, List.length_append] at hle; exact hle
        rcases a' with _ | ⟨x, a'⟩
        · rcases b' with _ | ⟨y, b'⟩
          · conv => whnf
            repeat' first
              | ((first | refine auIk ?_ | refine auIi ?_ | refine auT ?_ | refine auF ?_ | with_reducible first | refine auKt ?_ | refine auKf ?_ | refine auNt ?_ | refine auNf ?_ | refine auEt ?_ | refine auEf ?_); conv => whnf)
              | ((with_reducible first | refine br_dec (fun h => ?_) (fun h => ?_) | refine br_ndec (fun h => ?_) (fun h => ?_) | refine br_ne (fun h => ?_) (fun h => ?_) | refine br_eq (fun h => ?_) (fun h => ?_)) <;> first | (exfalso; omega) | conv => whnf)
              | (refine br_intro (fun h => ?_) (fun h => ?_) <;> conv => whnf)
              | ((first | refine auNd ?_ | refine idx_nat (by omega) (fun x hx => ?_) | refine frz_auto ?_ | refine draw_plain ?_ | refine auIx (fun x hx => ?_)); conv => whnf)
            refine df_eq ?_
            rw [← ho]
            simp [cast_self, diffL]
          · have hy0 : (y :: b')[Int.toNat 0]? = some y := rfl
            have hly : (y :: b').length = b'.length + 1 := rfl
            rw [diffL_nil_cons, List.length_cons] at hlo
            conv => whnf
            repeat' first
              | ((first | refine auIk ?_ | refine auIi ?_ | refine auT ?_ | refine auF ?_ | with_reducible first | refine auKt ?_ | refine auKf ?_ | refine auNt ?_ | refine auNf ?_ | refine auEt ?_ | refine auEf ?_); conv => whnf)
              | ((with_reducible first | refine br_dec (fun h => ?_) (fun h => ?_) | refine br_ndec (fun h => ?_) (fun h => ?_) | refine br_ne (fun h => ?_) (fun h => ?_) | refine br_eq (fun h => ?_) (fun h => ?_)) <;> first | (exfalso; omega) | conv => whnf)
              | (refine br_intro (fun h => ?_) (fun h => ?_) <;> conv => whnf)
              | ((first | refine auNd ?_ | refine idx_nat (by omega) (fun x hx => ?_) | refine frz_auto ?_ | refine draw_plain ?_ | refine auIx (fun x hx => ?_)); conv => whnf)
            refine back_intro (by conv => whnf) rfl ⟨[], b', g + 1, out ++ [newI y], own_u3 ?_ (by first | rfl | exact tail_take) (by first | rfl | exact tail_take), heap_u3 ?_, ?_, ?_, by omega, by omega⟩ ?_
            · rw [List.length_append]; rfl
            · simp only [cast_self, List.take_length]; rfl
            · rw [List.append_assoc]; rw [diffL_nil_cons] at ho; exact ho
            · rw [List.length_append]; simp only [List.length_cons, List.length_nil]; omega
            · show ([] : List pairT.El).length + (List.take (((y :: b').length : Int).toNat - Int.toNat 1) (List.drop (Int.toNat 1) (y :: b'))).length < ([] : List pairT.El).length + (y :: b').length
              rw [tail_take]
              simp only [List.length_cons]; omega
        · have hx0 : (x :: a')[Int.toNat 0]? = some x := rfl
          have hlx : (x :: a').length = a'.length + 1 := rfl
          rcases b' with _ | ⟨y, b'⟩
          · rw [diffL_cons_nil, List.length_cons] at hlo
            conv => whnf
            repeat' first
              | ((first | refine auIk ?_ | refine auIi ?_ | refine auT ?_ | refine auF ?_ | with_reducible first | refine auKt ?_ | refine auKf ?_ | refine auNt ?_ | refine auNf ?_ | refine auEt ?_ | refine auEf ?_); conv => whnf)
              | ((with_reducible first | refine br_dec (fun h => ?_) (fun h => ?_) | refine br_ndec (fun h => ?_) (fun h => ?_) | refine br_ne (fun h => ?_) (fun h => ?_) | refine br_eq (fun h => ?_) (fun h => ?_)) <;> first | (exfalso; omega) | conv => whnf)
              | (refine br_intro (fun h => ?_) (fun h => ?_) <;> conv => whnf)
              | ((first | refine auNd ?_ | refine idx_nat (by omega) (fun x hx => ?_) | refine frz_auto ?_ | refine draw_plain ?_ | refine auIx (fun x hx => ?_)); conv => whnf)
            refine back_intro (by conv => whnf) rfl ⟨a', [], g + 1, out ++ [goneI x], own_u3 ?_ (by first | rfl | exact tail_take) (by first | rfl | exact tail_take), heap_u3 ?_, ?_, ?_, by omega, by omega⟩ ?_
            · rw [List.length_append]; rfl
            · simp only [cast_self, List.take_length]; rfl
            · rw [List.append_assoc]; rw [diffL_cons_nil] at ho; exact ho
            · rw [List.length_append]; simp only [List.length_cons, List.length_nil]; omega
            · show (List.take (((x :: a').length : Int).toNat - Int.toNat 1) (List.drop (Int.toNat 1) (x :: a'))).length + ([] : List pairT.El).length < (x :: a').length + ([] : List pairT.El).length
              rw [tail_take]
              simp only [List.length_cons]; omega
          · have hy0 : (y :: b')[Int.toNat 0]? = some y := rfl
            have hly : (y :: b').length = b'.length + 1 := rfl
            by_cases h1 : sLt x.1 y.1 = true
            · have ho1 := ordS_is x.1 y.1
              rw [if_pos h1] at ho1
              rw [diffL_lt a' b' h1, List.length_cons] at hlo
              conv => whnf
              repeat' first
                | ((first | refine auIk ?_ | refine auIi ?_ | refine auT ?_ | refine auF ?_ | with_reducible first | refine auKt ?_ | refine auKf ?_ | refine auNt ?_ | refine auNf ?_ | refine auEt ?_ | refine auEf ?_); conv => whnf)
                | ((with_reducible first | refine br_dec (fun h => ?_) (fun h => ?_) | refine br_ndec (fun h => ?_) (fun h => ?_) | refine br_ne (fun h => ?_) (fun h => ?_) | refine br_eq (fun h => ?_) (fun h => ?_)) <;> first | (exfalso; omega) | conv => whnf)
                | (refine br_intro (fun h => ?_) (fun h => ?_) <;> conv => whnf)
                | ((first | refine auNd ?_ | refine idx_nat (by omega) (fun x hx => ?_) | refine frz_auto ?_ | refine draw_plain ?_ | refine auIx (fun x hx => ?_)); conv => whnf)
              refine back_intro (by conv => whnf) rfl ⟨a', y :: b', g + 1, out ++ [goneI x], own_u3 ?_ (by first | rfl | exact tail_take) (by first | rfl | exact tail_take), heap_u3 ?_, ?_, ?_, by omega, by omega⟩ ?_
              · rw [List.length_append]; rfl
              · simp only [cast_self, List.take_length]; rfl
              · rw [List.append_assoc]; rw [diffL_lt a' b' h1] at ho; exact ho
              · rw [List.length_append]; simp only [List.length_cons, List.length_nil]; omega
              · show (List.take (((x :: a').length : Int).toNat - Int.toNat 1) (List.drop (Int.toNat 1) (x :: a'))).length + (y :: b').length < (x :: a').length + (y :: b').length
                rw [tail_take]
                simp only [List.length_cons]; omega
            · have h1 : sLt x.1 y.1 = false := by simpa using h1
              by_cases h2 : sLt y.1 x.1 = true
              · have ho1 := ordS_is x.1 y.1
                rw [if_neg (by rw [h1]; decide), if_pos h2] at ho1
                rw [diffL_gt a' b' h2, List.length_cons] at hlo
                conv => whnf
                repeat' first
                  | ((first | refine auIk ?_ | refine auIi ?_ | refine auT ?_ | refine auF ?_ | with_reducible first | refine auKt ?_ | refine auKf ?_ | refine auNt ?_ | refine auNf ?_ | refine auEt ?_ | refine auEf ?_); conv => whnf)
                  | ((with_reducible first | refine br_dec (fun h => ?_) (fun h => ?_) | refine br_ndec (fun h => ?_) (fun h => ?_) | refine br_ne (fun h => ?_) (fun h => ?_) | refine br_eq (fun h => ?_) (fun h => ?_)) <;> first | (exfalso; omega) | conv => whnf)
                  | (refine br_intro (fun h => ?_) (fun h => ?_) <;> conv => whnf)
                  | ((first | refine auNd ?_ | refine idx_nat (by omega) (fun x hx => ?_) | refine frz_auto ?_ | refine draw_plain ?_ | refine auIx (fun x hx => ?_)); conv => whnf)
                refine back_intro (by conv => whnf) rfl ⟨x :: a', b', g + 1, out ++ [newI y], own_u3 ?_ (by first | rfl | exact tail_take) (by first | rfl | exact tail_take), heap_u3 ?_, ?_, ?_, by omega, by omega⟩ ?_
                · rw [List.length_append]; rfl
                · simp only [cast_self, List.take_length]; rfl
                · rw [List.append_assoc]; rw [diffL_gt a' b' h2] at ho; exact ho
                · rw [List.length_append]; simp only [List.length_cons, List.length_nil]; omega
                · show (x :: a').length + (List.take (((y :: b').length : Int).toNat - Int.toNat 1) (List.drop (Int.toNat 1) (y :: b'))).length < (x :: a').length + (y :: b').length
                  rw [tail_take]
                  simp only [List.length_cons]; omega
              · have h2 : sLt y.1 x.1 = false := by simpa using h2
                have ho1 := ordS_is x.1 y.1
                rw [if_neg (by rw [h1]; decide), if_neg (by rw [h2]; decide)] at ho1
                by_cases h3 : sEq x.2.1 y.2.1 = true
                · have h4 : (!sEq x.2.1 y.2.1) = false := by rw [h3]; rfl
                  conv => whnf
                  repeat' first
                    | ((first | refine auIk ?_ | refine auIi ?_ | refine auT ?_ | refine auF ?_ | with_reducible first | refine auKt ?_ | refine auKf ?_ | refine auNt ?_ | refine auNf ?_ | refine auEt ?_ | refine auEf ?_); conv => whnf)
                    | ((with_reducible first | refine br_dec (fun h => ?_) (fun h => ?_) | refine br_ndec (fun h => ?_) (fun h => ?_) | refine br_ne (fun h => ?_) (fun h => ?_) | refine br_eq (fun h => ?_) (fun h => ?_)) <;> first | (exfalso; omega) | conv => whnf)
                    | (refine br_intro (fun h => ?_) (fun h => ?_) <;> conv => whnf)
                    | ((first | refine auNd ?_ | refine idx_nat (by omega) (fun x hx => ?_) | refine frz_auto ?_ | refine draw_plain ?_ | refine auIx (fun x hx => ?_)); conv => whnf)
                  refine back_intro (by conv => whnf) rfl ⟨a', b', g, out, own_u3 rfl tail_take tail_take, rfl, by rw [diffL_eq a' b' h1 h2 h3] at ho; exact ho, hol, by omega, by omega⟩ ?_
                  show (List.take (((x :: a').length : Int).toNat - Int.toNat 1) (List.drop (Int.toNat 1) (x :: a'))).length + (List.take (((y :: b').length : Int).toNat - Int.toNat 1) (List.drop (Int.toNat 1) (y :: b'))).length < (x :: a').length + (y :: b').length
                  rw [tail_take, tail_take]
                  simp only [List.length_cons]; omega
                · have h3 : sEq x.2.1 y.2.1 = false := by simpa using h3
                  have h4 : (!sEq x.2.1 y.2.1) = true := by rw [h3]; rfl
                  rw [diffL_ne a' b' h1 h2 h3, List.length_cons] at hlo
                  conv => whnf
                  repeat' first
                    | ((first | refine auIk ?_ | refine auIi ?_ | refine auT ?_ | refine auF ?_ | with_reducible first | refine auKt ?_ | refine auKf ?_ | refine auNt ?_ | refine auNf ?_ | refine auEt ?_ | refine auEf ?_); conv => whnf)
                    | ((with_reducible first | refine br_dec (fun h => ?_) (fun h => ?_) | refine br_ndec (fun h => ?_) (fun h => ?_) | refine br_ne (fun h => ?_) (fun h => ?_) | refine br_eq (fun h => ?_) (fun h => ?_)) <;> first | (exfalso; omega) | conv => whnf)
                    | (refine br_intro (fun h => ?_) (fun h => ?_) <;> conv => whnf)
                    | ((first | refine auNd ?_ | refine idx_nat (by omega) (fun x hx => ?_) | refine frz_auto ?_ | refine draw_plain ?_ | refine auIx (fun x hx => ?_)); conv => whnf)
                  refine back_intro (by conv => whnf) rfl ⟨a', b', g + 1, out ++ [otherI x y], own_u3 ?_ (by first | rfl | exact tail_take) (by first | rfl | exact tail_take), heap_u3 ?_, ?_, ?_, by omega, by omega⟩ ?_
                  · rw [List.length_append]; rfl
                  · simp only [cast_self, List.take_length]; show _ = out ++ [mkI 3 x.1 x.2.1 y.2.1]; rw [sLt_ext h1 h2]; rfl
                  · rw [List.append_assoc]; rw [diffL_ne a' b' h1 h2 h3] at ho; exact ho
                  · rw [List.length_append]; simp only [List.length_cons, List.length_nil]; omega
                  · show (List.take (((x :: a').length : Int).toNat - Int.toNat 1) (List.drop (Int.toNat 1) (x :: a'))).length + (List.take (((y :: b').length : Int).toNat - Int.toNat 1) (List.drop (Int.toNat 1) (y :: b'))).length < (x :: a').length + (y :: b').length
                    rw [tail_take, tail_take]
                    simp only [List.length_cons]; omega
      · rw [show dfR a b = ([], (mcL b).2) by rw [dfR, if_neg (by simp [ha]), if_pos hb]]
        have q0 : ([a, b] : List (Ty.sl pairT).El)[Int.toNat 0]? = some a := rfl
        have q1 : ([a, b] : List (Ty.sl pairT).El)[Int.toNat (0 + 1)]? = some b := rfl
        conv => whnf
        repeat' first
          | ((first | refine auIk ?_ | refine auIi ?_ | refine auT ?_ | refine auF ?_ | with_reducible first | refine auKt ?_ | refine auKf ?_ | refine auNt ?_ | refine auNf ?_ | refine auEt ?_ | refine auEf ?_); conv => whnf)
          | ((with_reducible first | refine br_dec (fun h => ?_) (fun h => ?_) | refine br_ndec (fun h => ?_) (fun h => ?_) | refine br_ne (fun h => ?_) (fun h => ?_) | refine br_eq (fun h => ?_) (fun h => ?_)) <;> first | (exfalso; omega) | conv => whnf)
          | (refine br_intro (fun h => ?_) (fun h => ?_) <;> conv => whnf)
          | ((first | refine auNd ?_ | refine idx_nat (by omega) (fun x hx => ?_) | refine frz_auto ?_ | refine draw_plain ?_ | refine auIx (fun x hx => ?_)); conv => whnf)
        refine loop_turns 3 ?_
        conv => whnf
        repeat' first
          | ((first | refine auIk ?_ | refine auIi ?_ | refine auT ?_ | refine auF ?_ | with_reducible first | refine auKt ?_ | refine auKf ?_ | refine auNt ?_ | refine auNf ?_ | refine auEt ?_ | refine auEf ?_); conv => whnf)
          | ((with_reducible first | refine br_dec (fun h => ?_) (fun h => ?_) | refine br_ndec (fun h => ?_) (fun h => ?_) | refine br_ne (fun h => ?_) (fun h => ?_) | refine br_eq (fun h => ?_) (fun h => ?_)) <;> first | (exfalso; omega) | conv => whnf)
          | (refine br_intro (fun h => ?_) (fun h => ?_) <;> conv => whnf)
          | ((first | refine auNd ?_ | refine idx_nat (by omega) (fun x hx => ?_) | refine frz_auto ?_ | refine draw_plain ?_ | refine auIx (fun x hx => ?_)); conv => whnf)
        rfl
    · rw [show dfR a b = ([], (mcL a).2) by rw [dfR, if_pos ha]]
      have q0 : ([a, b] : List (Ty.sl pairT).El)[Int.toNat 0]? = some a := rfl
      conv => whnf
      repeat' first
        | ((first | refine auIk ?_ | refine auIi ?_ | refine auT ?_ | refine auF ?_ | with_reducible first | refine auKt ?_ | refine auKf ?_ | refine auNt ?_ | refine auNf ?_ | refine auEt ?_ | refine auEf ?_); conv => whnf)
        | ((with_reducible first | refine br_dec (fun h => ?_) (fun h => ?_) | refine br_ndec (fun h => ?_) (fun h => ?_) | refine br_ne (fun h => ?_) (fun h => ?_) | refine br_eq (fun h => ?_) (fun h => ?_)) <;> first | (exfalso; omega) | conv => whnf)
        | (refine br_intro (fun h => ?_) (fun h => ?_) <;> conv => whnf)
        | ((first | refine auNd ?_ | refine idx_nat (by omega) (fun x hx => ?_) | refine frz_auto ?_ | refine draw_plain ?_ | refine auIx (fun x hx => ?_)); conv => whnf)
      refine loop_turns 3 ?_
      conv => whnf
      repeat' first
        | ((first | refine auIk ?_ | refine auIi ?_ | refine auT ?_ | refine auF ?_ | with_reducible first | refine auKt ?_ | refine auKf ?_ | refine auNt ?_ | refine auNf ?_ | refine auEt ?_ | refine auEf ?_); conv => whnf)
        | ((with_reducible first | refine br_dec (fun h => ?_) (fun h => ?_) | refine br_ndec (fun h => ?_) (fun h => ?_) | refine br_ne (fun h => ?_) (fun h => ?_) | refine br_eq (fun h => ?_) (fun h => ?_)) <;> first | (exfalso; omega) | conv => whnf)
        | (refine br_intro (fun h => ?_) (fun h => ?_) <;> conv => whnf)
        | ((first | refine auNd ?_ | refine idx_nat (by omega) (fun x hx => ?_) | refine frz_auto ?_ | refine draw_plain ?_ | refine auIx (fun x hx => ?_)); conv => whnf)
      rfl
  · cases h
end Go.Proofs.YtdbnohpolknbbaaGreat
namespace Go.Proofs.YtdbnohpolknbbaaGreat
open Av Bk

theorem eqP_refl (x : pairT.El) : eqT pairT x x = true := by
  show (sEq x.1 x.1 && sEq x.2.1 x.2.1) = true
  rw [sEq_refl, sEq_refl]
  rfl
theorem eqP_eq {x y : pairT.El} (h : eqT pairT x y = true) : x = y := by
  have h : (sEq x.1 y.1 && sEq x.2.1 y.2.1) = true := h
  rw [Bool.and_eq_true] at h
  obtain ⟨k, v, u⟩ := x
  obtain ⟨k', v', u'⟩ := y
  rw [show k = k' from sEq_iff.1 h.1, show v = v' from sEq_iff.1 h.2]
theorem sameP_iff : ∀ {a b : List pairT.El}, sameL pairT a b = true ↔ a = b
  | [], [] => by simp [sameL]
  | [], _ :: _ => by simp [sameL]
  | _ :: _, [] => by simp [sameL]
  | x :: a, y :: b => by
    rw [sameL, Bool.and_eq_true, sameP_iff (a := a) (b := b), List.cons.injEq]
    exact ⟨fun h => ⟨eqP_eq h.1, h.2⟩, fun h => ⟨by rw [h.1]; exact eqP_refl y, h.2⟩⟩
abbrev viewT : Ty := .st [.sl entT, .sl runT]
end Go.Proofs.YtdbnohpolknbbaaGreat
namespace Go.Proofs.YtdbnohpolknbbaaGreat
open Av Bk

def spSameP : DSpec
  | [.lst (.st [.str, .str]) a, .lst (.st [.str, .str]) b] => some (a.length ≤ 4611686018427387904, .bool (sameL pairT a b))
  | _ => none
set_option maxRecDepth 100000 in
theorem fnOk_same05 : FnOk Tryz.prog 16 Tryz.f16 := ⟨by rfl, by kernel_rfl, by
  show okCode _ _ = true ∧ drawsOk _ = true
  exact ⟨by kernel_rfl, by kernel_rfl⟩⟩
set_option maxRecDepth 100000 in
set_option maxHeartbeats 2000000 in
theorem same05_ok : SpecOk Tryz.prog 16 spSameP := by
  refine spec_body (C := cx0) mixed tbOk SpecsOk.nil (callN_ok (C := cx0) mixed tbOk SpecsOk.nil FnsOk.nil 0) fnOk_same05 ?_
  intro ys p r h hp
  unfold spSameP at h
  split at h
  · rename_i a b
    cases h
    conv => whnf
    repeat' first
      | ((first | refine auT ?_ | refine auF ?_ | with_reducible first | refine auKt ?_ | refine auKf ?_ | refine auNt ?_ | refine auNf ?_ | refine auEt ?_ | refine auEf ?_); conv => whnf)
      | ((with_reducible first | refine br_dec (fun h => ?_) (fun h => ?_) | refine br_ndec (fun h => ?_) (fun h => ?_) | refine br_ne (fun h => ?_) (fun h => ?_) | refine br_eq (fun h => ?_) (fun h => ?_)) <;> first | (exfalso; omega) | conv => whnf)
      | (refine br_intro (fun h => ?_) (fun h => ?_) <;> conv => whnf)
      | ((first | refine auNd ?_ | refine idx_nat (by omega) (fun x hx => ?_) | refine frz_auto ?_ | refine draw_plain ?_ | refine auIx (fun x hx => ?_)); conv => whnf)
    · refine congrArg AV.bool ?_
      rw [same_len (by omega)]
    · rename_i hlen
      refine loop_inv [] [5] (fun vs h => ∃ i : Nat, vs = [.int .i64 (i : Int)] ∧ h = [] ∧ i ≤ a.length ∧ sameL pairT a b = sameL pairT (a.drop i) (b.drop i)) (fun vs _ => match vs with | [.int _ k] => a.length - k.toNat | _ => 0) ?_
      refine ⟨⟨0, rfl, rfl, Nat.zero_le _, rfl⟩, ?_⟩
      rintro vs h' - ⟨i, rfl, rfl, hi, hs⟩
      by_cases hil : i < a.length
      · obtain ⟨x, hx⟩ : ∃ x, a[i]? = some x := ⟨_, List.getElem?_eq_getElem hil⟩
        obtain ⟨y, hy⟩ : ∃ y, b[i]? = some y := ⟨_, List.getElem?_eq_getElem (by omega)⟩
        rw [same_step hx hy] at hs
        conv => whnf
        repeat' first
          | ((first | refine auIk ?_ | refine auIi ?_ | refine auT ?_ | refine auF ?_ | with_reducible first | refine auKt ?_ | refine auKf ?_ | refine auNt ?_ | refine auNf ?_ | refine auEt ?_ | refine auEf ?_); conv => whnf)
          | ((with_reducible first | refine br_dec (fun h => ?_) (fun h => ?_) | refine br_ndec (fun h => ?_) (fun h => ?_) | refine br_ne (fun h => ?_) (fun h => ?_) | refine br_eq (fun h => ?_) (fun h => ?_)) <;> first | (exfalso; omega) | conv => whnf)
          | (refine br_intro (fun h => ?_) (fun h => ?_) <;> conv => whnf)
          | ((first | refine auNd ?_ | refine idx_nat (by omega) (fun x hx => ?_) | refine frz_auto ?_ | refine draw_plain ?_ | refine auIx (fun x hx => ?_)); conv => whnf)
        · rw [hs, show eqT pairT x y = false from bnt h]
          rfl
        · rw [show eqT pairT x y = true from bnf h] at hs
          refine back_intro (by conv => whnf) rfl ⟨i + 1, rfl, rfl, by omega, hs⟩ ?_
          show a.length - ((i : Int) + 1).toNat < a.length - (i : Int).toNat
          omega
      · conv => whnf
        repeat' first
          | ((first | refine auIk ?_ | refine auIi ?_ | refine auT ?_ | refine auF ?_ | with_reducible first | refine auKt ?_ | refine auKf ?_ | refine auNt ?_ | refine auNf ?_ | refine auEt ?_ | refine auEf ?_); conv => whnf)
          | ((with_reducible first | refine br_dec (fun h => ?_) (fun h => ?_) | refine br_ndec (fun h => ?_) (fun h => ?_) | refine br_ne (fun h => ?_) (fun h => ?_) | refine br_eq (fun h => ?_) (fun h => ?_)) <;> first | (exfalso; omega) | conv => whnf)
          | (refine br_intro (fun h => ?_) (fun h => ?_) <;> conv => whnf)
          | ((first | refine auNd ?_ | refine idx_nat (by omega) (fun x hx => ?_) | refine frz_auto ?_ | refine draw_plain ?_ | refine auIx (fun x hx => ?_)); conv => whnf)
        rw [hs, same_end (by omega) (by omega)]
  · cases h
end Go.Proofs.YtdbnohpolknbbaaGreat
namespace Go.Proofs.YtdbnohpolknbbaaGreat
open Av Bk

def spSameI : DSpec
  | [.lst (.st [.int .i64, .str, .str, .str]) a, .lst (.st [.int .i64, .str, .str, .str]) b] => some (a.length ≤ 4611686018427387904, .bool (sameL itemT a b))
  | _ => none
set_option maxRecDepth 100000 in
theorem fnOk_sameIt : FnOk Tryz.prog 15 Tryz.f15 := ⟨by rfl, by kernel_rfl, by
  show okCode _ _ = true ∧ drawsOk _ = true
  exact ⟨by kernel_rfl, by kernel_rfl⟩⟩
set_option maxRecDepth 100000 in
set_option maxHeartbeats 2000000 in
theorem sameIt_ok : SpecOk Tryz.prog 15 spSameI := by
  refine spec_body (C := cx0) mixed tbOk SpecsOk.nil (callN_ok (C := cx0) mixed tbOk SpecsOk.nil FnsOk.nil 0) fnOk_sameIt ?_
  intro ys p r h hp
  unfold spSameI at h
  split at h
  · rename_i a b
    cases h
    conv => whnf
    repeat' first
      | ((first | refine auT ?_ | refine auF ?_ | with_reducible first | refine auKt ?_ | refine auKf ?_ | refine auNt ?_ | refine auNf ?_ | refine auEt ?_ | refine auEf ?_); conv => whnf)
      | ((with_reducible first | refine br_dec (fun h => ?_) (fun h => ?_) | refine br_ndec (fun h => ?_) (fun h => ?_) | refine br_ne (fun h => ?_) (fun h => ?_) | refine br_eq (fun h => ?_) (fun h => ?_)) <;> first | (exfalso; omega) | conv => whnf)
      | (refine br_intro (fun h => ?_) (fun h => ?_) <;> conv => whnf)
      | ((first | refine auNd ?_ | refine idx_nat (by omega) (fun x hx => ?_) | refine frz_auto ?_ | refine draw_plain ?_ | refine auIx (fun x hx => ?_)); conv => whnf)
    · refine congrArg AV.bool ?_
      rw [same_len (by omega)]
    · rename_i hlen
      refine loop_inv [] [5] (fun vs h => ∃ i : Nat, vs = [.int .i64 (i : Int)] ∧ h = [] ∧ i ≤ a.length ∧ sameL itemT a b = sameL itemT (a.drop i) (b.drop i)) (fun vs _ => match vs with | [.int _ k] => a.length - k.toNat | _ => 0) ?_
      refine ⟨⟨0, rfl, rfl, Nat.zero_le _, rfl⟩, ?_⟩
      rintro vs h' - ⟨i, rfl, rfl, hi, hs⟩
      by_cases hil : i < a.length
      · obtain ⟨x, hx⟩ : ∃ x, a[i]? = some x := ⟨_, List.getElem?_eq_getElem hil⟩
        obtain ⟨y, hy⟩ : ∃ y, b[i]? = some y := ⟨_, List.getElem?_eq_getElem (by omega)⟩
        rw [same_step hx hy] at hs
        conv => whnf
        repeat' first
          | ((first | refine auIk ?_ | refine auIi ?_ | refine auT ?_ | refine auF ?_ | with_reducible first | refine auKt ?_ | refine auKf ?_ | refine auNt ?_ | refine auNf ?_ | refine auEt ?_ | refine auEf ?_); conv => whnf)
          | ((with_reducible first | refine br_dec (fun h => ?_) (fun h => ?_) | refine br_ndec (fun h => ?_) (fun h => ?_) | refine br_ne (fun h => ?_) (fun h => ?_) | refine br_eq (fun h => ?_) (fun h => ?_)) <;> first | (exfalso; omega) | conv => whnf)
          | (refine br_intro (fun h => ?_) (fun h => ?_) <;> conv => whnf)
          | ((first | refine auNd ?_ | refine idx_nat (by omega) (fun x hx => ?_) | refine frz_auto ?_ | refine draw_plain ?_ | refine auIx (fun x hx => ?_)); conv => whnf)
        · rw [hs, show eqT itemT x y = false from bnt h]
          rfl
        · rw [show eqT itemT x y = true from bnf h] at hs
          refine back_intro (by conv => whnf) rfl ⟨i + 1, rfl, rfl, by omega, hs⟩ ?_
          show a.length - ((i : Int) + 1).toNat < a.length - (i : Int).toNat
          omega
      · conv => whnf
        repeat' first
          | ((first | refine auIk ?_ | refine auIi ?_ | refine auT ?_ | refine auF ?_ | with_reducible first | refine auKt ?_ | refine auKf ?_ | refine auNt ?_ | refine auNf ?_ | refine auEt ?_ | refine auEf ?_); conv => whnf)
          | ((with_reducible first | refine br_dec (fun h => ?_) (fun h => ?_) | refine br_ndec (fun h => ?_) (fun h => ?_) | refine br_ne (fun h => ?_) (fun h => ?_) | refine br_eq (fun h => ?_) (fun h => ?_)) <;> first | (exfalso; omega) | conv => whnf)
          | (refine br_intro (fun h => ?_) (fun h => ?_) <;> conv => whnf)
          | ((first | refine auNd ?_ | refine idx_nat (by omega) (fun x hx => ?_) | refine frz_auto ?_ | refine draw_plain ?_ | refine auIx (fun x hx => ?_)); conv => whnf)
        rw [hs, same_end (by omega) (by omega)]
  · cases h

set_option maxRecDepth 100000 in
theorem fnOk_eqPr : FnOk Tryz.prog 32 Tryz.f32 := ⟨by rfl, by kernel_rfl, by
  show okCode _ _ = true ∧ drawsOk _ = true
  exact ⟨by kernel_rfl, by kernel_rfl⟩⟩
set_option maxRecDepth 100000 in
set_option maxHeartbeats 2000000 in
theorem eqPr_ok : SpecOk Tryz.prog 32 spSameP := by
  refine spec_body (C := cx0) mixed tbOk SpecsOk.nil (callN_ok (C := cx0) mixed tbOk SpecsOk.nil FnsOk.nil 0) fnOk_eqPr ?_
  intro ys p r h hp
  unfold spSameP at h
  split at h
  · rename_i a b
    cases h
    conv => whnf
    repeat' first
      | ((first | refine auT ?_ | refine auF ?_ | with_reducible first | refine auKt ?_ | refine auKf ?_ | refine auNt ?_ | refine auNf ?_ | refine auEt ?_ | refine auEf ?_); conv => whnf)
      | ((with_reducible first | refine br_dec (fun h => ?_) (fun h => ?_) | refine br_ndec (fun h => ?_) (fun h => ?_) | refine br_ne (fun h => ?_) (fun h => ?_) | refine br_eq (fun h => ?_) (fun h => ?_)) <;> first | (exfalso; omega) | conv => whnf)
      | (refine br_intro (fun h => ?_) (fun h => ?_) <;> conv => whnf)
      | ((first | refine auNd ?_ | refine idx_nat (by omega) (fun x hx => ?_) | refine frz_auto ?_ | refine draw_plain ?_ | refine auIx (fun x hx => ?_)); conv => whnf)
    · refine congrArg AV.bool ?_
      rw [same_len (by omega)]
    · rename_i hlen
      refine loop_inv [] [13] (fun vs h => ∃ i : Nat, vs = [.int .i64 (i : Int)] ∧ h = [] ∧ i ≤ a.length ∧ sameL pairT a b = sameL pairT (a.drop i) (b.drop i)) (fun vs _ => match vs with | [.int _ k] => a.length - k.toNat | _ => 0) ?_
      refine ⟨⟨0, rfl, rfl, Nat.zero_le _, rfl⟩, ?_⟩
      rintro vs h' - ⟨i, rfl, rfl, hi, hs⟩
      by_cases hil : i < a.length
      · obtain ⟨x, hx⟩ : ∃ x, a[i]? = some x := ⟨_, List.getElem?_eq_getElem hil⟩
        obtain ⟨y, hy⟩ : ∃ y, b[i]? = some y := ⟨_, List.getElem?_eq_getElem (by omega)⟩
        rw [same_step hx hy] at hs
        conv => whnf
        repeat' first
          | ((first | refine auIk ?_ | refine auIi ?_ | refine auT ?_ | refine auF ?_ | with_reducible first | refine auKt ?_ | refine auKf ?_ | refine auNt ?_ | refine auNf ?_ | refine auEt ?_ | refine auEf ?_); conv => whnf)
          | ((with_reducible first | refine br_dec (fun h => ?_) (fun h => ?_) | refine br_ndec (fun h => ?_) (fun h => ?_) | refine br_ne (fun h => ?_) (fun h => ?_) | refine br_eq (fun h => ?_) (fun h => ?_)) <;> first | (exfalso; omega) | conv => whnf)
          | (refine br_intro (fun h => ?_) (fun h => ?_) <;> conv => whnf)
          | ((first | refine auNd ?_ | refine idx_nat (by omega) (fun x hx => ?_) | refine frz_auto ?_ | refine draw_plain ?_ | refine auIx (fun x hx => ?_)); conv => whnf)
        · rw [hs, show eqT pairT x y = false from bnt h]
          rfl
        · rw [show eqT pairT x y = true from bnf h] at hs
          refine back_intro (by conv => whnf) rfl ⟨i + 1, rfl, rfl, by omega, hs⟩ ?_
          show a.length - ((i : Int) + 1).toNat < a.length - (i : Int).toNat
          omega
      · conv => whnf
        repeat' first
          | ((first | refine auIk ?_ | refine auIi ?_ | refine auT ?_ | refine auF ?_ | with_reducible first | refine auKt ?_ | refine auKf ?_ | refine auNt ?_ | refine auNf ?_ | refine auEt ?_ | refine auEf ?_); conv => whnf)
          | ((with_reducible first | refine br_dec (fun h => ?_) (fun h => ?_) | refine br_ndec (fun h => ?_) (fun h => ?_) | refine br_ne (fun h => ?_) (fun h => ?_) | refine br_eq (fun h => ?_) (fun h => ?_)) <;> first | (exfalso; omega) | conv => whnf)
          | (refine br_intro (fun h => ?_) (fun h => ?_) <;> conv => whnf)
          | ((first | refine auNd ?_ | refine idx_nat (by omega) (fun x hx => ?_) | refine frz_auto ?_ | refine draw_plain ?_ | refine auIx (fun x hx => ?_)); conv => whnf)
        rw [hs, same_end (by omega) (by omega)]
  · cases h
def spSameE : DSpec
  | [.lst (.st [.str, .str, .bool, .int .i64]) a, .lst (.st [.str, .str, .bool, .int .i64]) b] => some (a.length ≤ 4611686018427387904, .bool (sameL entT a b))
  | _ => none

set_option maxRecDepth 100000 in
theorem fnOk_eqEn : FnOk Tryz.prog 38 Tryz.f38 := ⟨by rfl, by kernel_rfl, by
  show okCode _ _ = true ∧ drawsOk _ = true
  exact ⟨by kernel_rfl, by kernel_rfl⟩⟩
set_option maxRecDepth 100000 in
set_option maxHeartbeats 2000000 in
theorem eqEn_ok : SpecOk Tryz.prog 38 spSameE := by
  refine spec_body (C := cx0) mixed tbOk SpecsOk.nil (callN_ok (C := cx0) mixed tbOk SpecsOk.nil FnsOk.nil 0) fnOk_eqEn ?_
  intro ys p r h hp
  unfold spSameE at h
  split at h
  · rename_i a b
    cases h
    conv => whnf
    repeat' first
      | ((first | refine auT ?_ | refine auF ?_ | with_reducible first | refine auKt ?_ | refine auKf ?_ | refine auNt ?_ | refine auNf ?_ | refine auEt ?_ | refine auEf ?_); conv => whnf)
      | ((with_reducible first | refine br_dec (fun h => ?_) (fun h => ?_) | refine br_ndec (fun h => ?_) (fun h => ?_) | refine br_ne (fun h => ?_) (fun h => ?_) | refine br_eq (fun h => ?_) (fun h => ?_)) <;> first | (exfalso; omega) | conv => whnf)
      | (refine br_intro (fun h => ?_) (fun h => ?_) <;> conv => whnf)
      | ((first | refine auNd ?_ | refine idx_nat (by omega) (fun x hx => ?_) | refine frz_auto ?_ | refine draw_plain ?_ | refine auIx (fun x hx => ?_)); conv => whnf)
    · refine congrArg AV.bool ?_
      rw [same_len (by omega)]
    · rename_i hlen
      refine loop_inv [] [13] (fun vs h => ∃ i : Nat, vs = [.int .i64 (i : Int)] ∧ h = [] ∧ i ≤ a.length ∧ sameL entT a b = sameL entT (a.drop i) (b.drop i)) (fun vs _ => match vs with | [.int _ k] => a.length - k.toNat | _ => 0) ?_
      refine ⟨⟨0, rfl, rfl, Nat.zero_le _, rfl⟩, ?_⟩
      rintro vs h' - ⟨i, rfl, rfl, hi, hs⟩
      by_cases hil : i < a.length
      · obtain ⟨x, hx⟩ : ∃ x, a[i]? = some x := ⟨_, List.getElem?_eq_getElem hil⟩
        obtain ⟨y, hy⟩ : ∃ y, b[i]? = some y := ⟨_, List.getElem?_eq_getElem (by omega)⟩
        rw [same_step hx hy] at hs
        conv => whnf
        repeat' first
          | ((first | refine auIk ?_ | refine auIi ?_ | refine auT ?_ | refine auF ?_ | with_reducible first | refine auKt ?_ | refine auKf ?_ | refine auNt ?_ | refine auNf ?_ | refine auEt ?_ | refine auEf ?_); conv => whnf)
          | ((with_reducible first | refine br_dec (fun h => ?_) (fun h => ?_) | refine br_ndec (fun h => ?_) (fun h => ?_) | refine br_ne (fun h => ?_) (fun h => ?_) | refine br_eq (fun h => ?_) (fun h => ?_)) <;> first | (exfalso; omega) | conv => whnf)
          | (refine br_intro (fun h => ?_) (fun h => ?_) <;> conv => whnf)
          | ((first | refine auNd ?_ | refine idx_nat (by omega) (fun x hx => ?_) | refine frz_auto ?_ | refine draw_plain ?_ | refine auIx (fun x hx => ?_)); conv => whnf)
        · rw [hs, show eqT entT x y = false from bnt h]
          rfl
        · rw [show eqT entT x y = true from bnf h] at hs
          refine back_intro (by conv => whnf) rfl ⟨i + 1, rfl, rfl, by omega, hs⟩ ?_
          show a.length - ((i : Int) + 1).toNat < a.length - (i : Int).toNat
          omega
      · conv => whnf
        repeat' first
          | ((first | refine auIk ?_ | refine auIi ?_ | refine auT ?_ | refine auF ?_ | with_reducible first | refine auKt ?_ | refine auKf ?_ | refine auNt ?_ | refine auNf ?_ | refine auEt ?_ | refine auEf ?_); conv => whnf)
          | ((with_reducible first | refine br_dec (fun h => ?_) (fun h => ?_) | refine br_ndec (fun h => ?_) (fun h => ?_) | refine br_ne (fun h => ?_) (fun h => ?_) | refine br_eq (fun h => ?_) (fun h => ?_)) <;> first | (exfalso; omega) | conv => whnf)
          | (refine br_intro (fun h => ?_) (fun h => ?_) <;> conv => whnf)
          | ((first | refine auNd ?_ | refine idx_nat (by omega) (fun x hx => ?_) | refine frz_auto ?_ | refine draw_plain ?_ | refine auIx (fun x hx => ?_)); conv => whnf)
        rw [hs, same_end (by omega) (by omega)]
  · cases h
end Go.Proofs.YtdbnohpolknbbaaGreat
