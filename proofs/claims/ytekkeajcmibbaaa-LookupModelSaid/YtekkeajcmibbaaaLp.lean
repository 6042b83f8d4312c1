/-
  The pairs of a range, by both.
  The pairs of a range, by the code.
-/
import Derived.Test.YtekkeajcmibbaaaLn
namespace Go.Proofs.Ytekkeajcmibbaaa
open Av Bk

def partR (b : List entT.El) (rs : List runT.El) (lo hi : ByteArray) (bd : Bool) : List pairT.El × Int :=
  if (vcL b rs).2 ≠ 0 then ([], (vcL b rs).2) else if rgE lo hi bd ≠ 0 then ([], rgE lo hi bd) else ((mapL (allE b rs)).filter (fun p => hasB lo hi bd p.1), 0)
def spPart : DSpec
  | [.agg [.lst (.st [.str, .str, .bool, .int .i64]) b, .lst (.st [.int .i64, .sl (.st [.str, .str, .bool, .int .i64])]) rs], .agg [.str lo, .str hi, .bool bd]] => some (True, .tup [.lst pairT (partR b rs lo hi bd).1, .int .i64 (partR b rs lo hi bd).2])
  | _ => none
def spCount : DSpec
  | [.agg [.lst (.st [.str, .str, .bool, .int .i64]) b, .lst (.st [.int .i64, .sl (.st [.str, .str, .bool, .int .i64])]) rs], .agg [.str lo, .str hi, .bool bd]] => some (True, .tup [.int .i64 ((partR b rs lo hi bd).1.length : Nat), .int .i64 (partR b rs lo hi bd).2])
  | _ => none
theorem part_eq {l : List pairT.El} {e : Int} {r : List pairT.El × Int} (h : r = (l, e)) : AV.tup [.lst pairT l, .int .i64 e] = AV.tup [.lst pairT r.1, .int .i64 r.2] := by rw [h]
theorem part_v {b : List entT.El} {rs : List runT.El} {lo hi : ByteArray} {bd : Bool} (h : (vcL b rs).2 ≠ 0) : partR b rs lo hi bd = ([], (vcL b rs).2) := by rw [partR, if_pos h]
theorem part_r {b : List entT.El} {rs : List runT.El} {lo hi : ByteArray} {bd : Bool} (h : (vcL b rs).2 = 0) (h2 : rgE lo hi bd ≠ 0) : partR b rs lo hi bd = ([], rgE lo hi bd) := by rw [partR, if_neg (by simp [h]), if_pos h2]
theorem part_g {b : List entT.El} {rs : List runT.El} {lo hi : ByteArray} {bd : Bool} (h : (vcL b rs).2 = 0) (h2 : rgE lo hi bd = 0) : partR b rs lo hi bd = ((mapL (allE b rs)).filter (fun p => hasB lo hi bd p.1), 0) := by rw [partR, if_neg (by simp [h]), if_neg (by simp [h2])]
theorem filter_snoc {α : Type} {q : α → Bool} {l : List α} {i : Nat} {x : α} (hx : l[i]? = some x) : (l.take (i + 1)).filter q = (l.take i).filter q ++ (if q x = true then [x] else []) := by
  rw [List.take_add_one, hx, List.filter_append]
  congr 1
  by_cases h : q x = true <;> simp [h]
theorem mapL_key {b : List entT.El} {rs : List runT.El} (h : GoodV b rs) {p : pairT.El} (hp : p ∈ mapL (allE b rs)) : keyE p.1 = 0 := by
  obtain ⟨x, hx, hk, _, _⟩ := getM_mem ((mapL_mem _ p).1 hp)
  have he := all_err h hx
  rw [← hk]
  simp only [errX, errE] at he
  unfold keyE
  by_cases h32 : 32 < (x.1.size : Int)
  · simp [h32] at he
  · simp [h32]
theorem keyE_sz {k : ByteArray} (h : keyE k = 0) : (k.size : Int) ≤ 9223372036854775807 := by
  unfold keyE at h
  by_cases h32 : 32 < (k.size : Int)
  · simp [h32] at h
  · omega
set_option maxRecDepth 100000 in
theorem fnOk_rfPart : FnOk Try.prog 18 Try.f18 := ⟨by rfl, by kernel_rfl, by
  show okCode _ _ = true ∧ drawsOk _ = true
  exact ⟨by kernel_rfl, by kernel_rfl⟩⟩
noncomputable def cxo1 : Cx := ⟨tb, [], [(31, spVC), (26, spRg), (27, spHas), (53, spMap)]⟩
theorem specso1 : SpecsOk Try.prog cxo1.specs := .cons ref25C_ok (.cons ref02Rg_ok (.cons ref02Has_ok (.cons rMap_ok .nil)))
theorem own_p {id g n m : Nat} {c : AV} (h : n = m) : [AV.own id g n, c] = [AV.own id g m, c] := by rw [h]
set_option maxRecDepth 100000 in
set_option maxHeartbeats 4000000 in
theorem rfPart_ok : SpecOk Try.prog 18 spPart := by
  refine spec_body (C := cxo1) mixed tbOk specso1 (callN_ok (C := cxo1) mixed tbOk specso1 FnsOk.nil 3) fnOk_rfPart ?_
  intro ys p r h hp
  unfold spPart at h
  split at h
  · rename_i b rs lo hi bd
    cases h
    by_cases hv : (vcL b rs).2 = 0
    · by_cases hr : rgE lo hi bd = 0
      · have hg := vcL_zero hv
        have hal := all_len hg
        have hml := mapL_len (allE b rs)
        have hk : ∀ p ∈ mapL (allE b rs), (p.1.size : Int) ≤ 9223372036854775807 := fun p hp => keyE_sz (mapL_key hg hp)
        rw [part_g hv hr]
        conv => whnf
        repeat' first
          | ((first | refine idx_kn (by assumption) ?_ | refine idx_ki (by assumption) (by omega) ?_ | refine br_true (by first | with_reducible exact rfl | assumption | decide) ?_ | refine br_false (by first | with_reducible exact rfl | assumption | decide) ?_ | with_reducible first | refine br_kt (by assumption) ?_ | refine br_kf (by assumption) ?_ | refine br_nt (by assumption) ?_ | refine br_nf (by assumption) ?_ | refine br_et (by assumption) ?_ | refine br_ef (by assumption) ?_); conv => whnf)
          | ((with_reducible first | refine br_dec (fun h => ?_) (fun h => ?_) | refine br_ndec (fun h => ?_) (fun h => ?_) | refine br_ne (fun h => ?_) (fun h => ?_) | refine br_eq (fun h => ?_) (fun h => ?_)) <;> first | (exfalso; omega) | conv => whnf)
          | (refine br_intro (fun h => ?_) (fun h => ?_) <;> conv => whnf)
          | ((first | refine need_in (by first | exact trivial | assumption | exact ⟨rfl, Nat.le_refl _⟩ | exact ⟨rfl, rfl⟩ | (simp only [inR]; omega) | omega | (simp only [roomP, true_and, and_true, List.length_take, List.length_drop, List.length_append, List.length_cons, List.length_nil, List.length_set, List.length_replicate]; omega) | (refine ⟨by first | exact trivial | rfl, by first | exact Nat.le_refl _ | omega | (simp; omega), ?_⟩; change roomP _ _ 1; simp only [roomP]; omega) | (change roomP _ _ 1; simp only [roomP]; omega) | (simp; omega) | (simp [inR]; omega) | (simp [inR]; done) | decide | (simp; done)) ?_ | refine idx_nat (by omega) (fun x hx => ?_) | refine frz_auto ?_ | refine draw_plain ?_ | refine idx_intro (by first | omega | (simp; omega) | (simp; done)) (by first | omega | (simp; omega) | (simp; done)) (fun x hx => ?_)); conv => whnf)
        generalize mapL (allE b rs) = m at hml hk ⊢
        refine loop_inv [] [9, 10] (fun vs h => ∃ i g : Nat, vs = [.own 3 g ((m.take i).filter (fun p => hasB lo hi bd p.1)).length, .int .i64 (i : Int)] ∧ h = [.cells 25 [.lst entT b, .lst runT rs], .cells 37 [.str lo, .str hi, .bool bd], .arr 73 pairT [] false 0, .arr 73 pairT ((m.take i).filter (fun p => hasB lo hi bd p.1)) false g] ∧ i ≤ m.length) (fun vs _ => match vs with | [_, .int _ k] => m.length - k.toNat | _ => 0) ?_
        conv => whnf
        refine ⟨⟨0, 0, rfl, rfl, by omega⟩, ?_⟩
        rintro vs h' - ⟨i, g, rfl, rfl, hil0⟩
        have hfl : ((m.take i).filter (fun p => hasB lo hi bd p.1)).length ≤ 1000000000 := by
          have := List.length_filter_le (fun p : pairT.El => hasB lo hi bd p.1) (m.take i)
          rw [List.length_take] at this
          omega
        by_cases hil : i < m.length
        · obtain ⟨x, hx⟩ : ∃ x, m[i]? = some x := ⟨_, List.getElem?_eq_getElem hil⟩
          have hfs := filter_snoc (q := fun p : pairT.El => hasB lo hi bd p.1) hx
          have hkx := hk x (List.mem_of_getElem? hx)
          conv => whnf
          repeat' first
            | ((first | refine idx_kn (by assumption) ?_ | refine idx_ki (by assumption) (by omega) ?_ | refine br_true (by first | with_reducible exact rfl | assumption | decide) ?_ | refine br_false (by first | with_reducible exact rfl | assumption | decide) ?_ | with_reducible first | refine br_kt (by assumption) ?_ | refine br_kf (by assumption) ?_ | refine br_nt (by assumption) ?_ | refine br_nf (by assumption) ?_ | refine br_et (by assumption) ?_ | refine br_ef (by assumption) ?_); conv => whnf)
            | ((with_reducible first | refine br_dec (fun h => ?_) (fun h => ?_) | refine br_ndec (fun h => ?_) (fun h => ?_) | refine br_ne (fun h => ?_) (fun h => ?_) | refine br_eq (fun h => ?_) (fun h => ?_)) <;> first | (exfalso; omega) | conv => whnf)
            | (refine br_intro (fun h => ?_) (fun h => ?_) <;> conv => whnf)
            | ((first | refine need_in (by first | exact trivial | assumption | exact ⟨rfl, Nat.le_refl _⟩ | exact ⟨rfl, rfl⟩ | (simp only [inR]; omega) | omega | (simp only [roomP, true_and, and_true, List.length_take, List.length_drop, List.length_append, List.length_cons, List.length_nil, List.length_set, List.length_replicate]; omega) | (refine ⟨by first | exact trivial | rfl, by first | exact Nat.le_refl _ | omega | (simp; omega), ?_⟩; change roomP _ _ 1; simp only [roomP]; omega) | (change roomP _ _ 1; simp only [roomP]; omega) | (simp; omega) | (simp [inR]; omega) | (simp [inR]; done) | decide | (simp; done)) ?_ | refine idx_nat (by omega) (fun x hx => ?_) | refine frz_auto ?_ | refine draw_plain ?_ | refine idx_intro (by first | omega | (simp; omega) | (simp; done)) (by first | omega | (simp; omega) | (simp; done)) (fun x hx => ?_)); conv => whnf)
          · rw [if_pos h] at hfs
            refine back_intro (by conv => whnf) rfl ⟨i + 1, g + 1, own_p ?_, heap_m ?_, by omega⟩ ?_
            · rw [hfs, List.length_append]; rfl
            · rw [hfs]; simp only [cast_self, List.take_length]; rfl
            · show m.length - ((i : Int) + 1).toNat < m.length - (i : Int).toNat
              omega
          · rw [if_neg (by simp [h]), List.append_nil] at hfs
            refine back_intro (by conv => whnf) rfl ⟨i + 1, g, own_p ?_, heap_m ?_, by omega⟩ ?_
            · rw [hfs]
            · rw [hfs]
            · show m.length - ((i : Int) + 1).toNat < m.length - (i : Int).toNat
              omega
        · conv => whnf
          repeat' first
            | ((first | refine idx_kn (by assumption) ?_ | refine idx_ki (by assumption) (by omega) ?_ | refine br_true (by first | with_reducible exact rfl | assumption | decide) ?_ | refine br_false (by first | with_reducible exact rfl | assumption | decide) ?_ | with_reducible first | refine br_kt (by assumption) ?_ | refine br_kf (by assumption) ?_ | refine br_nt (by assumption) ?_ | refine br_nf (by assumption) ?_ | refine br_et (by assumption) ?_ | refine br_ef (by assumption) ?_); conv => whnf)
            | ((with_reducible first | refine br_dec (fun h => ?_) (fun h => ?_) | refine br_ndec (fun h => ?_) (fun h => ?_) | refine br_ne (fun h => ?_) (fun h => ?_) | refine br_eq (fun h => ?_) (fun h => ?_)) <;> first | (exfalso; omega) | conv => whnf)
            | (refine br_intro (fun h => ?_) (fun h => ?_) <;> conv => whnf)
            | ((first | refine need_in (by first | exact trivial | assumption | exact ⟨rfl, Nat.le_refl _⟩ | exact ⟨rfl, rfl⟩ | (simp only [inR]; omega) | omega | (simp only [roomP, true_and, and_true, List.length_take, List.length_drop, List.length_append, List.length_cons, List.length_nil, List.length_set, List.length_replicate]; omega) | (refine ⟨by first | exact trivial | rfl, by first | exact Nat.le_refl _ | omega | (simp; omega), ?_⟩; change roomP _ _ 1; simp only [roomP]; omega) | (change roomP _ _ 1; simp only [roomP]; omega) | (simp; omega) | (simp [inR]; omega) | (simp [inR]; done) | decide | (simp; done)) ?_ | refine idx_nat (by omega) (fun x hx => ?_) | refine frz_auto ?_ | refine draw_plain ?_ | refine idx_intro (by first | omega | (simp; omega) | (simp; done)) (by first | omega | (simp; omega) | (simp; done)) (fun x hx => ?_)); conv => whnf)
          rw [List.take_of_length_le (l := m) (i := i) (by omega), List.take_length]
      · conv => whnf
        repeat' first
          | ((first | refine idx_kn (by assumption) ?_ | refine idx_ki (by assumption) (by omega) ?_ | refine br_true (by first | with_reducible exact rfl | assumption | decide) ?_ | refine br_false (by first | with_reducible exact rfl | assumption | decide) ?_ | with_reducible first | refine br_kt (by assumption) ?_ | refine br_kf (by assumption) ?_ | refine br_nt (by assumption) ?_ | refine br_nf (by assumption) ?_ | refine br_et (by assumption) ?_ | refine br_ef (by assumption) ?_); conv => whnf)
          | ((with_reducible first | refine br_dec (fun h => ?_) (fun h => ?_) | refine br_ndec (fun h => ?_) (fun h => ?_) | refine br_ne (fun h => ?_) (fun h => ?_) | refine br_eq (fun h => ?_) (fun h => ?_)) <;> first | (exfalso; omega) | conv => whnf)
          | (refine br_intro (fun h => ?_) (fun h => ?_) <;> conv => whnf)
          | ((first | refine need_in (by first | exact trivial | assumption | exact ⟨rfl, Nat.le_refl _⟩ | exact ⟨rfl, rfl⟩ | (simp only [inR]; omega) | omega | (simp only [roomP, true_and, and_true, List.length_take, List.length_drop, List.length_append, List.length_cons, List.length_nil, List.length_set, List.length_replicate]; omega) | (refine ⟨by first | exact trivial | rfl, by first | exact Nat.le_refl _ | omega | (simp; omega), ?_⟩; change roomP _ _ 1; simp only [roomP]; omega) | (change roomP _ _ 1; simp only [roomP]; omega) | (simp; omega) | (simp [inR]; omega) | (simp [inR]; done) | decide | (simp; done)) ?_ | refine idx_nat (by omega) (fun x hx => ?_) | refine frz_auto ?_ | refine draw_plain ?_ | refine idx_intro (by first | omega | (simp; omega) | (simp; done)) (by first | omega | (simp; omega) | (simp; done)) (fun x hx => ?_)); conv => whnf)
        rw [part_r hv hr]
        rfl
    · conv => whnf
      repeat' first
        | ((first | refine idx_kn (by assumption) ?_ | refine idx_ki (by assumption) (by omega) ?_ | refine br_true (by first | with_reducible exact rfl | assumption | decide) ?_ | refine br_false (by first | with_reducible exact rfl | assumption | decide) ?_ | with_reducible first | refine br_kt (by assumption) ?_ | refine br_kf (by assumption) ?_ | refine br_nt (by assumption) ?_ | refine br_nf (by assumption) ?_ | refine br_et (by assumption) ?_ | refine br_ef (by assumption) ?_); conv => whnf)
        | ((with_reducible first | refine br_dec (fun h => ?_) (fun h => ?_) | refine br_ndec (fun h => ?_) (fun h => ?_) | refine br_ne (fun h => ?_) (fun h => ?_) | refine br_eq (fun h => ?_) (fun h => ?_)) <;> first | (exfalso; omega) | conv => whnf)
        | (refine br_intro (fun h => ?_) (fun h => ?_) <;> conv => whnf)
        | ((first | refine need_in (by first | exact trivial | assumption | exact ⟨rfl, Nat.le_refl _⟩ | exact ⟨rfl, rfl⟩ | (simp only [inR]; omega) | omega | (simp only [roomP, true_and, and_true, List.length_take, List.length_drop, List.length_append, List.length_cons, List.length_nil, List.length_set, List.length_replicate]; omega) | (refine ⟨by first | exact trivial | rfl, by first | exact Nat.le_refl _ | omega | (simp; omega), ?_⟩; change roomP _ _ 1; simp only [roomP]; omega) | (change roomP _ _ 1; simp only [roomP]; omega) | (simp; omega) | (simp [inR]; omega) | (simp [inR]; done) | decide | (simp; done)) ?_ | refine idx_nat (by omega) (fun x hx => ?_) | refine frz_auto ?_ | refine draw_plain ?_ | refine idx_intro (by first | omega | (simp; omega) | (simp; done)) (by first | omega | (simp; omega) | (simp; done)) (fun x hx => ?_)); conv => whnf)
      rw [part_v hv]
      rfl
  · cases h
end Go.Proofs.Ytekkeajcmibbaaa
namespace Go.Proofs.Ytekkeajcmibbaaa
open Av Bk

set_option maxRecDepth 100000 in
theorem fnOk_lkPart : FnOk Try.prog 17 Try.f17 := ⟨by rfl, by kernel_rfl, by
  show okCode _ _ = true ∧ drawsOk _ = true
  exact ⟨by kernel_rfl, by kernel_rfl⟩⟩
set_option maxRecDepth 100000 in
theorem fnOk_lkPart1 : FnOk Try.prog 51 Try.f51 := ⟨by rfl, by kernel_rfl, by
  show okCode _ _ = true ∧ drawsOk _ = true
  exact ⟨by kernel_rfl, by kernel_rfl⟩⟩
set_option maxRecDepth 100000 in
theorem fnOk_delPair : FnOk Try.prog 49 Try.f49 := ⟨by rfl, by kernel_rfl, by
  show okCode _ _ = true ∧ drawsOk _ = true
  exact ⟨by kernel_rfl, by kernel_rfl⟩⟩
noncomputable def cxp1 : Cx := ⟨tb, [(51, Try.f51), (49, Try.f49), (79, Try.f79)], [(47, spVC), (48, spRg), (52, spIn), (50, spPairs)]⟩
theorem specsp1 : SpecsOk Try.prog cxp1.specs := .cons verC_ok (.cons keysRg_ok (.cons keysIn_ok (.consF lkPairs_ok .nil)))
theorem fnsp1 : FnsOk Try.prog cxp1.fns := .cons fnOk_lkPart1 (.cons fnOk_delPair (.cons fnOk_idxPair .nil))
theorem in_has {lo hi k : ByteArray} {bd : Bool} (h : rgE lo hi bd = 0) (hk : keyE k = 0) : (decide (inE lo hi bd k = 0) && hasB lo hi bd k) = hasB lo hi bd k := by
  have : inE lo hi bd k = 0 := by unfold inE; rw [if_neg (by simp [h]), hk]
  simp [this]
/-- An array of which elements are left out, in place: at the beginning what stays of the first ones. -/
structure DelOk (q : pairT.El → Bool) (m cur : List pairT.El) (i j : Nat) : Prop where
  len : cur.length = m.length
  le : i ≤ j
  hd : cur.take i = (m.take j).filter q
  tl : cur.drop j = m.drop j
theorem del_get {q : pairT.El → Bool} {m cur : List pairT.El} {i j : Nat} (h : DelOk q m cur i j) : cur[j]? = m[j]? := by
  have h1 : (cur.drop j)[0]? = (m.drop j)[0]? := by rw [h.tl]
  rw [List.getElem?_drop, List.getElem?_drop] at h1
  simpa using h1
theorem del_keep {q : pairT.El → Bool} {m cur : List pairT.El} {i j : Nat} {x : pairT.El} (h : DelOk q m cur i j) (hj : j < m.length) (hx : cur[j]? = some x) (hq : q x = true) : DelOk q m (cur.set i x) (i + 1) (j + 1) where
  len := by rw [List.length_set]; exact h.len
  le := by have := h.le; omega
  hd := by
    have hi : i < (cur.set i x).length := by rw [List.length_set, h.len]; have := h.le; omega
    rw [List.take_succ_eq_append_getElem hi, List.getElem_set_self, List.take_set_of_le (Nat.le_refl _), h.hd, filter_snoc ((del_get h).symm.trans hx), if_pos hq]
  tl := by
    rw [List.drop_set_of_lt (by have := h.le; omega), ← List.drop_drop, ← List.drop_drop, h.tl]
theorem del_drop {q : pairT.El → Bool} {m cur : List pairT.El} {i j : Nat} {x : pairT.El} (h : DelOk q m cur i j) (hx : cur[j]? = some x) (hq : q x = false) : DelOk q m cur i (j + 1) where
  len := h.len
  le := by have := h.le; omega
  hd := by rw [h.hd, filter_snoc ((del_get h).symm.trans hx), if_neg (by simp [hq]), List.append_nil]
  tl := by rw [← List.drop_drop, ← List.drop_drop, h.tl]
theorem del_start {q : pairT.El → Bool} {m : List pairT.El} {i : Nat} {x : pairT.El} (hall : ∀ p ∈ m.take i, q p = true) (hx : m[i]? = some x) (hq : q x = false) : DelOk q m m i (i + 1) where
  len := rfl
  le := Nat.le_succ _
  hd := by rw [filter_snoc hx, if_neg (by simp [hq]), List.append_nil, List.filter_eq_self.2 hall]
  tl := rfl
theorem take_app {l : List pairT.El} (r : List pairT.El) {i : Nat} (h : i ≤ l.length) : List.take i (List.take i l ++ r) = l.take i := by
  rw [List.take_append_of_le_length (by rw [List.length_take]; omega), List.take_take, Nat.min_self]
set_option maxRecDepth 100000 in
set_option maxHeartbeats 4000000 in
theorem lkPart_ok : SpecOk Try.prog 17 spPart := by
  refine spec_body (C := cxp1) mixed tbOk specsp1 (callN_ok (C := cxp1) mixed tbOk specsp1 fnsp1 5) fnOk_lkPart ?_
  intro ys p r h hp
  unfold spPart at h
  split at h
  · rename_i b rs lo hi bd
    cases h
    by_cases hv : (vcL b rs).2 = 0
    · by_cases hr : rgE lo hi bd = 0
      · have hg := vcL_zero hv
        have hal := all_len hg
        have hml := mapL_len (allE b rs)
        have hk : ∀ p ∈ mapL (allE b rs), (decide (inE lo hi bd p.1 = 0) && hasB lo hi bd p.1) = hasB lo hi bd p.1 := fun p hp => in_has hr (mapL_key hg hp)
        rw [part_g hv hr]
        conv => whnf
        repeat' first
          | ((first | refine idx_kn (by assumption) ?_ | refine idx_ki (by assumption) (by omega) ?_ | refine br_true (by first | with_reducible exact rfl | assumption | decide) ?_ | refine br_false (by first | with_reducible exact rfl | assumption | decide) ?_ | with_reducible first | refine br_kt (by assumption) ?_ | refine br_kf (by assumption) ?_ | refine br_nt (by assumption) ?_ | refine br_nf (by assumption) ?_ | refine br_et (by assumption) ?_ | refine br_ef (by assumption) ?_); conv => whnf)
          | ((with_reducible first | refine br_dec (fun h => ?_) (fun h => ?_) | refine br_ndec (fun h => ?_) (fun h => ?_) | refine br_ne (fun h => ?_) (fun h => ?_) | refine br_eq (fun h => ?_) (fun h => ?_)) <;> first | (exfalso; omega) | conv => whnf)
          | (refine br_intro (fun h => ?_) (fun h => ?_) <;> conv => whnf)
          | ((first | refine need_in (by first | exact trivial | assumption | exact ⟨rfl, Nat.le_refl _⟩ | exact ⟨rfl, rfl⟩ | (simp only [inR]; omega) | omega | (simp only [roomP, true_and, and_true, List.length_take, List.length_drop, List.length_append, List.length_cons, List.length_nil, List.length_set, List.length_replicate]; omega) | (refine ⟨by first | exact trivial | rfl, by first | exact Nat.le_refl _ | omega | (simp; omega), ?_⟩; change roomP _ _ 1; simp only [roomP]; omega) | (change roomP _ _ 1; simp only [roomP]; omega) | (simp; omega) | (simp [inR]; omega) | (simp [inR]; done) | decide | (simp; done)) ?_ | refine idx_nat (by omega) (fun x hx => ?_) | refine frz_auto ?_ | refine draw_plain ?_ | refine idx_intro (by first | omega | (simp; omega) | (simp; done)) (by first | omega | (simp; omega) | (simp; done)) (fun x hx => ?_)); conv => whnf)
        generalize mapL (allE b rs) = m at hml hk ⊢
        have hlm : (FRes.l ⟨73, pairT, m⟩).length = m.length := rfl
        refine loop_inv [] [8] (fun vs h => ∃ i : Nat, vs = [.int .i64 (i : Int)] ∧ h = [.cells 25 [.lst entT b, .lst runT rs], .cells 37 [.str lo, .str hi, .bool bd], .arr 73 pairT [] false 0, .arr 73 pairT m false 0, .arr 73 pairT [] false 0] ∧ i ≤ m.length ∧ ∀ p ∈ m.take i, hasB lo hi bd p.1 = true) (fun vs _ => match vs with | [.int _ k] => m.length - k.toNat | _ => 0) ?_
        conv => whnf
        refine ⟨⟨0, rfl, rfl, by omega, by simp⟩, ?_⟩
        rintro vs h' - ⟨i, rfl, rfl, hi0, hall⟩
        by_cases hil : i < m.length
        · obtain ⟨x, hx⟩ : ∃ x, m[i]? = some x := ⟨_, List.getElem?_eq_getElem hil⟩
          have hkx := hk x (List.mem_of_getElem? hx)
          conv => whnf
          repeat' first
            | ((first | refine idx_kn (by assumption) ?_ | refine idx_ki (by assumption) (by omega) ?_ | refine br_true (by first | with_reducible exact rfl | assumption | decide) ?_ | refine br_false (by first | with_reducible exact rfl | assumption | decide) ?_ | with_reducible first | refine br_kt (by assumption) ?_ | refine br_kf (by assumption) ?_ | refine br_nt (by assumption) ?_ | refine br_nf (by assumption) ?_ | refine br_et (by assumption) ?_ | refine br_ef (by assumption) ?_); conv => whnf)
            | ((with_reducible first | refine br_dec (fun h => ?_) (fun h => ?_) | refine br_ndec (fun h => ?_) (fun h => ?_) | refine br_ne (fun h => ?_) (fun h => ?_) | refine br_eq (fun h => ?_) (fun h => ?_)) <;> first | (exfalso; omega) | conv => whnf)
            | (refine br_intro (fun h => ?_) (fun h => ?_) <;> conv => whnf)
            | ((first | refine need_in (by first | exact trivial | assumption | exact ⟨rfl, Nat.le_refl _⟩ | exact ⟨rfl, rfl⟩ | (simp only [inR]; omega) | omega | (simp only [roomP, true_and, and_true, List.length_take, List.length_drop, List.length_append, List.length_cons, List.length_nil, List.length_set, List.length_replicate]; omega) | (refine ⟨by first | exact trivial | rfl, by first | exact Nat.le_refl _ | omega | (simp; omega), ?_⟩; change roomP _ _ 1; simp only [roomP]; omega) | (change roomP _ _ 1; simp only [roomP]; omega) | (simp; omega) | (simp [inR]; omega) | (simp [inR]; done) | decide | (simp; done)) ?_ | refine idx_nat (by omega) (fun x hx => ?_) | refine frz_auto ?_ | refine draw_plain ?_ | refine idx_intro (by first | omega | (simp; omega) | (simp; done)) (by first | omega | (simp; omega) | (simp; done)) (fun x hx => ?_)); conv => whnf)
          · rename_i h0
            rw [hkx] at h0
            have hq : hasB lo hi bd x.1 = false := by simpa using h0
            refine loop_inv [] [5, 6] (fun vs h => ∃ (i j : Nat) (cur : List pairT.El), vs = [.int .i64 (i : Int), .int .i64 (j : Int)] ∧ h = [.cells 25 [.lst entT b, .lst runT rs], .cells 37 [.str lo, .str hi, .bool bd], .arr 73 pairT [] false 0, .arr 73 pairT cur false 0, .arr 73 pairT [] false 0, .cells 73 [.str x.1, .str x.2.1]] ∧ j ≤ m.length ∧ DelOk (fun p => hasB lo hi bd p.1) m cur i j) (fun vs _ => match vs with | [_, .int _ k] => m.length - k.toNat | _ => 0) ?_
            conv => whnf
            refine ⟨⟨i, i + 1, m, rfl, rfl, by omega, del_start hall hx hq⟩, ?_⟩
            clear hi0 hall hx hkx
            rintro vs h' - ⟨i, j, cur, rfl, rfl, hj, hd⟩
            have hij := hd.le
            have hcl := hd.len
            by_cases hjl : j < m.length
            · obtain ⟨y, hy⟩ : ∃ y, cur[j]? = some y := ⟨_, List.getElem?_eq_getElem (by omega)⟩
              have hky := hk y (List.mem_of_getElem? ((del_get hd).symm.trans hy))
              conv => whnf
              repeat' first
                | ((first | refine idx_kn (by assumption) ?_ | refine idx_ki (by assumption) (by omega) ?_ | refine br_true (by first | with_reducible exact rfl | assumption | decide) ?_ | refine br_false (by first | with_reducible exact rfl | assumption | decide) ?_ | with_reducible first | refine br_kt (by assumption) ?_ | refine br_kf (by assumption) ?_ | refine br_nt (by assumption) ?_ | refine br_nf (by assumption) ?_ | refine br_et (by assumption) ?_ | refine br_ef (by assumption) ?_); conv => whnf)
                | ((with_reducible first | refine br_dec (fun h => ?_) (fun h => ?_) | refine br_ndec (fun h => ?_) (fun h => ?_) | refine br_ne (fun h => ?_) (fun h => ?_) | refine br_eq (fun h => ?_) (fun h => ?_)) <;> first | (exfalso; omega) | conv => whnf)
                | (refine br_intro (fun h => ?_) (fun h => ?_) <;> conv => whnf)
                | ((first | refine need_in (by first | exact trivial | assumption | exact ⟨rfl, Nat.le_refl _⟩ | exact ⟨rfl, rfl⟩ | (simp only [inR]; omega) | omega | (simp only [roomP, true_and, and_true, List.length_take, List.length_drop, List.length_append, List.length_cons, List.length_nil, List.length_set, List.length_replicate]; omega) | (refine ⟨by first | exact trivial | rfl, by first | exact Nat.le_refl _ | omega | (simp; omega), ?_⟩; change roomP _ _ 1; simp only [roomP]; omega) | (change roomP _ _ 1; simp only [roomP]; omega) | (simp; omega) | (simp [inR]; omega) | (simp [inR]; done) | decide | (simp; done)) ?_ | refine idx_nat (by omega) (fun x hx => ?_) | refine frz_auto ?_ | refine draw_plain ?_ | refine idx_intro (by first | omega | (simp; omega) | (simp; done)) (by first | omega | (simp; omega) | (simp; done)) (fun x hx => ?_)); conv => whnf)
              · rw [hky] at h
                have hq : hasB lo hi bd y.1 = true := by simpa using h
                refine back_intro (by conv => whnf) rfl ⟨i + 1, j + 1, cur.set i y, rfl, rfl, by omega, del_keep hd hjl hy hq⟩ ?_
                show m.length - ((j : Int) + 1).toNat < m.length - (j : Int).toNat
                omega
              · rw [hky] at h
                have hq : hasB lo hi bd y.1 = false := by simpa using h
                refine back_intro (by conv => whnf) rfl ⟨i, j + 1, cur, rfl, rfl, by omega, del_drop hd hy hq⟩ ?_
                show m.length - ((j : Int) + 1).toNat < m.length - (j : Int).toNat
                omega
            · conv => whnf
              repeat' first
                | ((first | refine idx_kn (by assumption) ?_ | refine idx_ki (by assumption) (by omega) ?_ | refine br_true (by first | with_reducible exact rfl | assumption | decide) ?_ | refine br_false (by first | with_reducible exact rfl | assumption | decide) ?_ | with_reducible first | refine br_kt (by assumption) ?_ | refine br_kf (by assumption) ?_ | refine br_nt (by assumption) ?_ | refine br_nf (by assumption) ?_ | refine br_et (by assumption) ?_ | refine br_ef (by assumption) ?_); conv => whnf)
                | ((with_reducible first | refine br_dec (fun h => ?_) (fun h => ?_) | refine br_ndec (fun h => ?_) (fun h => ?_) | refine br_ne (fun h => ?_) (fun h => ?_) | refine br_eq (fun h => ?_) (fun h => ?_)) <;> first | (exfalso; omega) | conv => whnf)
                | (refine br_intro (fun h => ?_) (fun h => ?_) <;> conv => whnf)
                | ((first | refine need_in (by first | exact trivial | assumption | exact ⟨rfl, Nat.le_refl _⟩ | exact ⟨rfl, rfl⟩ | (simp only [inR]; omega) | omega | (simp only [roomP, true_and, and_true, List.length_take, List.length_drop, List.length_append, List.length_cons, List.length_nil, List.length_set, List.length_replicate]; omega) | (refine ⟨by first | exact trivial | rfl, by first | exact Nat.le_refl _ | omega | (simp; omega), ?_⟩; change roomP _ _ 1; simp only [roomP]; omega) | (change roomP _ _ 1; simp only [roomP]; omega) | (simp; omega) | (simp [inR]; omega) | (simp [inR]; done) | decide | (simp; done)) ?_ | refine idx_nat (by omega) (fun x hx => ?_) | refine frz_auto ?_ | refine draw_plain ?_ | refine idx_intro (by first | omega | (simp; omega) | (simp; done)) (by first | omega | (simp; omega) | (simp; done)) (fun x hx => ?_)); conv => whnf)
              refine part_eq ?_
              have hh := hd.hd
              rw [List.take_of_length_le (l := m) (i := j) (by omega)] at hh
              rw [← hh]
              refine congrArg (fun l => (l, (0 : Int))) ?_
              exact (take_app _ (by omega)).symm
          · rw [hkx] at h
            have hq : hasB lo hi bd x.1 = true := by simpa using h
            refine back_intro (by conv => whnf) rfl ⟨i + 1, rfl, rfl, by omega, take_succ_all hall hx hq⟩ ?_
            show m.length - ((i : Int) + 1).toNat < m.length - (i : Int).toNat
            omega
        · conv => whnf
          repeat' first
            | ((first | refine idx_kn (by assumption) ?_ | refine idx_ki (by assumption) (by omega) ?_ | refine br_true (by first | with_reducible exact rfl | assumption | decide) ?_ | refine br_false (by first | with_reducible exact rfl | assumption | decide) ?_ | with_reducible first | refine br_kt (by assumption) ?_ | refine br_kf (by assumption) ?_ | refine br_nt (by assumption) ?_ | refine br_nf (by assumption) ?_ | refine br_et (by assumption) ?_ | refine br_ef (by assumption) ?_); conv => whnf)
            | ((with_reducible first | refine br_dec (fun h => ?_) (fun h => ?_) | refine br_ndec (fun h => ?_) (fun h => ?_) | refine br_ne (fun h => ?_) (fun h => ?_) | refine br_eq (fun h => ?_) (fun h => ?_)) <;> first | (exfalso; omega) | conv => whnf)
            | (refine br_intro (fun h => ?_) (fun h => ?_) <;> conv => whnf)
            | ((first | refine need_in (by first | exact trivial | assumption | exact ⟨rfl, Nat.le_refl _⟩ | exact ⟨rfl, rfl⟩ | (simp only [inR]; omega) | omega | (simp only [roomP, true_and, and_true, List.length_take, List.length_drop, List.length_append, List.length_cons, List.length_nil, List.length_set, List.length_replicate]; omega) | (refine ⟨by first | exact trivial | rfl, by first | exact Nat.le_refl _ | omega | (simp; omega), ?_⟩; change roomP _ _ 1; simp only [roomP]; omega) | (change roomP _ _ 1; simp only [roomP]; omega) | (simp; omega) | (simp [inR]; omega) | (simp [inR]; done) | decide | (simp; done)) ?_ | refine idx_nat (by omega) (fun x hx => ?_) | refine frz_auto ?_ | refine draw_plain ?_ | refine idx_intro (by first | omega | (simp; omega) | (simp; done)) (by first | omega | (simp; omega) | (simp; done)) (fun x hx => ?_)); conv => whnf)
          rw [List.take_of_length_le (by omega)] at hall
          rw [List.take_of_length_le (by omega), List.filter_eq_self.2 hall]
      · conv => whnf
        repeat' first
          | ((first | refine idx_kn (by assumption) ?_ | refine idx_ki (by assumption) (by omega) ?_ | refine br_true (by first | with_reducible exact rfl | assumption | decide) ?_ | refine br_false (by first | with_reducible exact rfl | assumption | decide) ?_ | with_reducible first | refine br_kt (by assumption) ?_ | refine br_kf (by assumption) ?_ | refine br_nt (by assumption) ?_ | refine br_nf (by assumption) ?_ | refine br_et (by assumption) ?_ | refine br_ef (by assumption) ?_); conv => whnf)
          | ((with_reducible first | refine br_dec (fun h => ?_) (fun h => ?_) | refine br_ndec (fun h => ?_) (fun h => ?_) | refine br_ne (fun h => ?_) (fun h => ?_) | refine br_eq (fun h => ?_) (fun h => ?_)) <;> first | (exfalso; omega) | conv => whnf)
          | (refine br_intro (fun h => ?_) (fun h => ?_) <;> conv => whnf)
          | ((first | refine need_in (by first | exact trivial | assumption | exact ⟨rfl, Nat.le_refl _⟩ | exact ⟨rfl, rfl⟩ | (simp only [inR]; omega) | omega | (simp only [roomP, true_and, and_true, List.length_take, List.length_drop, List.length_append, List.length_cons, List.length_nil, List.length_set, List.length_replicate]; omega) | (refine ⟨by first | exact trivial | rfl, by first | exact Nat.le_refl _ | omega | (simp; omega), ?_⟩; change roomP _ _ 1; simp only [roomP]; omega) | (change roomP _ _ 1; simp only [roomP]; omega) | (simp; omega) | (simp [inR]; omega) | (simp [inR]; done) | decide | (simp; done)) ?_ | refine idx_nat (by omega) (fun x hx => ?_) | refine frz_auto ?_ | refine draw_plain ?_ | refine idx_intro (by first | omega | (simp; omega) | (simp; done)) (by first | omega | (simp; omega) | (simp; done)) (fun x hx => ?_)); conv => whnf)
        rw [part_r hv hr]
        rfl
    · conv => whnf
      repeat' first
        | ((first | refine idx_kn (by assumption) ?_ | refine idx_ki (by assumption) (by omega) ?_ | refine br_true (by first | with_reducible exact rfl | assumption | decide) ?_ | refine br_false (by first | with_reducible exact rfl | assumption | decide) ?_ | with_reducible first | refine br_kt (by assumption) ?_ | refine br_kf (by assumption) ?_ | refine br_nt (by assumption) ?_ | refine br_nf (by assumption) ?_ | refine br_et (by assumption) ?_ | refine br_ef (by assumption) ?_); conv => whnf)
        | ((with_reducible first | refine br_dec (fun h => ?_) (fun h => ?_) | refine br_ndec (fun h => ?_) (fun h => ?_) | refine br_ne (fun h => ?_) (fun h => ?_) | refine br_eq (fun h => ?_) (fun h => ?_)) <;> first | (exfalso; omega) | conv => whnf)
        | (refine br_intro (fun h => ?_) (fun h => ?_) <;> conv => whnf)
        | ((first | refine need_in (by first | exact trivial | assumption | exact ⟨rfl, Nat.le_refl _⟩ | exact ⟨rfl, rfl⟩ | (simp only [inR]; omega) | omega | (simp only [roomP, true_and, and_true, List.length_take, List.length_drop, List.length_append, List.length_cons, List.length_nil, List.length_set, List.length_replicate]; omega) | (refine ⟨by first | exact trivial | rfl, by first | exact Nat.le_refl _ | omega | (simp; omega), ?_⟩; change roomP _ _ 1; simp only [roomP]; omega) | (change roomP _ _ 1; simp only [roomP]; omega) | (simp; omega) | (simp [inR]; omega) | (simp [inR]; done) | decide | (simp; done)) ?_ | refine idx_nat (by omega) (fun x hx => ?_) | refine frz_auto ?_ | refine draw_plain ?_ | refine idx_intro (by first | omega | (simp; omega) | (simp; done)) (by first | omega | (simp; omega) | (simp; done)) (fun x hx => ?_)); conv => whnf)
      rw [part_v hv]
      rfl
  · cases h
set_option maxRecDepth 100000 in
theorem fnOk_rfCount : FnOk Try.prog 20 Try.f20 := ⟨by rfl, by kernel_rfl, by
  show okCode _ _ = true ∧ drawsOk _ = true
  exact ⟨by kernel_rfl, by kernel_rfl⟩⟩
noncomputable def cxp3 : Cx := ⟨tb, [], [(18, spPart)]⟩
theorem specsp3 : SpecsOk Try.prog cxp3.specs := .cons rfPart_ok .nil
set_option maxRecDepth 100000 in
theorem rfCount_ok : SpecOk Try.prog 20 spCount := by
  refine spec_body (C := cxp3) mixed tbOk specsp3 (callN_ok (C := cxp3) mixed tbOk specsp3 FnsOk.nil 3) fnOk_rfCount ?_
  intro ys p r h hp
  unfold spCount at h
  split at h
  · rename_i b rs lo hi bd
    cases h
    conv => whnf
    repeat' first
      | ((first | refine br_true (by first | with_reducible exact rfl | assumption | decide) ?_ | refine br_false (by first | with_reducible exact rfl | assumption | decide) ?_ | with_reducible first | refine br_kt (by assumption) ?_ | refine br_kf (by assumption) ?_ | refine br_nt (by assumption) ?_ | refine br_nf (by assumption) ?_ | refine br_et (by assumption) ?_ | refine br_ef (by assumption) ?_); conv => whnf)
      | ((with_reducible first | refine br_dec (fun h => ?_) (fun h => ?_) | refine br_ndec (fun h => ?_) (fun h => ?_) | refine br_ne (fun h => ?_) (fun h => ?_) | refine br_eq (fun h => ?_) (fun h => ?_)) <;> first | (exfalso; omega) | conv => whnf)
      | (refine br_intro (fun h => ?_) (fun h => ?_) <;> conv => whnf)
      | ((first | refine need_in (by first | exact trivial | assumption | exact ⟨rfl, Nat.le_refl _⟩ | exact ⟨rfl, rfl⟩ | (simp only [inR]; omega) | omega | (simp only [roomP, true_and, and_true, List.length_take, List.length_drop, List.length_append, List.length_cons, List.length_nil, List.length_set, List.length_replicate]; omega) | (refine ⟨by first | exact trivial | rfl, by first | exact Nat.le_refl _ | omega | (simp; omega), ?_⟩; change roomP _ _ 1; simp only [roomP]; omega) | (change roomP _ _ 1; simp only [roomP]; omega) | (simp; omega) | (simp [inR]; omega) | (simp [inR]; done) | decide | (simp; done)) ?_ | refine idx_nat (by omega) (fun x hx => ?_) | refine frz_auto ?_ | refine draw_plain ?_ | refine idx_intro (by first | omega | (simp; omega) | (simp; done)) (by first | omega | (simp; omega) | (simp; done)) (fun x hx => ?_)); conv => whnf)
  · cases h
end Go.Proofs.Ytekkeajcmibbaaa
