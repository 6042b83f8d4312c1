/-
  The pairs of a range, by both.
-/
import Derived.Test.YtekkeajcmibbaaaLn
namespace Go.Proofs.Ytekkeajcmibbaaa
open Av Bk

def partR (b : List entT.El) (rs : List runT.El) (lo hi : ByteArray) (bd : Bool) : List pairT.El × Int :=
  if (vcL b rs).2 ≠ 0 then ([], (vcL b rs).2) else if rgE lo hi bd ≠ 0 then ([], rgE lo hi bd) else ((mapL (allE b rs)).filter (fun p => hasB lo hi bd p.1), 0)
def spPart : DSpec
  | [.agg [.lst (.st [.str, .str, .bool, .int .i64]) b, .lst (.st [.int .i64, .sl (.st [.str, .str, .bool, .int .i64])]) rs], .agg [.str lo, .str hi, .bool bd]] => some (True, .tup [.lst pairT (partR b rs lo hi bd).1, .int .i64 (partR b rs lo hi bd).2])
  | _ => none
def spCount : DSpec
  | [.agg [.lst (.st [.str, .str, .bool, .int .i64]) b, .lst (.st [.int .i64, .sl (.st [.str, .str, .bool, .int .i64])]) rs], .agg [.str lo, .str hi, .bool bd]] => some (True, .tup [.int .i64 ((partR b rs lo hi bd).1.length : Nat), .int .i64 (partR b rs lo hi bd).2])
  | _ => none
theorem part_eq {l : List pairT.El} {e : Int} {r : List pairT.El × Int} (h : r = (l, e)) : AV.tup [.lst pairT l, .int .i64 e] = AV.tup [.lst pairT r.1, .int .i64 r.2] := by rw [h]
theorem part_v {b : List entT.El} {rs : List runT.El} {lo hi : ByteArray} {bd : Bool} (h : (vcL b rs).2 ≠ 0) : partR b rs lo hi bd = ([], (vcL b rs).2) := by rw [partR, if_pos h]
theorem part_r {b : List entT.El} {rs : List runT.El} {lo hi : ByteArray} {bd : Bool} (h : (vcL b rs).2 = 0) (h2 : rgE lo hi bd ≠ 0) : partR b rs lo hi bd = ([], rgE lo hi bd) := by rw [partR, if_neg (by simp [h]), if_pos h2]
theorem part_g {b : List entT.El} {rs : List runT.El} {lo hi : ByteArray} {bd : Bool} (h : (vcL b rs).2 = 0) (h2 : rgE lo hi bd = 0) : partR b rs lo hi bd = ((mapL (allE b rs)).filter (fun p => hasB lo hi bd p.1), 0) := by rw [partR, if_neg (by simp [h]), if_neg (by simp [h2])]
theorem filter_snoc {α : Type} {q : α → Bool} {l : List α} {i : Nat} {x : α} (hx : l[i]? = some x) : (l.take (i + 1)).filter q = (l.take i).filter q ++ (if q x = true then [x] else []) := by
  rw [List.take_add_one, hx, List.filter_append]
  congr 1
  by_cases h : q x = true <;> simp [h]
theorem mapL_key {b : List entT.El} {rs : List runT.El} (h : GoodV b rs) {p : pairT.El} (hp : p ∈ mapL (allE b rs)) : keyE p.1 = 0 := by
  obtain ⟨x, hx, hk, _, _⟩ := getM_mem ((mapL_mem _ p).1 hp)
  have he := all_err h hx
  rw [← hk]
  simp only [errX, errE] at he
  unfold keyE
  by_cases h32 : 32 < (x.1.size : Int)
  · simp [h32] at he
  · simp [h32]
theorem keyE_sz {k : ByteArray} (h : keyE k = 0) : (k.size : Int) ≤ 9223372036854775807 := by
  unfold keyE at h
  by_cases h32 : 32 < (k.size : Int)
  · simp [h32] at h
  · omega
set_option maxRecDepth 100000 in
theorem fnOk_rfPart : FnOk Try.prog 18 Try.f18 := ⟨by rfl, by kernel_rfl, by
  show okCode _ _ = true ∧ drawsOk _ = true
  exact ⟨by kernel_rfl, by kernel_rfl⟩⟩
noncomputable def cxo1 : Cx := ⟨tb, [], [(31, spVC), (26, spRg), (27, spHas), (53, spMap)]⟩
theorem specso1 : SpecsOk Try.prog cxo1.specs := .cons ref25C_ok (.cons ref02Rg_ok (.cons ref02Has_ok (.cons rMap_ok .nil)))
theorem own_p {id g n m : Nat} {c : AV} (h : n = m) : [AV.own id g n, c] = [AV.own id g m, c] := by rw [h]
set_option maxRecDepth 100000 in
set_option maxHeartbeats 4000000 in
theorem rfPart_ok : SpecOk Try.prog 18 spPart := by
  refine spec_body (C := cxo1) mixed tbOk specso1 (callN_ok (C := cxo1) mixed tbOk specso1 FnsOk.nil 3) fnOk_rfPart ?_
  intro ys p r h hp
  unfold spPart at h
  split at h
  · rename_i b rs lo hi bd
    cases h
    by_cases hv : (vcL b rs).2 = 0
    · by_cases hr : rgE lo hi bd = 0
      · have hg := vcL_zero hv
        have hal := all_len hg
        have hml := mapL_len (allE b rs)
        have hk : ∀ p ∈ mapL (allE b rs), (p.1.size : Int) ≤ 9223372036854775807 := fun p hp => keyE_sz (mapL_key hg hp)
        rw [part_g hv hr]
        conv => whnf
        repeat' first
          | (refine idx_kn (by assumption) ?_; conv => whnf)
          | (refine idx_ki (by assumption) (by omega) ?_; conv => whnf)
          | (refine br_true (by first | with_reducible exact rfl | assumption | decide) ?_; conv => whnf)
          | (refine br_false (by first | with_reducible exact rfl | assumption | decide) ?_; conv => whnf)
          | ((with_reducible refine br_kt (by assumption) ?_); conv => whnf)
          | ((with_reducible refine br_kf (by assumption) ?_); conv => whnf)
          | ((with_reducible refine br_nt (by assumption) ?_); conv => whnf)
          | ((with_reducible refine br_nf (by assumption) ?_); conv => whnf)
          | ((with_reducible refine br_et (by assumption) ?_); conv => whnf)
          | ((with_reducible refine br_ef (by assumption) ?_); conv => whnf)
          | ((with_reducible refine br_dec (fun h => ?_) (fun h => ?_)) <;> first | (exfalso; omega) | conv => whnf)
          | ((with_reducible refine br_ndec (fun h => ?_) (fun h => ?_)) <;> first | (exfalso; omega) | conv => whnf)
          | ((with_reducible refine br_ne (fun h => ?_) (fun h => ?_)) <;> first | (exfalso; omega) | conv => whnf)
          | ((with_reducible refine br_eq (fun h => ?_) (fun h => ?_)) <;> first | (exfalso; omega) | conv => whnf)
          | (refine br_intro (fun h => ?_) (fun h => ?_) <;> conv => whnf)
          | (refine need_in (by first | exact trivial | assumption | exact ⟨rfl, Nat.le_refl _⟩ | exact ⟨rfl, rfl⟩ | (simp only [inR]; omega) | omega | (simp only [roomP, true_and, and_true, List.length_take, List.length_drop, List.length_append, List.length_cons, List.length_nil, List.length_set, List.length_replicate]; omega) | (refine ⟨by first | exact trivial | rfl, by first | exact Nat.le_refl _ | omega | (simp; omega), ?_⟩; change roomP _ _ 1; simp only [roomP]; omega) | (change roomP _ _ 1; simp only [roomP]; omega) | (simp; omega) | (simp [inR]; omega) | (simp [inR]; done) | decide | (simp; done)) ?_; conv => whnf)
          | (refine idx_nat (by omega) (fun x hx => ?_); conv => whnf)
          | (refine frz_auto ?_; conv => whnf)
          | (refine draw_plain ?_; conv => whnf)
          | (refine idx_intro (by omega) (by omega) (fun x hx => ?_); conv => whnf)
          | (refine idx_intro (by first | omega | (simp; omega) | (simp; done)) (by first | omega | (simp; omega) | (simp; done)) (fun x hx => ?_); conv => whnf)
          | fail
        generalize mapL (allE b rs) = m at hml hk ⊢
        refine loop_inv [] [9, 10] (fun vs h => ∃ i g : Nat, vs = [.own 3 g ((m.take i).filter (fun p => hasB lo hi bd p.1)).length, .int .i64 (i : Int)] ∧ h = [.cells 25 [.lst entT b, .lst runT rs], .cells 37 [.str lo, .str hi, .bool bd], .arr 73 pairT [] false 0, .arr 73 pairT ((m.take i).filter (fun p => hasB lo hi bd p.1)) false g] ∧ i ≤ m.length) (fun vs _ => match vs with | [_, .int _ k] => m.length - k.toNat | _ => 0) ?_
        conv => whnf
        refine ⟨⟨0, 0, rfl, rfl, by omega⟩, ?_⟩
        rintro vs h' - ⟨i, g, rfl, rfl, hil0⟩
        have hfl : ((m.take i).filter (fun p => hasB lo hi bd p.1)).length ≤ 1000000000 := by
          have := List.length_filter_le (fun p : pairT.El => hasB lo hi bd p.1) (m.take i)
          rw [List.length_take] at this
          omega
        by_cases hil : i < m.length
        · obtain ⟨x, hx⟩ : ∃ x, m[i]? = some x := ⟨_, List.getElem?_eq_getElem hil⟩
          have hfs := filter_snoc (q := fun p : pairT.El => hasB lo hi bd p.1) hx
          have hkx := hk x (List.mem_of_getElem? hx)
          conv => whnf
          repeat' first
            | (refine idx_kn (by assumption) ?_; conv => whnf)
            | (refine idx_ki (by assumption) (by omega) ?_; conv => whnf)
            | (refine br_true (by first | with_reducible exact rfl | assumption | decide) ?_; conv => whnf)
            | (refine br_false (by first | with_reducible exact rfl | assumption | decide) ?_; conv => whnf)
            | ((with_reducible refine br_kt (by assumption) ?_); conv => whnf)
            | ((with_reducible refine br_kf (by assumption) ?_); conv => whnf)
            | ((with_reducible refine br_nt (by assumption) ?_); conv => whnf)
            | ((with_reducible refine br_nf (by assumption) ?_); conv => whnf)
            | ((with_reducible refine br_et (by assumption) ?_); conv => whnf)
            | ((with_reducible refine br_ef (by assumption) ?_); conv => whnf)
            | ((with_reducible refine br_dec (fun h => ?_) (fun h => ?_)) <;> first | (exfalso; omega) | conv => whnf)
            | ((with_reducible refine br_ndec (fun h => ?_) (fun h => ?_)) <;> first | (exfalso; omega) | conv => whnf)
            | ((with_reducible refine br_ne (fun h => ?_) (fun h => ?_)) <;> first | (exfalso; omega) | conv => whnf)
            | ((with_reducible refine br_eq (fun h => ?_) (fun h => ?_)) <;> first | (exfalso; omega) | conv => whnf)
            | (refine br_intro (fun h => ?_) (fun h => ?_) <;> conv => whnf)
            | (refine need_in (by first | exact trivial | assumption | exact ⟨rfl, Nat.le_refl _⟩ | exact ⟨rfl, rfl⟩ | (simp only [inR]; omega) | omega | (simp only [roomP, true_and, and_true, List.length_take, List.length_drop, List.length_append, List.length_cons, List.length_nil, List.length_set, List.length_replicate]; omega) | (refine ⟨by first | exact trivial | rfl, by first | exact Nat.le_refl _ | omega | (simp; omega), ?_⟩; change roomP _ _ 1; simp only [roomP]; omega) | (change roomP _ _ 1; simp only [roomP]; omega) | (simp; omega) | (simp [inR]; omega) | (simp [inR]; done) | decide | (simp; done)) ?_; conv => whnf)
            | (refine idx_nat (by omega) (fun x hx => ?_); conv => whnf)
            | (refine frz_auto ?_; conv => whnf)
            | (refine draw_plain ?_; conv => whnf)
            | (refine idx_intro (by omega) (by omega) (fun x hx => ?_); conv => whnf)
            | (refine idx_intro (by first | omega | (simp; omega) | (simp; done)) (by first | omega | (simp; omega) | (simp; done)) (fun x hx => ?_); conv => whnf)
            | fail
          · rw [if_pos h] at hfs
            refine back_intro (by conv => whnf) rfl ⟨i + 1, g + 1, own_p ?_, heap_m ?_, by omega⟩ ?_
            · rw [hfs, List.length_append]; rfl
            · rw [hfs]; simp only [cast_self, List.take_length]; rfl
            · show m.length - ((i : Int) + 1).toNat < m.length - (i : Int).toNat
              omega
          · rw [if_neg (by simp [h]), List.append_nil] at hfs
            refine back_intro (by conv => whnf) rfl ⟨i + 1, g, own_p ?_, heap_m ?_, by omega⟩ ?_
            · rw [hfs]
            · rw [hfs]
            · show m.length - ((i : Int) + 1).toNat < m.length - (i : Int).toNat
              omega
        · conv => whnf
          repeat' first
            | (refine idx_kn (by assumption) ?_; conv => whnf)
            | (refine idx_ki (by assumption) (by omega) ?_; conv => whnf)
            | (refine br_true (by first | with_reducible exact rfl | assumption | decide) ?_; conv => whnf)
            | (refine br_false (by first | with_reducible exact rfl | assumption | decide) ?_; conv => whnf)
            | ((with_reducible refine br_kt (by assumption) ?_); conv => whnf)
            | ((with_reducible refine br_kf (by assumption) ?_); conv => whnf)
            | ((with_reducible refine br_nt (by assumption) ?_); conv => whnf)
            | ((with_reducible refine br_nf (by assumption) ?_); conv => whnf)
            | ((with_reducible refine br_et (by assumption) ?_); conv => whnf)
            | ((with_reducible refine br_ef (by assumption) ?_); conv => whnf)
            | ((with_reducible refine br_dec (fun h => ?_) (fun h => ?_)) <;> first | (exfalso; omega) | conv => whnf)
            | ((with_reducible refine br_ndec (fun h => ?_) (fun h => ?_)) <;> first | (exfalso; omega) | conv => whnf)
            | ((with_reducible refine br_ne (fun h => ?_) (fun h => ?_)) <;> first | (exfalso; omega) | conv => whnf)
            | ((with_reducible refine br_eq (fun h => ?_) (fun h => ?_)) <;> first | (exfalso; omega) | conv => whnf)
            | (refine br_intro (fun h => ?_) (fun h => ?_) <;> conv => whnf)
            | (refine need_in (by first | exact trivial | assumption | exact ⟨rfl, Nat.le_refl _⟩ | exact ⟨rfl, rfl⟩ | (simp only [inR]; omega) | omega | (simp only [roomP, true_and, and_true, List.length_take, List.length_drop, List.length_append, List.length_cons, List.length_nil, List.length_set, List.length_replicate]; omega) | (refine ⟨by first | exact trivial | rfl, by first | exact Nat.le_refl _ | omega | (simp; omega), ?_⟩; change roomP _ _ 1; simp only [roomP]; omega) | (change roomP _ _ 1; simp only [roomP]; omega) | (simp; omega) | (simp [inR]; omega) | (simp [inR]; done) | decide | (simp; done)) ?_; conv => whnf)
            | (refine idx_nat (by omega) (fun x hx => ?_); conv => whnf)
            | (refine frz_auto ?_; conv => whnf)
            | (refine draw_plain ?_; conv => whnf)
            | (refine idx_intro (by omega) (by omega) (fun x hx => ?_); conv => whnf)
            | (refine idx_intro (by first | omega | (simp; omega) | (simp; done)) (by first | omega | (simp; omega) | (simp; done)) (fun x hx => ?_); conv => whnf)
            | fail
          rw [List.take_of_length_le (l := m) (i := i) (by omega), List.take_length]
      · conv => whnf
        repeat' first
          | (refine idx_kn (by assumption) ?_; conv => whnf)
          | (refine idx_ki (by assumption) (by omega) ?_; conv => whnf)
          | (refine br_true (by first | with_reducible exact rfl | assumption | decide) ?_; conv => whnf)
          | (refine br_false (by first | with_reducible exact rfl | assumption | decide) ?_; conv => whnf)
          | ((with_reducible refine br_kt (by assumption) ?_); conv => whnf)
          | ((with_reducible refine br_kf (by assumption) ?_); conv => whnf)
          | ((with_reducible refine br_nt (by assumption) ?_); conv => whnf)
          | ((with_reducible refine br_nf (by assumption) ?_); conv => whnf)
          | ((with_reducible refine br_et (by assumption) ?_); conv => whnf)
          | ((with_reducible refine br_ef (by assumption) ?_); conv => whnf)
          | ((with_reducible refine br_dec (fun h => ?_) (fun h => ?_)) <;> first | (exfalso; omega) | conv => whnf)
          | ((with_reducible refine br_ndec (fun h => ?_) (fun h => ?_)) <;> first | (exfalso; omega) | conv => whnf)
          | ((with_reducible refine br_ne (fun h => ?_) (fun h => ?_)) <;> first | (exfalso; omega) | conv => whnf)
          | ((with_reducible refine br_eq (fun h => ?_) (fun h => ?_)) <;> first | (exfalso; omega) | conv => whnf)
          | (refine br_intro (fun h => ?_) (fun h => ?_) <;> conv => whnf)
          | (refine need_in (by first | exact trivial | assumption | exact ⟨rfl, Nat.le_refl _⟩ | exact ⟨rfl, rfl⟩ | (simp only [inR]; omega) | omega | (simp only [roomP, true_and, and_true, List.length_take, List.length_drop, List.length_append, List.length_cons, List.length_nil, List.length_set, List.length_replicate]; omega) | (refine ⟨by first | exact trivial | rfl, by first | exact Nat.le_refl _ | omega | (simp; omega), ?_⟩; change roomP _ _ 1; simp only [roomP]; omega) | (change roomP _ _ 1; simp only [roomP]; omega) | (simp; omega) | (simp [inR]; omega) | (simp [inR]; done) | decide | (simp; done)) ?_; conv => whnf)
          | (refine idx_nat (by omega) (fun x hx => ?_); conv => whnf)
          | (refine frz_auto ?_; conv => whnf)
          | (refine draw_plain ?_; conv => whnf)
          | (refine idx_intro (by omega) (by omega) (fun x hx => ?_); conv => whnf)
          | (refine idx_intro (by first | omega | (simp; omega) | (simp; done)) (by first | omega | (simp; omega) | (simp; done)) (fun x hx => ?_); conv => whnf)
          | fail
        rw [part_r hv hr]
        rfl
    · conv => whnf
      repeat' first
        | (refine idx_kn (by assumption) ?_; conv => whnf)
        | (refine idx_ki (by assumption) (by omega) ?_; conv => whnf)
        | (refine br_true (by first | with_reducible exact rfl | assumption | decide) ?_; conv => whnf)
        | (refine br_false (by first | with_reducible exact rfl | assumption | decide) ?_; conv => whnf)
        | ((with_reducible refine br_kt (by assumption) ?_); conv => whnf)
        | ((with_reducible refine br_kf (by assumption) ?_); conv => whnf)
        | ((with_reducible refine br_nt (by assumption) ?_); conv => whnf)
        | ((with_reducible refine br_nf (by assumption) ?_); conv => whnf)
        | ((with_reducible refine br_et (by assumption) ?_); conv => whnf)
        | ((with_reducible refine br_ef (by assumption) ?_); conv => whnf)
        | ((with_reducible refine br_dec (fun h => ?_) (fun h => ?_)) <;> first | (exfalso; omega) | conv => whnf)
        | ((with_reducible refine br_ndec (fun h => ?_) (fun h => ?_)) <;> first | (exfalso; omega) | conv => whnf)
        | ((with_reducible refine br_ne (fun h => ?_) (fun h => ?_)) <;> first | (exfalso; omega) | conv => whnf)
        | ((with_reducible refine br_eq (fun h => ?_) (fun h => ?_)) <;> first | (exfalso; omega) | conv => whnf)
        | (refine br_intro (fun h => ?_) (fun h => ?_) <;> conv => whnf)
        | (refine need_in (by first | exact trivial | assumption | exact ⟨rfl, Nat.le_refl _⟩ | exact ⟨rfl, rfl⟩ | (simp only [inR]; omega) | omega | (simp only [roomP, true_and, and_true, List.length_take, List.length_drop, List.length_append, List.length_cons, List.length_nil, List.length_set, List.length_replicate]; omega) | (refine ⟨by first | exact trivial | rfl, by first | exact Nat.le_refl _ | omega | (simp; omega), ?_⟩; change roomP _ _ 1; simp only [roomP]; omega) | (change roomP _ _ 1; simp only [roomP]; omega) | (simp; omega) | (simp [inR]; omega) | (simp [inR]; done) | decide | (simp; done)) ?_; conv => whnf)
        | (refine idx_nat (by omega) (fun x hx => ?_); conv => whnf)
        | (refine frz_auto ?_; conv => whnf)
        | (refine draw_plain ?_; conv => whnf)
        | (refine idx_intro (by omega) (by omega) (fun x hx => ?_); conv => whnf)
        | (refine idx_intro (by first | omega | (simp; omega) | (simp; done)) (by first | omega | (simp; omega) | (simp; done)) (fun x hx => ?_); conv => whnf)
        | fail
      rw [part_v hv]
      rfl
  · cases h
end Go.Proofs.Ytekkeajcmibbaaa
