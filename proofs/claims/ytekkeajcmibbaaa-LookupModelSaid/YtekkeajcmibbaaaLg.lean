/-
  The order of strings as a number, and lists without a fault: plain Lean.
  The parts of a view; the newest entry of a key, by both.
  The entry of a key, in one part of a view.
-/
import Derived.Test.YtekkeajcmibbaaaLd
import Derived.Test.YtekkeajcmibbaaaLe
namespace Go.Proofs.Ytekkeajcmibbaaa
open Av Bk

theorem ordS_lt {a b : ByteArray} : ordS a b < 0 ↔ sLt a b = true := by
  unfold ordS
  split
  · rename_i h; simp [h]
  · rename_i h; split <;> simp [h]
theorem ordS_eq {a b : ByteArray} : ordS a b = 0 ↔ sEq a b = true := by
  unfold ordS
  split
  · rename_i h
    simp only [sEq_iff]
    exact ⟨fun e => by omega, fun e => absurd e (sLt_ne h)⟩
  · rename_i h
    split
    · rename_i h2
      simp only [sEq_iff]
      exact ⟨fun e => by omega, fun e => absurd e.symm (sLt_ne h2)⟩
    · rename_i h2
      simp only [sEq_iff, true_iff]
      exact sLt_ext (by simpa using h) (by simpa using h2)
def eOf (o : Option entT.El) : entT.El := o.getD (mkE ⟨#[]⟩ ⟨#[]⟩ false 0)
abbrev entA (x : entT.El) : AV := .agg [.str x.1, .str x.2.1, .bool x.2.2.1, .int .i64 x.2.2.2.1]
abbrev goodL (l : List entT.El) : Prop := ascS l ∧ l.length ≤ 100000
theorem two_int {a b c d : Int} (h1 : a = c) (h2 : b = d) : [AV.int .i64 a, .int .i64 b] = [AV.int .i64 c, .int .i64 d] := by rw [h1, h2]
end Go.Proofs.Ytekkeajcmibbaaa
namespace Go.Proofs.Ytekkeajcmibbaaa
open Av Bk

/-! ### Views without a fault -/
theorem vcGo_zero : ∀ {rs pre : List runT.El}, (vcGo pre rs).2 = 0 → ∀ r ∈ rs, (clL r.2.1).2 = 0
  | [], _, _ => by simp
  | x :: l, pre, h => by
    rw [vcGo] at h
    split at h
    · rename_i he; exact absurd h he
    · rename_i he
      split at h
      · cases h
      · intro r hr
        rcases List.mem_cons.1 hr with rfl | hr
        · have he : (rcL r).2 = 0 := by simpa using he
          unfold rcL at he
          split at he
          · cases he
          · exact he
        · exact vcGo_zero h r hr
structure GoodV (b : List entT.El) (rs : List runT.El) : Prop where
  lb : b.length ≤ 16
  gb : (clL b).2 = 0
  lr : rs.length ≤ 24
  gr : ∀ r ∈ rs, (clL r.2.1).2 = 0
theorem vcL_zero {b : List entT.El} {rs : List runT.El} (h : (vcL b rs).2 = 0) : GoodV b rs := by
  unfold vcL at h
  split at h
  · cases h
  · split at h
    · rename_i he; exact absurd h he
    · rename_i he
      split at h
      · cases h
      · exact ⟨by omega, by simpa using he, by omega, vcGo_zero h⟩
theorem askE_zero {b : List entT.El} {rs : List runT.El} {k : ByteArray} (h : askE b rs k = 0) : GoodV b rs ∧ keyE k = 0 := by
  unfold askE at h
  split at h
  · rename_i he; exact absurd h he
  · rename_i he; exact ⟨vcL_zero (by simpa using he), h⟩
theorem goodL_of {l : List entT.El} (h : (clL l).2 = 0) : goodL l := ⟨(clL_zero h).2.2, by have := (clL_zero h).1; omega⟩
/-! ### Parts -/
abbrev partT : Ty := .ifc [111, 112] [.sl entT, runT]
def partsA (b : List entT.El) (rs : List runT.El) : List partT.El := .inl b :: rs.map (fun r => .inr (.inl r))
def partsB (b : List entT.El) (rs : List runT.El) : List (List entT.El) := b :: rs.map (fun r => r.2.1)
theorem partsA_snoc (b : List entT.El) (rs : List runT.El) (r : runT.El) : partsA b (rs ++ [r]) = partsA b rs ++ [.inr (.inl r)] := by simp [partsA]
theorem partsB_snoc (b : List entT.El) (rs : List runT.El) (r : runT.El) : partsB b (rs ++ [r]) = partsB b rs ++ [r.2.1] := by simp [partsB]
theorem take_snoc1 {α : Type} {l : List α} {i : Nat} {x : α} (h : l[i]? = some x) : l.take (i + 1) = l.take i ++ [x] := by rw [List.take_add_one, h]; rfl
theorem own_n {id g n m : Nat} {c : AV} (h : n = m) : [AV.own id g n, c] = [AV.own id g m, c] := by rw [h]
theorem heap_n2 {a b : AObj} {T : TypeId} {t : Ty} {g : Nat} {l m : List t.El} (hl : l = m) : [a, b, .arr T t l false g] = [a, b, AObj.arr T t m false g] := by rw [hl]
theorem heap_n {b : AObj} {T : TypeId} {t : Ty} {g : Nat} {l m : List t.El} (hl : l = m) : [b, .arr T t l false g] = [b, AObj.arr T t m false g] := by rw [hl]
def spPA : DSpec
  | [.agg [.lst (.st [.str, .str, .bool, .int .i64]) b, .lst (.st [.int .i64, .sl (.st [.str, .str, .bool, .int .i64])]) rs]] => some (rs.length ≤ 100000, .lst partT (partsA b rs))
  | _ => none
def spPB : DSpec
  | [.agg [.lst (.st [.str, .str, .bool, .int .i64]) b, .lst (.st [.int .i64, .sl (.st [.str, .str, .bool, .int .i64])]) rs]] => some (rs.length ≤ 100000, .lst (.sl entT) (partsB b rs))
  | _ => none
set_option maxRecDepth 100000 in
theorem fnOk_lkParts : FnOk Try.prog 44 Try.f44 := ⟨by rfl, by kernel_rfl, by
  show okCode _ _ = true ∧ drawsOk _ = true
  exact ⟨by kernel_rfl, by kernel_rfl⟩⟩
set_option maxRecDepth 100000 in
theorem fnOk_rfParts : FnOk Try.prog 46 Try.f46 := ⟨by rfl, by kernel_rfl, by
  show okCode _ _ = true ∧ drawsOk _ = true
  exact ⟨by kernel_rfl, by kernel_rfl⟩⟩
set_option maxRecDepth 100000 in
set_option maxHeartbeats 2000000 in
theorem lkParts_ok : SpecOk Try.prog 44 spPA := by
  refine spec_body (C := cx0) mixed tbOk SpecsOk.nil (callN_ok (C := cx0) mixed tbOk SpecsOk.nil FnsOk.nil 0) fnOk_lkParts ?_
  intro ys p r h hp
  unfold spPA at h
  split at h
  · rename_i b rs
    cases h
    conv => whnf
    repeat' first
      | ((first | refine br_true (by first | with_reducible exact rfl | assumption | decide) ?_ | refine br_false (by first | with_reducible exact rfl | assumption | decide) ?_ | with_reducible first | refine br_kt (by assumption) ?_ | refine br_kf (by assumption) ?_ | refine br_nt (by assumption) ?_ | refine br_nf (by assumption) ?_ | refine br_et (by assumption) ?_ | refine br_ef (by assumption) ?_); conv => whnf)
      | ((with_reducible first | refine br_dec (fun h => ?_) (fun h => ?_) | refine br_ndec (fun h => ?_) (fun h => ?_) | refine br_ne (fun h => ?_) (fun h => ?_) | refine br_eq (fun h => ?_) (fun h => ?_)) <;> first | (exfalso; omega) | conv => whnf)
      | (refine br_intro (fun h => ?_) (fun h => ?_) <;> conv => whnf)
      | ((first | refine need_in (by first | exact trivial | assumption | exact ⟨rfl, Nat.le_refl _⟩ | exact ⟨rfl, rfl⟩ | (simp only [inR]; omega) | omega | (simp only [roomP, true_and, and_true, List.length_take, List.length_drop, List.length_append, List.length_cons, List.length_nil, List.length_set, List.length_replicate]; omega) | (refine ⟨by first | exact trivial | rfl, by first | exact Nat.le_refl _ | omega | (simp; omega), ?_⟩; change roomP _ _ 1; simp only [roomP]; omega) | (change roomP _ _ 1; simp only [roomP]; omega) | (simp; omega) | (simp [inR]; omega) | (simp [inR]; done) | decide | (simp; done)) ?_ | refine idx_nat (by omega) (fun x hx => ?_) | refine frz_auto ?_ | refine draw_plain ?_ | refine idx_intro (by first | omega | (simp; omega) | (simp; done)) (by first | omega | (simp; omega) | (simp; done)) (fun x hx => ?_)); conv => whnf)
    refine loop_inv [] [3, 13] (fun vs h => ∃ (i g : Nat), vs = [.own 2 g (i + 1), .int .i64 (i : Int)] ∧ h = [.cells 25 [.lst entT b, .lst runT rs], .arr 82 partT [] false 0, .arr 82 partT (partsA b (rs.take i)) false g] ∧ i ≤ rs.length) (fun vs _ => match vs with | [_, .int _ k] => rs.length - k.toNat | _ => 0) ?_
    conv => whnf
    refine ⟨⟨0, 0, rfl, rfl, Nat.zero_le _⟩, ?_⟩
    rintro vs h' - ⟨i, g, rfl, rfl, hi⟩
    have hpl : (partsA b (rs.take i)).length = i + 1 := by simp [partsA]; omega
    conv => whnf
    repeat' first
      | ((first | refine br_true (by first | with_reducible exact rfl | assumption | decide) ?_ | refine br_false (by first | with_reducible exact rfl | assumption | decide) ?_ | with_reducible first | refine br_kt (by assumption) ?_ | refine br_kf (by assumption) ?_ | refine br_nt (by assumption) ?_ | refine br_nf (by assumption) ?_ | refine br_et (by assumption) ?_ | refine br_ef (by assumption) ?_); conv => whnf)
      | ((with_reducible first | refine br_dec (fun h => ?_) (fun h => ?_) | refine br_ndec (fun h => ?_) (fun h => ?_) | refine br_ne (fun h => ?_) (fun h => ?_) | refine br_eq (fun h => ?_) (fun h => ?_)) <;> first | (exfalso; omega) | conv => whnf)
      | (refine br_intro (fun h => ?_) (fun h => ?_) <;> conv => whnf)
      | ((first | refine need_in (by first | exact trivial | assumption | exact ⟨rfl, Nat.le_refl _⟩ | exact ⟨rfl, rfl⟩ | (simp only [inR]; omega) | omega | (simp only [roomP, true_and, and_true, List.length_take, List.length_drop, List.length_append, List.length_cons, List.length_nil, List.length_set, List.length_replicate]; omega) | (refine ⟨by first | exact trivial | rfl, by first | exact Nat.le_refl _ | omega | (simp; omega), ?_⟩; change roomP _ _ 1; simp only [roomP]; omega) | (change roomP _ _ 1; simp only [roomP]; omega) | (simp; omega) | (simp [inR]; omega) | (simp [inR]; done) | decide | (simp; done)) ?_ | refine idx_nat (by omega) (fun x hx => ?_) | refine frz_auto ?_ | refine draw_plain ?_ | refine idx_intro (by first | omega | (simp; omega) | (simp; done)) (by first | omega | (simp; omega) | (simp; done)) (fun x hx => ?_)); conv => whnf)
    · refine back_intro (by conv => whnf) rfl ⟨i + 1, g + 1, rfl, heap_n2 ?_, by omega⟩ ?_
      · rw [take_snoc1 hx, partsA_snoc]
        simp only [cast_self]
        rw [List.take_of_length_le (by omega)]
        rfl
      · show rs.length - ((i : Int) + 1).toNat < rs.length - (i : Int).toNat
        omega
    · have e : i = rs.length := by omega
      rw [List.take_of_length_le (l := partsA b (rs.take i)) (by omega), e, List.take_length]
  · cases h
set_option maxRecDepth 100000 in
set_option maxHeartbeats 2000000 in
theorem rfParts_ok : SpecOk Try.prog 46 spPB := by
  refine spec_body (C := cx0) mixed tbOk SpecsOk.nil (callN_ok (C := cx0) mixed tbOk SpecsOk.nil FnsOk.nil 0) fnOk_rfParts ?_
  intro ys p r h hp
  unfold spPB at h
  split at h
  · rename_i b rs
    cases h
    conv => whnf
    repeat' first
      | ((first | refine br_true (by first | with_reducible exact rfl | assumption | decide) ?_ | refine br_false (by first | with_reducible exact rfl | assumption | decide) ?_ | with_reducible first | refine br_kt (by assumption) ?_ | refine br_kf (by assumption) ?_ | refine br_nt (by assumption) ?_ | refine br_nf (by assumption) ?_ | refine br_et (by assumption) ?_ | refine br_ef (by assumption) ?_); conv => whnf)
      | ((with_reducible first | refine br_dec (fun h => ?_) (fun h => ?_) | refine br_ndec (fun h => ?_) (fun h => ?_) | refine br_ne (fun h => ?_) (fun h => ?_) | refine br_eq (fun h => ?_) (fun h => ?_)) <;> first | (exfalso; omega) | conv => whnf)
      | (refine br_intro (fun h => ?_) (fun h => ?_) <;> conv => whnf)
      | ((first | refine need_in (by first | exact trivial | assumption | exact ⟨rfl, Nat.le_refl _⟩ | exact ⟨rfl, rfl⟩ | (simp only [inR]; omega) | omega | (simp only [roomP, true_and, and_true, List.length_take, List.length_drop, List.length_append, List.length_cons, List.length_nil, List.length_set, List.length_replicate]; omega) | (refine ⟨by first | exact trivial | rfl, by first | exact Nat.le_refl _ | omega | (simp; omega), ?_⟩; change roomP _ _ 1; simp only [roomP]; omega) | (change roomP _ _ 1; simp only [roomP]; omega) | (simp; omega) | (simp [inR]; omega) | (simp [inR]; done) | decide | (simp; done)) ?_ | refine idx_nat (by omega) (fun x hx => ?_) | refine frz_auto ?_ | refine draw_plain ?_ | refine idx_intro (by first | omega | (simp; omega) | (simp; done)) (by first | omega | (simp; omega) | (simp; done)) (fun x hx => ?_)); conv => whnf)
    refine loop_inv [] [3, 4] (fun vs h => ∃ (i g : Nat), vs = [.own 2 g (i + 1), .int .i64 (i : Int)] ∧ h = [.cells 25 [.lst entT b, .lst runT rs], .arr 22 (.sl entT) [] false 0, .arr 22 (.sl entT) (partsB b (rs.take i)) false g] ∧ i ≤ rs.length) (fun vs _ => match vs with | [_, .int _ k] => rs.length - k.toNat | _ => 0) ?_
    conv => whnf
    refine ⟨⟨0, 0, rfl, rfl, Nat.zero_le _⟩, ?_⟩
    rintro vs h' - ⟨i, g, rfl, rfl, hi⟩
    have hpl : (partsB b (rs.take i)).length = i + 1 := by simp [partsB]; omega
    conv => whnf
    repeat' first
      | ((first | refine br_true (by first | with_reducible exact rfl | assumption | decide) ?_ | refine br_false (by first | with_reducible exact rfl | assumption | decide) ?_ | with_reducible first | refine br_kt (by assumption) ?_ | refine br_kf (by assumption) ?_ | refine br_nt (by assumption) ?_ | refine br_nf (by assumption) ?_ | refine br_et (by assumption) ?_ | refine br_ef (by assumption) ?_); conv => whnf)
      | ((with_reducible first | refine br_dec (fun h => ?_) (fun h => ?_) | refine br_ndec (fun h => ?_) (fun h => ?_) | refine br_ne (fun h => ?_) (fun h => ?_) | refine br_eq (fun h => ?_) (fun h => ?_)) <;> first | (exfalso; omega) | conv => whnf)
      | (refine br_intro (fun h => ?_) (fun h => ?_) <;> conv => whnf)
      | ((first | refine need_in (by first | exact trivial | assumption | exact ⟨rfl, Nat.le_refl _⟩ | exact ⟨rfl, rfl⟩ | (simp only [inR]; omega) | omega | (simp only [roomP, true_and, and_true, List.length_take, List.length_drop, List.length_append, List.length_cons, List.length_nil, List.length_set, List.length_replicate]; omega) | (refine ⟨by first | exact trivial | rfl, by first | exact Nat.le_refl _ | omega | (simp; omega), ?_⟩; change roomP _ _ 1; simp only [roomP]; omega) | (change roomP _ _ 1; simp only [roomP]; omega) | (simp; omega) | (simp [inR]; omega) | (simp [inR]; done) | decide | (simp; done)) ?_ | refine idx_nat (by omega) (fun x hx => ?_) | refine frz_auto ?_ | refine draw_plain ?_ | refine idx_intro (by first | omega | (simp; omega) | (simp; done)) (by first | omega | (simp; omega) | (simp; done)) (fun x hx => ?_)); conv => whnf)
    · refine back_intro (by conv => whnf) rfl ⟨i + 1, g + 1, rfl, heap_n2 ?_, by omega⟩ ?_
      · rw [take_snoc1 hx, partsB_snoc]
        simp only [cast_self]
        rw [List.take_of_length_le (by omega)]
        rfl
      · show rs.length - ((i : Int) + 1).toNat < rs.length - (i : Int).toNat
        omega
    · have e : i = rs.length := by omega
      rw [List.take_of_length_le (l := partsB b (rs.take i)) (by omega), e, List.take_length]
  · cases h
end Go.Proofs.Ytekkeajcmibbaaa
namespace Go.Proofs.Ytekkeajcmibbaaa
open Av Bk

def spLF : DSpec
  | [.lst (.st [.str, .str, .bool, .int .i64]) l, .str key] => some (goodL l, .tup [entA (eOf (firstK l key)), .bool (firstK l key).isSome])
  | _ => none
set_option maxRecDepth 100000 in
theorem fnOk_lFind : FnOk Try.prog 135 Try.f135 := ⟨by rfl, by kernel_rfl, by
  show okCode _ _ = true ∧ drawsOk _ = true
  exact ⟨by kernel_rfl, by kernel_rfl⟩⟩
set_option maxRecDepth 100000 in
theorem fnOk_lFind1 : FnOk Try.prog 137 Try.f137 := ⟨by rfl, by kernel_rfl, by
  show okCode _ _ = true ∧ drawsOk _ = true
  exact ⟨by kernel_rfl, by kernel_rfl⟩⟩
set_option maxRecDepth 100000 in
theorem fnOk_bSearch : FnOk Try.prog 136 Try.f136 := ⟨by rfl, by kernel_rfl, by
  show okCode _ _ = true ∧ drawsOk _ = true
  exact ⟨by kernel_rfl, by kernel_rfl⟩⟩
noncomputable def cxf1 : Cx := ⟨tb, [(137, Try.f137), (136, Try.f136)], [(82, spCmp)]⟩
theorem specsf1 : SpecsOk Try.prog cxf1.specs := .cons cmpStr_ok .nil
theorem fnsf1 : FnsOk Try.prog cxf1.fns := .cons fnOk_lFind1 (.cons fnOk_bSearch .nil)
set_option maxRecDepth 100000 in
set_option maxHeartbeats 2000000 in
theorem lFind_ok : SpecOk Try.prog 135 spLF := by
  refine spec_body (C := cxf1) mixed tbOk specsf1 (callN_ok (C := cxf1) mixed tbOk specsf1 fnsf1 3) fnOk_lFind ?_
  intro ys p r h hp
  unfold spLF at h
  split at h
  · rename_i l key
    cases h
    obtain ⟨ha, hl⟩ := hp
    have hle := lb_le key l
    have hf := firstK_lb (key := key) ha
    conv => whnf
    refine loop_inv [] [9, 10] (fun vs h => ∃ i j : Nat, vs = [.int .i64 (i : Int), .int .i64 (j : Int)] ∧ h = [.cells 29 [.str ⟨#[]⟩, .str ⟨#[]⟩, .bool false, .int .i64 0]] ∧ i ≤ lb key l ∧ lb key l ≤ j ∧ j ≤ l.length) (fun vs _ => match vs with | [.int _ i, .int _ j] => j.toNat - i.toNat | _ => 0) ?_
    conv => whnf
    refine ⟨⟨0, l.length, rfl, rfl, Nat.zero_le _, hle, Nat.le_refl _⟩, ?_⟩
    rintro vs h' - ⟨i, j, rfl, rfl, hi, hj, hjl⟩
    have hm : ((i : Int) + j) / 2 ^ Int.toNat 1 = (((i + j) / 2 : Nat) : Int) := by
      show ((i : Int) + j) / 2 = _
      omega
    conv => whnf
    repeat' first
      | ((first | refine br_true (by first | with_reducible exact rfl | assumption | decide) ?_ | refine br_false (by first | with_reducible exact rfl | assumption | decide) ?_ | with_reducible first | refine br_kt (by assumption) ?_ | refine br_kf (by assumption) ?_ | refine br_nt (by assumption) ?_ | refine br_nf (by assumption) ?_ | refine br_et (by assumption) ?_ | refine br_ef (by assumption) ?_); conv => whnf)
      | ((with_reducible first | refine br_dec (fun h => ?_) (fun h => ?_) | refine br_ndec (fun h => ?_) (fun h => ?_) | refine br_ne (fun h => ?_) (fun h => ?_) | refine br_eq (fun h => ?_) (fun h => ?_)) <;> first | (exfalso; omega) | conv => whnf)
      | (refine br_intro (fun h => ?_) (fun h => ?_) <;> conv => whnf)
      | ((first | refine need_in (by first | exact trivial | assumption | exact ⟨rfl, Nat.le_refl _⟩ | exact ⟨rfl, rfl⟩ | (simp only [inR]; omega) | omega | (simp only [roomP, true_and, and_true, List.length_take, List.length_drop, List.length_append, List.length_cons, List.length_nil, List.length_set, List.length_replicate]; omega) | (refine ⟨by first | exact trivial | rfl, by first | exact Nat.le_refl _ | omega | (simp; omega), ?_⟩; change roomP _ _ 1; simp only [roomP]; omega) | (change roomP _ _ 1; simp only [roomP]; omega) | (simp; omega) | (simp [inR]; omega) | (simp [inR]; done) | decide | (simp; done)) ?_ | refine idx_nat (by omega) (fun x hx => ?_) | refine frz_auto ?_ | refine draw_plain ?_ | refine idx_intro (by first | omega | (simp; omega) | (simp; done)) (by first | omega | (simp; omega) | (simp; done)) (fun x hx => ?_)); conv => whnf)
    · rw [hm] at hx
      have hx : l[(i + j) / 2]? = some x := hx
      have hlt : (i + j) / 2 < lb key l := by
        rcases Nat.lt_or_ge ((i + j) / 2) (lb key l) with h1 | h1
        · exact h1
        · have h2 := ordS_lt.1 h
          rw [lb_ge ha h1 hx] at h2; cases h2
      refine back_intro (by conv => whnf) rfl ⟨(i + j) / 2 + 1, j, ?_, rfl, by omega, hj, hjl⟩ ?_
      · exact two_int (by rw [hm]; rfl) rfl
      · show (j : Int).toNat - (((i : Int) + j) / 2 ^ Int.toNat 1 + 1).toNat < (j : Int).toNat - (i : Int).toNat
        rw [hm]
        omega
    · rw [hm] at hx
      have hx : l[(i + j) / 2]? = some x := hx
      have hge : lb key l ≤ (i + j) / 2 := by
        rcases Nat.lt_or_ge ((i + j) / 2) (lb key l) with h1 | h1
        · exact absurd (ordS_lt.2 (lb_lt h1 hx)) h
        · exact h1
      refine back_intro (by conv => whnf) rfl ⟨i, (i + j) / 2, ?_, rfl, hi, hge, by omega⟩ ?_
      · exact two_int rfl hm
      · show (((i : Int) + j) / 2 ^ Int.toNat 1).toNat - (i : Int).toNat < (j : Int).toNat - (i : Int).toNat
        rw [hm]
        omega
    · have hn : ¬ sEq x.1 key = true := fun e => by
        have := ordS_eq.2 e
        simp [this] at h
      have e : i = lb key l := by omega
      subst e
      rw [hf, hx]
      simp only [if_neg hn]
      rfl
    · rename_i y hy
      have e : i = lb key l := by omega
      have hn : sEq y.1 key = true := ordS_eq.1 (by simpa using h)
      subst e
      obtain rfl := Option.some.inj (hy.symm.trans hx)
      rw [hf, hx]
      simp only [if_pos hn]
      rfl
    · have e : i = lb key l := by omega
      subst e
      rw [hf, List.getElem?_eq_none (by omega)]
      rfl
  · cases h
end Go.Proofs.Ytekkeajcmibbaaa
