/-
  Levels of runs: checks of runs; plain definitions.
  Levels: sizes, and what fits.
-/
import Derived.Test.YtjinjnakedhmdaaLa
import Derived.Test.YtjinjnakedhmdaaAvq
namespace Go.Proofs.Ytjinjnakedhmdaa
open Av

abbrev runT : Ty := .st [.int .i64, .sl entT]
abbrev lvT : Ty := .st [.sl runT]
def rcL (x : runT.El) : Int × Int := if x.1 < 1 ∨ 1000000 < x.1 then (-1, 7) else clL x.2.1
def spRC : DSpec
  | [.agg [.int .i64 id, .lst (.st [.str, .str, .bool, .int .i64]) l]] => some (True, .tup [.int .i64 (rcL (id, l, ())).1, .int .i64 (rcL (id, l, ())).2])
  | _ => none
set_option maxRecDepth 100000 in
theorem fnOk_runsC : FnOk Try.prog 49 Try.f49 := ⟨by rfl, by kernel_rfl, by
  show okCode _ _ = true ∧ drawsOk _ = true
  exact ⟨by kernel_rfl, by kernel_rfl⟩⟩
set_option maxRecDepth 100000 in
theorem fnOk_ref08C : FnOk Try.prog 51 Try.f51 := ⟨by rfl, by kernel_rfl, by
  show okCode _ _ = true ∧ drawsOk _ = true
  exact ⟨by kernel_rfl, by kernel_rfl⟩⟩
noncomputable def cxb1 : Cx := ⟨tb, [], [(52, spCL)]⟩
theorem specsb1 : SpecsOk Try.prog cxb1.specs := .cons entsCL_ok .nil
noncomputable def cxb2 : Cx := ⟨tb, [], [(53, spCL)]⟩
theorem specsb2 : SpecsOk Try.prog cxb2.specs := .cons refCL_ok .nil
set_option maxRecDepth 100000 in
theorem runsC_ok : SpecOk Try.prog 49 spRC := by
  refine spec_body (C := cxb1) mixed tbOk specsb1 (callN_ok (C := cxb1) mixed tbOk specsb1 FnsOk.nil 0) fnOk_runsC ?_
  intro ys p r h hp
  unfold spRC at h
  split at h
  · rename_i id l
    cases h
    conv => whnf
    repeat' first
      | ((first | refine br_true (by first | with_reducible exact rfl | assumption | decide) ?_ | refine br_false (by first | with_reducible exact rfl | assumption | decide) ?_ | with_reducible first | refine br_kt (by assumption) ?_ | refine br_kf (by assumption) ?_ | refine br_nt (by assumption) ?_ | refine br_nf (by assumption) ?_ | refine br_et (by assumption) ?_ | refine br_ef (by assumption) ?_); conv => whnf)
      | ((with_reducible first | refine br_dec (fun h => ?_) (fun h => ?_) | refine br_ndec (fun h => ?_) (fun h => ?_) | refine br_ne (fun h => ?_) (fun h => ?_) | refine br_eq (fun h => ?_) (fun h => ?_)) <;> first | (exfalso; omega) | conv => whnf)
      | (refine br_intro (fun h => ?_) (fun h => ?_) <;> conv => whnf)
      | ((first | refine need_in (by first | exact trivial | assumption | exact ⟨rfl, Nat.le_refl _⟩ | exact ⟨rfl, rfl⟩ | (simp only [inR]; omega) | omega | (simp only [roomP, true_and, and_true, List.length_take, List.length_drop, List.length_append, List.length_cons, List.length_nil, List.length_set, List.length_replicate]; omega) | (refine ⟨by first | exact trivial | rfl, by first | exact Nat.le_refl _ | omega | (simp; omega), ?_⟩; change roomP _ _ 1; simp only [roomP]; omega) | (change roomP _ _ 1; simp only [roomP]; omega) | (simp; omega) | (simp [inR]; omega) | (simp [inR]; done) | decide | (simp; done) | exact ⟨by first | omega | (simp; omega), by assumption⟩) ?_ | refine idx_nat (by omega) (fun x hx => ?_) | refine frz_auto ?_ | refine draw_plain ?_ | refine idx_intro (by first | omega | (simp; omega) | (simp; done)) (by first | omega | (simp; omega) | (simp; done)) (fun x hx => ?_)); conv => whnf)
    all_goals simp [rcL, *]
  · cases h
set_option maxRecDepth 100000 in
theorem ref08C_ok : SpecOk Try.prog 51 spRC := by
  refine spec_body (C := cxb2) mixed tbOk specsb2 (callN_ok (C := cxb2) mixed tbOk specsb2 FnsOk.nil 0) fnOk_ref08C ?_
  intro ys p r h hp
  unfold spRC at h
  split at h
  · rename_i id l
    cases h
    conv => whnf
    repeat' first
      | ((first | refine br_true (by first | with_reducible exact rfl | assumption | decide) ?_ | refine br_false (by first | with_reducible exact rfl | assumption | decide) ?_ | with_reducible first | refine br_kt (by assumption) ?_ | refine br_kf (by assumption) ?_ | refine br_nt (by assumption) ?_ | refine br_nf (by assumption) ?_ | refine br_et (by assumption) ?_ | refine br_ef (by assumption) ?_); conv => whnf)
      | ((with_reducible first | refine br_dec (fun h => ?_) (fun h => ?_) | refine br_ndec (fun h => ?_) (fun h => ?_) | refine br_ne (fun h => ?_) (fun h => ?_) | refine br_eq (fun h => ?_) (fun h => ?_)) <;> first | (exfalso; omega) | conv => whnf)
      | (refine br_intro (fun h => ?_) (fun h => ?_) <;> conv => whnf)
      | ((first | refine need_in (by first | exact trivial | assumption | exact ⟨rfl, Nat.le_refl _⟩ | exact ⟨rfl, rfl⟩ | (simp only [inR]; omega) | omega | (simp only [roomP, true_and, and_true, List.length_take, List.length_drop, List.length_append, List.length_cons, List.length_nil, List.length_set, List.length_replicate]; omega) | (refine ⟨by first | exact trivial | rfl, by first | exact Nat.le_refl _ | omega | (simp; omega), ?_⟩; change roomP _ _ 1; simp only [roomP]; omega) | (change roomP _ _ 1; simp only [roomP]; omega) | (simp; omega) | (simp [inR]; omega) | (simp [inR]; done) | decide | (simp; done) | exact ⟨by first | omega | (simp; omega), by assumption⟩) ?_ | refine idx_nat (by omega) (fun x hx => ?_) | refine frz_auto ?_ | refine draw_plain ?_ | refine idx_intro (by first | omega | (simp; omega) | (simp; done)) (by first | omega | (simp; omega) | (simp; done)) (fun x hx => ?_)); conv => whnf)
    all_goals simp [rcL, *]
  · cases h

/-! ### Levels, plain -/
/-- How many entries a run of a level may have. -/
def szL (b : Int) (i : Nat) : Int := b * (2 : Int) ^ i
/-- The fault of a run that comes to a level. -/
def fitE (r : runT.El) (most : Int) : Int := if (rcL r).2 ≠ 0 then (rcL r).2 else if r.2.1.length = 0 then 4 else if most < r.2.1.length then 3 else 0
def fitI (ids : List Int) (most : Int) (r : runT.El) : Int := if fitE r most ≠ 0 then fitE r most else if r.1 ∈ ids then 8 else 0
/-- The first fault of a level's runs. -/
def lcR (ids : List Int) (most : Int) : Int → List runT.El → Option (Int × Int)
  | _, [] => none
  | k, r :: rs => if fitI ids most r ≠ 0 then some (k, fitI ids most r) else lcR (ids ++ [r.1]) most (k + 1) rs
abbrev idR (r : runT.El) : Int := r.1
abbrev rsL (x : lvT.El) : List runT.El := x.1
/-- The first fault of levels. -/
def lcG (b : Int) (ids : List Int) : Nat → List lvT.El → Option (Int × Int × Int)
  | _, [] => none
  | i, x :: xs => if 2 < (rsL x).length then some ((i : Int), 0, 3) else match lcR ids (szL b i) 0 (rsL x) with
    | some (k, e) => some ((i : Int), k, e)
    | none => lcG b (ids ++ (rsL x).map idR) (i + 1) xs
def lastE (l : List lvT.El) : Bool := match l.getLast? with | some x => (rsL x).isEmpty | none => false
def chkL (b : Int) (l : List lvT.El) : Int × Int × Int :=
  if b < 1 ∨ 16 < b then (0, 0, 7) else if 12 < l.length then (0, 0, 3) else match lcG b [] 0 l with
    | some r => r
    | none => if lastE l = true then ((l.length : Int) - 1, 0, 6) else (0, 0, 0)
def inE (b : Int) (l : List lvT.El) (n : Int) : Int := if (chkL b l).2.2 ≠ 0 then (chkL b l).2.2 else if n < 0 ∨ 12 ≤ n then 7 else 0
/-- The runs of a level. -/
def ownL (l : List lvT.El) (n : Int) : List runT.El := match l[n.toNat]? with | some x => rsL x | none => []
/-- All runs, the newest one first. -/
def newL (l : List lvT.El) : List runT.El := l.flatMap fun x => (rsL x).reverse
/-- Levels without those at the end that have no runs. -/
def trimL (l : List lvT.El) : List lvT.El := (l.reverse.dropWhile fun x => (rsL x).isEmpty).reverse
def withL (l : List lvT.El) (n : Nat) (rs : List runT.El) : List lvT.El := trimL ((l ++ List.replicate (n + 1 - l.length) ([], ())).set n (rs, ()))
def entN (l : List runT.El) : Int := (l.map fun r => (r.2.1.length : Int)).sum
def arrL (b : Int) (l : List lvT.El) (n : Int) (r : runT.El) : Int × List lvT.El × Int :=
  if inE b l n ≠ 0 then (0, [], inE b l n) else if fitI ((newL l).map idR) (szL b n.toNat) r ≠ 0 then (0, [], fitI ((newL l).map idR) (szL b n.toNat) r) else if (ownL l n).length = 2 then (0, [], 5) else (b, withL l n.toNat (ownL l n ++ [r]), 0)
def leaL (b : Int) (l : List lvT.El) (n : Int) : (Int × List lvT.El) × List runT.El × Int :=
  if inE b l n ≠ 0 then ((0, []), [], inE b l n) else if (ownL l n).length = 0 then ((0, []), [], 4) else ((b, withL l n.toNat []), ownL l n, 0)
end Go.Proofs.Ytjinjnakedhmdaa
namespace Go.Proofs.Ytjinjnakedhmdaa
open Av Bk

/-- Lengths are numbers that a machine has. -/
def sizR (b n : Int) : Int × Int := if b < 1 ∨ 16 < b ∨ n < 0 ∨ 12 ≤ n then (0, 7) else (szL b n.toNat, 0)
theorem szL_succ (b : Int) (i : Nat) : szL b (i + 1) = 2 * szL b i := by
  unfold szL
  rw [Int.pow_succ]
  rw [Int.mul_comm 2, Int.mul_assoc]
theorem szL_bnd {b : Int} (h1 : 1 ≤ b) (h2 : b ≤ 16) {i : Nat} (hi : i ≤ 12) : 1 ≤ szL b i ∧ szL b i ≤ 65536 := by
  have h : ∀ i : Nat, i ≤ 12 → (1 : Int) ≤ 2 ^ i ∧ (2 : Int) ^ i ≤ 4096 := by
    intro i hi
    have : ∀ j : Fin 13, (1 : Int) ≤ 2 ^ j.val ∧ (2 : Int) ^ j.val ≤ 4096 := by decide
    exact this ⟨i, by omega⟩
  obtain ⟨h3, h4⟩ := h i hi
  unfold szL
  constructor
  · have := Int.mul_le_mul h1 h3 (by omega) (by omega)
    simpa using this
  · have := Int.mul_le_mul h2 h4 (by omega) (by omega)
    simpa using this
def spSize : DSpec
  | [.int .i64 b, .int .i64 n] => some (True, .tup [.int .i64 (sizR b n).1, .int .i64 (sizR b n).2])
  | _ => none
def spSz : DSpec
  | [.int .i64 b, .int .i64 n] => some (1 ≤ b ∧ b ≤ 16 ∧ n ≤ 12, .int .i64 (szL b n.toNat))
  | _ => none
set_option maxRecDepth 100000 in
theorem fnOk_lvSize : FnOk Try.prog 9 Try.f9 := ⟨by rfl, by kernel_rfl, by
  show okCode _ _ = true ∧ drawsOk _ = true
  exact ⟨by kernel_rfl, by kernel_rfl⟩⟩
set_option maxRecDepth 100000 in
set_option maxHeartbeats 2000000 in
theorem lvSize_ok : SpecOk Try.prog 9 spSize := by
  refine spec_body (C := cx0) mixed tbOk .nil (callN_ok (C := cx0) mixed tbOk .nil FnsOk.nil 0) fnOk_lvSize ?_
  intro ys p r h hp
  unfold spSize at h
  split at h
  · rename_i b n
    cases h
    by_cases hc : b < 1 ∨ 16 < b ∨ n < 0 ∨ 12 ≤ n
    · have hs : sizR b n = (0, 7) := if_pos hc
      conv => whnf
      repeat' first
        | ((first | refine idx_kn (by assumption) ?_ | refine idx_ki (by assumption) (by omega) ?_ | refine br_true (by first | with_reducible exact rfl | assumption | decide) ?_ | refine br_false (by first | with_reducible exact rfl | assumption | decide) ?_ | with_reducible first | refine br_kt (by assumption) ?_ | refine br_kf (by assumption) ?_ | refine br_nt (by assumption) ?_ | refine br_nf (by assumption) ?_ | refine br_et (by assumption) ?_ | refine br_ef (by assumption) ?_); conv => whnf)
        | ((with_reducible first | refine br_dec (fun h => ?_) (fun h => ?_) | refine br_ndec (fun h => ?_) (fun h => ?_) | refine br_ne (fun h => ?_) (fun h => ?_) | refine br_eq (fun h => ?_) (fun h => ?_)) <;> first | (exfalso; omega) | conv => whnf)
        | (refine br_intro (fun h => ?_) (fun h => ?_) <;> conv => whnf)
        | ((first | refine need_in (by first | exact trivial | assumption | exact ⟨rfl, Nat.le_refl _⟩ | exact ⟨rfl, rfl⟩ | (simp only [inR]; omega) | omega | (simp only [roomP, true_and, and_true, List.length_take, List.length_drop, List.length_append, List.length_cons, List.length_nil, List.length_set, List.length_replicate]; omega) | (refine ⟨by first | exact trivial | rfl, by first | exact Nat.le_refl _ | omega | (simp; omega), ?_⟩; change roomP _ _ 1; simp only [roomP]; omega) | (change roomP _ _ 1; simp only [roomP]; omega) | (simp; omega) | (simp [inR]; omega) | (simp [inR]; done) | decide | (simp; done) | exact ⟨by first | omega | (simp; omega), by assumption⟩) ?_ | refine idx_nat (by omega) (fun x hx => ?_) | refine frz_auto ?_ | refine draw_plain ?_ | refine idx_intro (by first | omega | (simp; omega) | (simp; done)) (by first | omega | (simp; omega) | (simp; done)) (fun x hx => ?_)); conv => whnf)
      all_goals first
        | (rw [hs]; done)
        | (rw [hs]; rfl)
        | (exfalso; omega)
    · have hs : sizR b n = (szL b n.toNat, 0) := if_neg hc
      have hb := szL_bnd (b := b) (by omega) (by omega) (i := n.toNat) (by omega)
      have hin : inR .i64 (b * 2 ^ n.toNat) := by
        unfold szL at hb
        exact ⟨by omega, by omega⟩
      conv => whnf
      repeat' first
        | ((first | refine idx_kn (by assumption) ?_ | refine idx_ki (by assumption) (by omega) ?_ | refine br_true (by first | with_reducible exact rfl | assumption | decide) ?_ | refine br_false (by first | with_reducible exact rfl | assumption | decide) ?_ | with_reducible first | refine br_kt (by assumption) ?_ | refine br_kf (by assumption) ?_ | refine br_nt (by assumption) ?_ | refine br_nf (by assumption) ?_ | refine br_et (by assumption) ?_ | refine br_ef (by assumption) ?_); conv => whnf)
        | ((with_reducible first | refine br_dec (fun h => ?_) (fun h => ?_) | refine br_ndec (fun h => ?_) (fun h => ?_) | refine br_ne (fun h => ?_) (fun h => ?_) | refine br_eq (fun h => ?_) (fun h => ?_)) <;> first | (exfalso; omega) | conv => whnf)
        | (refine br_intro (fun h => ?_) (fun h => ?_) <;> conv => whnf)
        | ((first | refine need_in (by first | exact trivial | assumption | exact ⟨rfl, Nat.le_refl _⟩ | exact ⟨rfl, rfl⟩ | (simp only [inR]; omega) | omega | (simp only [roomP, true_and, and_true, List.length_take, List.length_drop, List.length_append, List.length_cons, List.length_nil, List.length_set, List.length_replicate]; omega) | (refine ⟨by first | exact trivial | rfl, by first | exact Nat.le_refl _ | omega | (simp; omega), ?_⟩; change roomP _ _ 1; simp only [roomP]; omega) | (change roomP _ _ 1; simp only [roomP]; omega) | (simp; omega) | (simp [inR]; omega) | (simp [inR]; done) | decide | (simp; done) | exact ⟨by first | omega | (simp; omega), by assumption⟩) ?_ | refine idx_nat (by omega) (fun x hx => ?_) | refine frz_auto ?_ | refine draw_plain ?_ | refine idx_intro (by first | omega | (simp; omega) | (simp; done)) (by first | omega | (simp; omega) | (simp; done)) (fun x hx => ?_)); conv => whnf)
      all_goals first
        | (refine need_in ⟨by omega, show n < 64 by omega, hin⟩ ?_; (conv => whnf); rw [hs]; rfl)
        | (exfalso; omega)
  · cases h
set_option maxRecDepth 100000 in
theorem fnOk_r15Sz : FnOk Try.prog 35 Try.f35 := ⟨by rfl, by kernel_rfl, by
  show okCode _ _ = true ∧ drawsOk _ = true
  exact ⟨by kernel_rfl, by kernel_rfl⟩⟩
set_option maxRecDepth 100000 in
set_option maxHeartbeats 2000000 in
theorem r15Sz_ok : SpecOk Try.prog 35 spSz := by
  refine spec_body (C := cx0) mixed tbOk .nil (callN_ok (C := cx0) mixed tbOk .nil FnsOk.nil 0) fnOk_r15Sz ?_
  intro ys p r h hp
  unfold spSz at h
  split at h
  · rename_i b n
    cases h
    obtain ⟨hb1, hb2, hn⟩ := hp
    conv => whnf
    refine loop_inv [] [0, 5] (fun vs h => ∃ i : Nat, vs = [.int .i64 (szL b i), .int .i64 (i : Int)] ∧ h = [] ∧ (i : Nat) ≤ n.toNat) (fun vs _ => match vs with | [_, .int _ k] => n.toNat - k.toNat | _ => 0) ?_
    conv => whnf
    refine ⟨⟨0, congrArg (fun x => [AV.int .i64 x, .int .i64 0]) (by unfold szL; simp), rfl, Nat.zero_le _⟩, ?_⟩
    rintro vs h' - ⟨i, rfl, rfl, hi⟩
    have hsz := szL_bnd hb1 hb2 (i := i) (by omega)
    by_cases hlt : (i : Int) < n
    · have hsu := szL_succ b i
      conv => whnf
      repeat' first
        | ((first | refine idx_kn (by assumption) ?_ | refine idx_ki (by assumption) (by omega) ?_ | refine br_true (by first | with_reducible exact rfl | assumption | decide) ?_ | refine br_false (by first | with_reducible exact rfl | assumption | decide) ?_ | with_reducible first | refine br_kt (by assumption) ?_ | refine br_kf (by assumption) ?_ | refine br_nt (by assumption) ?_ | refine br_nf (by assumption) ?_ | refine br_et (by assumption) ?_ | refine br_ef (by assumption) ?_); conv => whnf)
        | ((with_reducible first | refine br_dec (fun h => ?_) (fun h => ?_) | refine br_ndec (fun h => ?_) (fun h => ?_) | refine br_ne (fun h => ?_) (fun h => ?_) | refine br_eq (fun h => ?_) (fun h => ?_)) <;> first | (exfalso; omega) | conv => whnf)
        | (refine br_intro (fun h => ?_) (fun h => ?_) <;> conv => whnf)
        | ((first | refine need_in (by first | exact trivial | assumption | exact ⟨rfl, Nat.le_refl _⟩ | exact ⟨rfl, rfl⟩ | (simp only [inR]; omega) | omega | (simp only [roomP, true_and, and_true, List.length_take, List.length_drop, List.length_append, List.length_cons, List.length_nil, List.length_set, List.length_replicate]; omega) | (refine ⟨by first | exact trivial | rfl, by first | exact Nat.le_refl _ | omega | (simp; omega), ?_⟩; change roomP _ _ 1; simp only [roomP]; omega) | (change roomP _ _ 1; simp only [roomP]; omega) | (simp; omega) | (simp [inR]; omega) | (simp [inR]; done) | decide | (simp; done) | exact ⟨by first | omega | (simp; omega), by assumption⟩) ?_ | refine idx_nat (by omega) (fun x hx => ?_) | refine frz_auto ?_ | refine draw_plain ?_ | refine idx_intro (by first | omega | (simp; omega) | (simp; done)) (by first | omega | (simp; omega) | (simp; done)) (fun x hx => ?_)); conv => whnf)
      refine back_intro (by conv => whnf) rfl ⟨i + 1, congrArg (fun x => [AV.int .i64 x, .int .i64 ((i : Int) + 1)]) hsu.symm, rfl, by omega⟩ ?_
      show n.toNat - ((i : Int) + 1).toNat < n.toNat - (i : Int).toNat
      omega
    · have hin : i = n.toNat := by omega
      subst hin
      conv => whnf
      repeat' first
        | ((first | refine idx_kn (by assumption) ?_ | refine idx_ki (by assumption) (by omega) ?_ | refine br_true (by first | with_reducible exact rfl | assumption | decide) ?_ | refine br_false (by first | with_reducible exact rfl | assumption | decide) ?_ | with_reducible first | refine br_kt (by assumption) ?_ | refine br_kf (by assumption) ?_ | refine br_nt (by assumption) ?_ | refine br_nf (by assumption) ?_ | refine br_et (by assumption) ?_ | refine br_ef (by assumption) ?_); conv => whnf)
        | ((with_reducible first | refine br_dec (fun h => ?_) (fun h => ?_) | refine br_ndec (fun h => ?_) (fun h => ?_) | refine br_ne (fun h => ?_) (fun h => ?_) | refine br_eq (fun h => ?_) (fun h => ?_)) <;> first | (exfalso; omega) | conv => whnf)
        | (refine br_intro (fun h => ?_) (fun h => ?_) <;> conv => whnf)
        | ((first | refine need_in (by first | exact trivial | assumption | exact ⟨rfl, Nat.le_refl _⟩ | exact ⟨rfl, rfl⟩ | (simp only [inR]; omega) | omega | (simp only [roomP, true_and, and_true, List.length_take, List.length_drop, List.length_append, List.length_cons, List.length_nil, List.length_set, List.length_replicate]; omega) | (refine ⟨by first | exact trivial | rfl, by first | exact Nat.le_refl _ | omega | (simp; omega), ?_⟩; change roomP _ _ 1; simp only [roomP]; omega) | (change roomP _ _ 1; simp only [roomP]; omega) | (simp; omega) | (simp [inR]; omega) | (simp [inR]; done) | decide | (simp; done) | exact ⟨by first | omega | (simp; omega), by assumption⟩) ?_ | refine idx_nat (by omega) (fun x hx => ?_) | refine frz_auto ?_ | refine draw_plain ?_ | refine idx_intro (by first | omega | (simp; omega) | (simp; done)) (by first | omega | (simp; omega) | (simp; done)) (fun x hx => ?_)); conv => whnf)
  · cases h
noncomputable def cv1 : Cx := ⟨tb, [], [(35, spSz), (9, spSize)]⟩
theorem spv1 : SpecsOk Try.prog cv1.specs := .cons r15Sz_ok (.cons lvSize_ok .nil)
def leaR (b n : Int) : Int × Int := if b < 1 ∨ 16 < b ∨ n < 0 then (0, 7) else match (List.range 12).find? (fun i => decide (n ≤ szL b i)) with | some i => ((i : Int), 0) | none => (0, 3)
def spLeast : DSpec
  | [.int .i64 b, .int .i64 n] => some (True, .tup [.int .i64 (leaR b n).1, .int .i64 (leaR b n).2])
  | _ => none
theorem find_at {p : Nat → Bool} {m i : Nat} (hi : i < m) (hn : ∀ j, j < i → p j = false) (h : p i = true) : (List.range m).find? p = some i := by
  induction m with
  | zero => omega
  | succ m ih =>
    rw [List.range_succ, List.find?_append]
    by_cases hm : i < m
    · rw [ih hm]; rfl
    · have : i = m := by omega
      subst this
      have : (List.range i).find? p = none := List.find?_eq_none.2 (fun x hx => by rw [hn x (List.mem_range.1 hx)]; decide)
      rw [this]
      simp [h]
theorem find_no {p : Nat → Bool} {m : Nat} (hn : ∀ j, j < m → p j = false) : (List.range m).find? p = none :=
  List.find?_eq_none.2 (fun x hx => by rw [hn x (List.mem_range.1 hx)]; decide)
set_option maxRecDepth 100000 in
theorem fnOk_lvLeast : FnOk Try.prog 11 Try.f11 := ⟨by rfl, by kernel_rfl, by
  show okCode _ _ = true ∧ drawsOk _ = true
  exact ⟨by kernel_rfl, by kernel_rfl⟩⟩
set_option maxRecDepth 100000 in
set_option maxHeartbeats 2000000 in
theorem lvLeast_ok : SpecOk Try.prog 11 spLeast := by
  refine spec_body (C := cv1) mixed tbOk spv1 (callN_ok (C := cv1) mixed tbOk spv1 FnsOk.nil 0) fnOk_lvLeast ?_
  intro ys p r h hp
  unfold spLeast at h
  split at h
  · rename_i b n
    cases h
    by_cases hc : n < 0
    · have hs : leaR b n = (0, 7) := if_pos (.inr (.inr hc))
      conv => whnf
      repeat' first
        | ((first | refine idx_kn (by assumption) ?_ | refine idx_ki (by assumption) (by omega) ?_ | refine br_true (by first | with_reducible exact rfl | assumption | decide) ?_ | refine br_false (by first | with_reducible exact rfl | assumption | decide) ?_ | with_reducible first | refine br_kt (by assumption) ?_ | refine br_kf (by assumption) ?_ | refine br_nt (by assumption) ?_ | refine br_nf (by assumption) ?_ | refine br_et (by assumption) ?_ | refine br_ef (by assumption) ?_); conv => whnf)
        | ((with_reducible first | refine br_dec (fun h => ?_) (fun h => ?_) | refine br_ndec (fun h => ?_) (fun h => ?_) | refine br_ne (fun h => ?_) (fun h => ?_) | refine br_eq (fun h => ?_) (fun h => ?_)) <;> first | (exfalso; omega) | conv => whnf)
        | (refine br_intro (fun h => ?_) (fun h => ?_) <;> conv => whnf)
        | ((first | refine need_in (by first | exact trivial | assumption | exact ⟨rfl, Nat.le_refl _⟩ | exact ⟨rfl, rfl⟩ | (simp only [inR]; omega) | omega | (simp only [roomP, true_and, and_true, List.length_take, List.length_drop, List.length_append, List.length_cons, List.length_nil, List.length_set, List.length_replicate]; omega) | (refine ⟨by first | exact trivial | rfl, by first | exact Nat.le_refl _ | omega | (simp; omega), ?_⟩; change roomP _ _ 1; simp only [roomP]; omega) | (change roomP _ _ 1; simp only [roomP]; omega) | (simp; omega) | (simp [inR]; omega) | (simp [inR]; done) | decide | (simp; done) | exact ⟨by first | omega | (simp; omega), by assumption⟩) ?_ | refine idx_nat (by omega) (fun x hx => ?_) | refine frz_auto ?_ | refine draw_plain ?_ | refine idx_intro (by first | omega | (simp; omega) | (simp; done)) (by first | omega | (simp; omega) | (simp; done)) (fun x hx => ?_)); conv => whnf)
      all_goals first
        | (rw [hs]; done)
        | (rw [hs]; rfl)
        | (exfalso; omega)
    · conv => whnf
      repeat' first
        | ((first | refine idx_kn (by assumption) ?_ | refine idx_ki (by assumption) (by omega) ?_ | refine br_true (by first | with_reducible exact rfl | assumption | decide) ?_ | refine br_false (by first | with_reducible exact rfl | assumption | decide) ?_ | with_reducible first | refine br_kt (by assumption) ?_ | refine br_kf (by assumption) ?_ | refine br_nt (by assumption) ?_ | refine br_nf (by assumption) ?_ | refine br_et (by assumption) ?_ | refine br_ef (by assumption) ?_); conv => whnf)
        | ((with_reducible first | refine br_dec (fun h => ?_) (fun h => ?_) | refine br_ndec (fun h => ?_) (fun h => ?_) | refine br_ne (fun h => ?_) (fun h => ?_) | refine br_eq (fun h => ?_) (fun h => ?_)) <;> first | (exfalso; omega) | conv => whnf)
        | (refine br_intro (fun h => ?_) (fun h => ?_) <;> conv => whnf)
        | ((first | refine need_in (by first | exact trivial | assumption | exact ⟨rfl, Nat.le_refl _⟩ | exact ⟨rfl, rfl⟩ | (simp only [inR]; omega) | omega | (simp only [roomP, true_and, and_true, List.length_take, List.length_drop, List.length_append, List.length_cons, List.length_nil, List.length_set, List.length_replicate]; omega) | (refine ⟨by first | exact trivial | rfl, by first | exact Nat.le_refl _ | omega | (simp; omega), ?_⟩; change roomP _ _ 1; simp only [roomP]; omega) | (change roomP _ _ 1; simp only [roomP]; omega) | (simp; omega) | (simp [inR]; omega) | (simp [inR]; done) | decide | (simp; done) | exact ⟨by first | omega | (simp; omega), by assumption⟩) ?_ | refine idx_nat (by omega) (fun x hx => ?_) | refine frz_auto ?_ | refine draw_plain ?_ | refine idx_intro (by first | omega | (simp; omega) | (simp; done)) (by first | omega | (simp; omega) | (simp; done)) (fun x hx => ?_)); conv => whnf)
      refine loop_inv [] [10] (fun vs h => ∃ i : Nat, vs = [.int .i64 (i : Int)] ∧ h = [] ∧ i ≤ 12 ∧ (0 < i → ¬ (b < 1 ∨ 16 < b)) ∧ ∀ j, j < i → ¬ n ≤ szL b j) (fun vs _ => match vs with | [.int _ k] => 12 - k.toNat | _ => 0) ?_
      conv => whnf
      refine ⟨⟨0, rfl, rfl, Nat.zero_le _, fun h => by omega, fun j hj => by omega⟩, ?_⟩
      rintro vs h' - ⟨i, rfl, rfl, hi, hbb, hj⟩
      by_cases hlt : i < 12
      · by_cases hb : b < 1 ∨ 16 < b
        · have hs : leaR b n = (0, 7) := if_pos (by omega)
          have hz : (sizR b (i : Int)).2 = 7 := by unfold sizR; rw [if_pos (by omega)]
          conv => whnf
          repeat' first
            | ((first | refine idx_kn (by assumption) ?_ | refine idx_ki (by assumption) (by omega) ?_ | refine br_true (by first | with_reducible exact rfl | assumption | decide) ?_ | refine br_false (by first | with_reducible exact rfl | assumption | decide) ?_ | with_reducible first | refine br_kt (by assumption) ?_ | refine br_kf (by assumption) ?_ | refine br_nt (by assumption) ?_ | refine br_nf (by assumption) ?_ | refine br_et (by assumption) ?_ | refine br_ef (by assumption) ?_); conv => whnf)
            | ((with_reducible first | refine br_dec (fun h => ?_) (fun h => ?_) | refine br_ndec (fun h => ?_) (fun h => ?_) | refine br_ne (fun h => ?_) (fun h => ?_) | refine br_eq (fun h => ?_) (fun h => ?_)) <;> first | (exfalso; omega) | conv => whnf)
            | (refine br_intro (fun h => ?_) (fun h => ?_) <;> conv => whnf)
            | ((first | refine need_in (by first | exact trivial | assumption | exact ⟨rfl, Nat.le_refl _⟩ | exact ⟨rfl, rfl⟩ | (simp only [inR]; omega) | omega | (simp only [roomP, true_and, and_true, List.length_take, List.length_drop, List.length_append, List.length_cons, List.length_nil, List.length_set, List.length_replicate]; omega) | (refine ⟨by first | exact trivial | rfl, by first | exact Nat.le_refl _ | omega | (simp; omega), ?_⟩; change roomP _ _ 1; simp only [roomP]; omega) | (change roomP _ _ 1; simp only [roomP]; omega) | (simp; omega) | (simp [inR]; omega) | (simp [inR]; done) | decide | (simp; done) | exact ⟨by first | omega | (simp; omega), by assumption⟩) ?_ | refine idx_nat (by omega) (fun x hx => ?_) | refine frz_auto ?_ | refine draw_plain ?_ | refine idx_intro (by first | omega | (simp; omega) | (simp; done)) (by first | omega | (simp; omega) | (simp; done)) (fun x hx => ?_)); conv => whnf)
          all_goals first
            | (rw [hs, hz])
            | (exfalso; omega)
        · have hz1 : (sizR b (i : Int)).1 = szL b i := by unfold sizR; rw [if_neg (by omega)]; rfl
          have hz2 : (sizR b (i : Int)).2 = 0 := by unfold sizR; rw [if_neg (by omega)]
          have hs : leaR b n = match (List.range 12).find? (fun i => decide (n ≤ szL b i)) with | some i => ((i : Int), 0) | none => (0, 3) := if_neg (by omega)
          by_cases hle : n ≤ szL b i
          · rw [find_at hlt (fun j h => decide_eq_false (hj j h)) (decide_eq_true hle)] at hs
            conv => whnf
            repeat' first
              | ((first | refine idx_kn (by assumption) ?_ | refine idx_ki (by assumption) (by omega) ?_ | refine br_true (by first | with_reducible exact rfl | assumption | decide) ?_ | refine br_false (by first | with_reducible exact rfl | assumption | decide) ?_ | with_reducible first | refine br_kt (by assumption) ?_ | refine br_kf (by assumption) ?_ | refine br_nt (by assumption) ?_ | refine br_nf (by assumption) ?_ | refine br_et (by assumption) ?_ | refine br_ef (by assumption) ?_); conv => whnf)
              | ((with_reducible first | refine br_dec (fun h => ?_) (fun h => ?_) | refine br_ndec (fun h => ?_) (fun h => ?_) | refine br_ne (fun h => ?_) (fun h => ?_) | refine br_eq (fun h => ?_) (fun h => ?_)) <;> first | (exfalso; omega) | conv => whnf)
              | (refine br_intro (fun h => ?_) (fun h => ?_) <;> conv => whnf)
              | ((first | refine need_in (by first | exact trivial | assumption | exact ⟨rfl, Nat.le_refl _⟩ | exact ⟨rfl, rfl⟩ | (simp only [inR]; omega) | omega | (simp only [roomP, true_and, and_true, List.length_take, List.length_drop, List.length_append, List.length_cons, List.length_nil, List.length_set, List.length_replicate]; omega) | (refine ⟨by first | exact trivial | rfl, by first | exact Nat.le_refl _ | omega | (simp; omega), ?_⟩; change roomP _ _ 1; simp only [roomP]; omega) | (change roomP _ _ 1; simp only [roomP]; omega) | (simp; omega) | (simp [inR]; omega) | (simp [inR]; done) | decide | (simp; done) | exact ⟨by first | omega | (simp; omega), by assumption⟩) ?_ | refine idx_nat (by omega) (fun x hx => ?_) | refine frz_auto ?_ | refine draw_plain ?_ | refine idx_intro (by first | omega | (simp; omega) | (simp; done)) (by first | omega | (simp; omega) | (simp; done)) (fun x hx => ?_)); conv => whnf)
            all_goals first
              | (rw [hs])
              | (exfalso; omega)
          · conv => whnf
            repeat' first
              | ((first | refine idx_kn (by assumption) ?_ | refine idx_ki (by assumption) (by omega) ?_ | refine br_true (by first | with_reducible exact rfl | assumption | decide) ?_ | refine br_false (by first | with_reducible exact rfl | assumption | decide) ?_ | with_reducible first | refine br_kt (by assumption) ?_ | refine br_kf (by assumption) ?_ | refine br_nt (by assumption) ?_ | refine br_nf (by assumption) ?_ | refine br_et (by assumption) ?_ | refine br_ef (by assumption) ?_); conv => whnf)
              | ((with_reducible first | refine br_dec (fun h => ?_) (fun h => ?_) | refine br_ndec (fun h => ?_) (fun h => ?_) | refine br_ne (fun h => ?_) (fun h => ?_) | refine br_eq (fun h => ?_) (fun h => ?_)) <;> first | (exfalso; omega) | conv => whnf)
              | (refine br_intro (fun h => ?_) (fun h => ?_) <;> conv => whnf)
              | ((first | refine need_in (by first | exact trivial | assumption | exact ⟨rfl, Nat.le_refl _⟩ | exact ⟨rfl, rfl⟩ | (simp only [inR]; omega) | omega | (simp only [roomP, true_and, and_true, List.length_take, List.length_drop, List.length_append, List.length_cons, List.length_nil, List.length_set, List.length_replicate]; omega) | (refine ⟨by first | exact trivial | rfl, by first | exact Nat.le_refl _ | omega | (simp; omega), ?_⟩; change roomP _ _ 1; simp only [roomP]; omega) | (change roomP _ _ 1; simp only [roomP]; omega) | (simp; omega) | (simp [inR]; omega) | (simp [inR]; done) | decide | (simp; done) | exact ⟨by first | omega | (simp; omega), by assumption⟩) ?_ | refine idx_nat (by omega) (fun x hx => ?_) | refine frz_auto ?_ | refine draw_plain ?_ | refine idx_intro (by first | omega | (simp; omega) | (simp; done)) (by first | omega | (simp; omega) | (simp; done)) (fun x hx => ?_)); conv => whnf)
            refine back_intro (by conv => whnf) rfl ⟨i + 1, rfl, rfl, by omega, fun _ => hb, fun j h => ?_⟩ ?_
            · by_cases e : j = i
              · rw [e]; exact hle
              · exact hj j (by omega)
            · show 12 - ((i : Int) + 1).toNat < 12 - (i : Int).toNat
              omega
      · have hin : i = 12 := by omega
        subst hin
        have hs : leaR b n = match (List.range 12).find? (fun i => decide (n ≤ szL b i)) with | some i => ((i : Int), 0) | none => (0, 3) := if_neg (by have := hbb (by omega); omega)
        rw [find_no (fun j h => decide_eq_false (hj j h))] at hs
        conv => whnf
        repeat' first
          | ((first | refine idx_kn (by assumption) ?_ | refine idx_ki (by assumption) (by omega) ?_ | refine br_true (by first | with_reducible exact rfl | assumption | decide) ?_ | refine br_false (by first | with_reducible exact rfl | assumption | decide) ?_ | with_reducible first | refine br_kt (by assumption) ?_ | refine br_kf (by assumption) ?_ | refine br_nt (by assumption) ?_ | refine br_nf (by assumption) ?_ | refine br_et (by assumption) ?_ | refine br_ef (by assumption) ?_); conv => whnf)
          | ((with_reducible first | refine br_dec (fun h => ?_) (fun h => ?_) | refine br_ndec (fun h => ?_) (fun h => ?_) | refine br_ne (fun h => ?_) (fun h => ?_) | refine br_eq (fun h => ?_) (fun h => ?_)) <;> first | (exfalso; omega) | conv => whnf)
          | (refine br_intro (fun h => ?_) (fun h => ?_) <;> conv => whnf)
          | ((first | refine need_in (by first | exact trivial | assumption | exact ⟨rfl, Nat.le_refl _⟩ | exact ⟨rfl, rfl⟩ | (simp only [inR]; omega) | omega | (simp only [roomP, true_and, and_true, List.length_take, List.length_drop, List.length_append, List.length_cons, List.length_nil, List.length_set, List.length_replicate]; omega) | (refine ⟨by first | exact trivial | rfl, by first | exact Nat.le_refl _ | omega | (simp; omega), ?_⟩; change roomP _ _ 1; simp only [roomP]; omega) | (change roomP _ _ 1; simp only [roomP]; omega) | (simp; omega) | (simp [inR]; omega) | (simp [inR]; done) | decide | (simp; done) | exact ⟨by first | omega | (simp; omega), by assumption⟩) ?_ | refine idx_nat (by omega) (fun x hx => ?_) | refine frz_auto ?_ | refine draw_plain ?_ | refine idx_intro (by first | omega | (simp; omega) | (simp; done)) (by first | omega | (simp; omega) | (simp; done)) (fun x hx => ?_)); conv => whnf)
        all_goals first | (rw [hs]; done) | (rw [hs]; rfl)
  · cases h
end Go.Proofs.Ytjinjnakedhmdaa
