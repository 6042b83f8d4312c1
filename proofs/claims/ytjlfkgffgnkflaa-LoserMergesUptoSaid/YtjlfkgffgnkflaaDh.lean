/-
  Trees and their changes: plain laws, results by names.
-/
import Derived.Test.YtjlfkgffgnkflaaDg
namespace Go.Proofs.Ytjlfkgffgnkflaa
open Av Lz

def bK (ks : List keyT.El) : List keyT.El := if rightE ks = 0 then ks else []
def bL (ks : List keyT.El) : List intT.El := if rightE ks = 0 then loseL ks else []
def bW (ks : List keyT.El) : Int := if rightE ks = 0 then winI ks else 0
def spBuildB : DSpec
  | [.lst (.st [.str, .bool]) ks] => some (True, .tup [.agg [.lst keyT (bK ks), .lst intT (bL ks), .int .i64 (bW ks)], .int .i64 (rightE ks)])
  | _ => none
theorem spBuildB_eq : spBuildB = spBuild := rfl
theorem lBuildB_ok : SpecOk Try.prog 11 spBuildB := lBuild_ok
theorem rBuildB_ok : SpecOk Try.prog 12 spBuildB := rBuild_ok
def rK (ks : List keyT.El) (lo : List intT.El) (w : Int) (k : ByteArray) (d : Bool) : List keyT.El := rep0 (repE ks lo w (mkK k d)) (ks.set w.toNat (mkK k d)) []
def rL (ks : List keyT.El) (lo : List intT.El) (w : Int) (k : ByteArray) (d : Bool) : List intT.El := rep0 (repE ks lo w (mkK k d)) (loseL (ks.set w.toNat (mkK k d))) []
def rW (ks : List keyT.El) (lo : List intT.El) (w : Int) (k : ByteArray) (d : Bool) : Int := rep0 (repE ks lo w (mkK k d)) (winI (ks.set w.toNat (mkK k d))) 0
def rG (ks : List keyT.El) (lo : List intT.El) (w : Int) (k : ByteArray) (d : Bool) : Int := rep0 (repE ks lo w (mkK k d)) ((gm (ks.length + w.toNat) : Nat) : Int) 0
def spReplB : DSpec
  | [.agg [.lst (.st [.str, .bool]) ks, .lst (.int .i64) lo, .int .i64 w], .agg [.str k, .bool d]] => some (True, .tup [.agg [.lst keyT (rK ks lo w k d), .lst intT (rL ks lo w k d), .int .i64 (rW ks lo w k d)], .int .i64 (rG ks lo w k d), .int .i64 (repE ks lo w (mkK k d))])
  | _ => none
theorem lReplB_ok : SpecOk Try.prog 21 spReplB := lRepl_ok
theorem rReplB_ok : SpecOk Try.prog 22 spReplB := rRepl_ok
def oL (ks : List keyT.El) (lo : List intT.El) (w : Int) : List intT.El := rep0 (chkE ks lo w).2 (ordL ks) []
def spOrdB : DSpec
  | [.agg [.lst (.st [.str, .bool]) ks, .lst (.int .i64) lo, .int .i64 w]] => some (True, .tup [.lst intT (oL ks lo w), .int .i64 (chkE ks lo w).2])
  | _ => none
theorem lOrdB_ok : SpecOk Try.prog 16 spOrdB := lOrd_ok
def wP (ks : List keyT.El) (lo : List intT.El) (w : Int) : Int := if opE ks lo w = 0 then w else 0
def wK (ks : List keyT.El) (lo : List intT.El) (w : Int) : ByteArray := if opE ks lo w = 0 then (keyAt ks w).1 else ⟨#[]⟩
def spWinnerB : DSpec
  | [.agg [.lst (.st [.str, .bool]) ks, .lst (.int .i64) lo, .int .i64 w]] => some (True, .tup [.int .i64 (wP ks lo w), .str (wK ks lo w), .int .i64 (opE ks lo w)])
  | _ => none
theorem lWinnerB_ok : SpecOk Try.prog 19 spWinnerB := lWinner_ok

theorem bK_ok {ks : List keyT.El} (h : rightE ks = 0) : bK ks = ks := if_pos h
theorem bL_ok {ks : List keyT.El} (h : rightE ks = 0) : bL ks = loseL ks := if_pos h
theorem bW_ok {ks : List keyT.El} (h : rightE ks = 0) : bW ks = winI ks := if_pos h
theorem rightE_of {ks : List keyT.El} (h1 : 1 ≤ ks.length) (h2 : ks.length ≤ 32) (h3 : ∀ x ∈ ks, badK x = false) : rightE ks = 0 := by
  unfold rightE
  rw [if_neg (by omega), if_neg (by omega), if_neg]
  rw [List.any_eq_true]
  rintro ⟨x, hx, hb⟩
  rw [h3 x hx] at hb
  cases hb
theorem rightE_bad {ks : List keyT.El} (h : rightE ks = 0) : ∀ x ∈ ks, badK x = false := by
  intro x hx
  cases hb : badK x with
  | false => rfl
  | true =>
    unfold rightE at h
    split at h
    · cases h
    · split at h
      · cases h
      · rw [if_pos (List.any_eq_true.2 ⟨x, hx, hb⟩)] at h
        cases h
/-- What holds when a key has been replaced. -/
structure RepF (ks : List keyT.El) (lo : List intT.El) (w : Int) (k : ByteArray) (d : Bool) (q : Nat) : Prop where
  hlo : lo = loseL ks
  hw : w = (q : Int)
  win : q = (pl ks 1).1
  n1 : 1 ≤ ks.length
  n2 : ks.length ≤ 32
  hq : q < ks.length
  right : rightE (ks.set q (mkK k d)) = 0
  K : rK ks lo w k d = ks.set q (mkK k d)
  L : rL ks lo w k d = loseL (ks.set q (mkK k d))
  W : rW ks lo w k d = winI (ks.set q (mkK k d))
  G : rG ks lo w k d = ((gm (ks.length + q) : Nat) : Int)
theorem repF {ks : List keyT.El} {lo : List intT.El} {w : Int} {k : ByteArray} {d : Bool} (h : repE ks lo w (mkK k d) = 0) : ∃ q, RepF ks lo w k d q := by
  have h0 := h
  unfold repE at h
  by_cases hop : opE ks lo w = 0
  · rw [if_neg (by omega)] at h
    have hb : badK (mkK k d) = false := by
      cases hb : badK (mkK k d) with
      | false => rfl
      | true => rw [hb, if_pos rfl] at h; cases h
    obtain ⟨q, rfl, hq, hwin⟩ := win_lt (op_zero hop).1
    obtain ⟨hr, hlo, _⟩ := chk_zero (op_zero hop).1
    obtain ⟨h1, h2, _⟩ := rightE_ok hr
    have hbad := rightE_bad hr
    refine ⟨q, hlo, rfl, hwin, h1, h2, hq, ?_, ?_, ?_, ?_, ?_⟩
    · refine rightE_of (by rw [List.length_set]; exact h1) (by rw [List.length_set]; exact h2) fun x hx => ?_
      rcases List.mem_or_eq_of_mem_set hx with h | h
      · exact hbad x h
      · rw [h]; exact hb
    · simp only [rK, rep0, h0, if_true, Int.toNat_natCast]
    · simp only [rL, rep0, h0, if_true, Int.toNat_natCast]
    · simp only [rW, rep0, h0, if_true, Int.toNat_natCast]
    · simp only [rG, rep0, h0, if_true, Int.toNat_natCast]
  · rw [if_pos hop] at h
    exact absurd h hop
theorem rep_bad {ks : List keyT.El} {lo : List intT.El} {w : Int} {k : ByteArray} {d : Bool} (h : repE ks lo w (mkK k d) ≠ 0) : rK ks lo w k d = [] ∧ rG ks lo w k d = 0 := by
  simp only [rK, rG, rep0, if_neg h, and_self]
/-! ### How many losers part -/
def cdT (a b : List intT.El) (i : Nat) : Nat := ((List.range i).filter fun j => !(a[j]? == b[j]?)).length
theorem cdT_step (a b : List intT.El) (i : Nat) : cdT a b (i + 1) = if a[i]? = b[i]? then cdT a b i else cdT a b i + 1 := by
  unfold cdT
  rw [List.range_succ, List.filter_append, List.length_append]
  by_cases h : a[i]? = b[i]?
  · rw [if_pos h]; simp [h]
  · rw [if_neg h]; simp [h]
theorem cdT_le (a b : List intT.El) (i : Nat) : cdT a b i ≤ i := by
  unfold cdT
  have := List.length_filter_le (fun j => !(a[j]? == b[j]?)) (List.range i)
  simpa using this
theorem cdT_self (a : List intT.El) : ∀ i, cdT a a i = 0
  | 0 => rfl
  | i + 1 => by rw [cdT_step, if_pos rfl, cdT_self a i]
theorem cdT_set (a b : List intT.El) (j : Nat) (x : intT.El) : ∀ i, cdT (a.set j x) b i ≤ cdT a b i + if j < i then 1 else 0
  | 0 => by simp [cdT]
  | i + 1 => by
    have ih := cdT_set a b j x i
    rw [cdT_step, cdT_step]
    by_cases hj : j = i
    · subst hj
      rw [if_neg (Nat.lt_irrefl j)] at ih
      have e : (if j < j + 1 then 1 else 0) = 1 := if_pos (Nat.lt_succ_self j)
      rw [e]
      split <;> split <;> omega
    · rw [List.getElem?_set_ne hj]
      by_cases hlt : j < i
      · rw [if_pos hlt] at ih
        have e : (if j < i + 1 then 1 else 0) = 1 := if_pos (by omega)
        rw [e]
        split <;> omega
      · rw [if_neg hlt] at ih
        have e : (if j < i + 1 then 1 else 0) = 0 := if_neg (by omega)
        rw [e]
        split <;> omega
theorem LOm_cd {ks : List keyT.El} {k : keyT.El} {w : Nat} (hw : w < ks.length) : ∀ (c v e : Nat), v ≤ c → (ks.length + w) / 2 ^ e = v → 1 ≤ v →
    cdT (LOm ks (ks.set w k) v) (loseL ks) ks.length + gm v ≤ gm (ks.length + w) → cdT (LOm ks (ks.set w k) 1) (loseL ks) ks.length ≤ gm (ks.length + w)
  | 0, v, e, hc, _, h1, _ => by omega
  | c + 1, v, e, hc, he, h1, hs => by
    by_cases h2 : 2 ≤ v
    · refine LOm_cd hw c (v / 2) (e + 1) (by omega) (way_up he) (by omega) ?_
      rw [← LOm_set (ks := ks) (k := k) hw he h2]
      have h3 := cdT_set (LOm ks (ks.set w k) v) (loseL ks) (v / 2) ((pl (ks.set w k) (v / 2)).2 : Int) ks.length
      have h4 := gm_succ (m := v) (by omega)
      have h5 : (if v / 2 < ks.length then 1 else 0) ≤ 1 := by split <;> omega
      omega
    · have : v = 1 := by omega
      subst this
      omega
theorem lose_cd {ks : List keyT.El} {k : keyT.El} {w : Nat} (hw : w < ks.length) : cdT (loseL (ks.set w k)) (loseL ks) ks.length ≤ gm (ks.length + w) := by
  rw [← LOm_one ks (ks.set w k) (List.length_set ..)]
  refine LOm_cd hw _ (ks.length + w) 0 (Nat.le_refl _) (by simp) (by omega) ?_
  rw [LOm_top ks _ (by omega), cdT_self, Nat.zero_add]
  exact Nat.le_refl _
theorem gm_five {n q : Nat} (h1 : 1 ≤ n) (h2 : n ≤ 32) (hq : q < n) : gm (n + q) ≤ 5 := by
  have h := gm_pow _ _ (Nat.le_refl _) (show 1 ≤ n + q by omega)
  rcases Nat.lt_or_ge (gm (n + q)) 6 with h6 | h6
  · omega
  · have := Nat.pow_le_pow_right (show 0 < 2 by decide) h6
    omega
theorem gm_half {n q : Nat} (h1 : 1 ≤ n) (hq : q < n) (hg : 1 ≤ gm (n + q)) : 2 ^ (gm (n + q) - 1) < n := by
  have h := gm_pow _ _ (Nat.le_refl _) (show 1 ≤ n + q by omega)
  have e : 2 ^ gm (n + q) = 2 * 2 ^ (gm (n + q) - 1) := by
    rw [← Nat.pow_succ']
    congr 1
    omega
  omega
/-! ### The functions, as things of which nothing is known but what is said -/
structure LzF where
  bK : List keyT.El → List keyT.El
  bL : List keyT.El → List intT.El
  bW : List keyT.El → Int
  bE : List keyT.El → Int
  rK : List keyT.El → List intT.El → Int → ByteArray → Bool → List keyT.El
  rL : List keyT.El → List intT.El → Int → ByteArray → Bool → List intT.El
  rW : List keyT.El → List intT.El → Int → ByteArray → Bool → Int
  rG : List keyT.El → List intT.El → Int → ByteArray → Bool → Int
  rE : List keyT.El → List intT.El → Int → ByteArray → Bool → Int
  oL : List keyT.El → List intT.El → Int → List intT.El
  cN : List keyT.El → List intT.El → Int → Int
  cE : List keyT.El → List intT.El → Int → Int
  wP : List keyT.El → List intT.El → Int → Int
  wK : List keyT.El → List intT.El → Int → ByteArray
  wE : List keyT.El → List intT.El → Int → Int
def stdF : LzF := ⟨bK, bL, bW, rightE, rK, rL, rW, rG, fun ks lo w k d => repE ks lo w (mkK k d), oL, fun ks lo w => (chkE ks lo w).1, fun ks lo w => (chkE ks lo w).2, wP, wK, opE⟩
def spB (F : LzF) : DSpec
  | [.lst (.st [.str, .bool]) ks] => some (True, .tup [.agg [.lst keyT (F.bK ks), .lst intT (F.bL ks), .int .i64 (F.bW ks)], .int .i64 (F.bE ks)])
  | _ => none
def spR (F : LzF) : DSpec
  | [.agg [.lst (.st [.str, .bool]) ks, .lst (.int .i64) lo, .int .i64 w], .agg [.str k, .bool d]] => some (True, .tup [.agg [.lst keyT (F.rK ks lo w k d), .lst intT (F.rL ks lo w k d), .int .i64 (F.rW ks lo w k d)], .int .i64 (F.rG ks lo w k d), .int .i64 (F.rE ks lo w k d)])
  | _ => none
def spO (F : LzF) : DSpec
  | [.agg [.lst (.st [.str, .bool]) ks, .lst (.int .i64) lo, .int .i64 w]] => some (True, .tup [.lst intT (F.oL ks lo w), .int .i64 (F.cE ks lo w)])
  | _ => none
def spC (F : LzF) : DSpec
  | [.agg [.lst (.st [.str, .bool]) ks, .lst (.int .i64) lo, .int .i64 w]] => some (True, .tup [.int .i64 (F.cN ks lo w), .int .i64 (F.cE ks lo w)])
  | _ => none
def spW (F : LzF) : DSpec
  | [.agg [.lst (.st [.str, .bool]) ks, .lst (.int .i64) lo, .int .i64 w]] => some (True, .tup [.int .i64 (F.wP ks lo w), .str (F.wK ks lo w), .int .i64 (F.wE ks lo w)])
  | _ => none
theorem spB_ok {F : LzF} (h : F = stdF) : SpecOk Try.prog 11 (spB F) := by subst h; exact lBuild_ok
theorem spBr_ok {F : LzF} (h : F = stdF) : SpecOk Try.prog 12 (spB F) := by subst h; exact rBuild_ok
theorem spR_ok {F : LzF} (h : F = stdF) : SpecOk Try.prog 21 (spR F) := by subst h; exact lRepl_ok
theorem spRr_ok {F : LzF} (h : F = stdF) : SpecOk Try.prog 22 (spR F) := by subst h; exact rRepl_ok
theorem spO_ok {F : LzF} (h : F = stdF) : SpecOk Try.prog 16 (spO F) := by subst h; exact lOrd_ok
theorem spC_ok {F : LzF} (h : F = stdF) : SpecOk Try.prog 14 (spC F) := by subst h; exact lChkT_ok
theorem spW_ok {F : LzF} (h : F = stdF) : SpecOk Try.prog 19 (spW F) := by subst h; exact lWinner_ok
theorem spWr_ok {F : LzF} (h : F = stdF) : SpecOk Try.prog 20 (spW F) := by subst h; exact rWinner_ok
end Go.Proofs.Ytjlfkgffgnkflaa
