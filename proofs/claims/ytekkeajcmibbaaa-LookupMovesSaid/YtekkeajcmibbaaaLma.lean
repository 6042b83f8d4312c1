/-
  The pairs near a key: plain Lean.
-/
import Derived.Test.YtekkeajcmibbaaaLj
namespace Go.Proofs.Ytekkeajcmibbaaa
open Av Bk

def nP (q : pairT.El → Bool) : List pairT.El → Nat
  | [] => 0
  | p :: l => if q p = true then nP q l + 1 else 0
theorem nP_at {q : pairT.El → Bool} : ∀ {l : List pairT.El} {i : Nat}, (∀ p ∈ l.take i, q p = true) → i ≤ l.length → (i = l.length ∨ ∃ p, l[i]? = some p ∧ q p = false) → nP q l = i
  | [], i, _, h, _ => by simp at h; subst h; rfl
  | p :: l, 0, _, _, h => by
    rcases h with h | ⟨p', hp, hl⟩
    · simp at h
    · simp at hp; subst hp
      simp [nP, hl]
  | p :: l, i + 1, ht, hi, h => by
    have h0 := ht p (by simp)
    unfold nP
    rw [if_pos h0, nP_at (l := l) (i := i) (fun p hp => ht p (by simp [hp])) (by simpa using hi) (by simpa using h)]
def plcW (w : Bool) (k : ByteArray) (p : pairT.El) : Bool := match w with | true => !sLt k p.1 | false => sLt p.1 k
def nearO (w bh : Bool) (k : ByteArray) (m : List pairT.El) : Option pairT.El := match bh with
  | true => m[nP (plcW w k) m]?
  | false => if nP (plcW w k) m = 0 then none else m[nP (plcW w k) m - 1]?
def nearR (b : List entT.El) (rs : List runT.El) (k : ByteArray) (w bh : Bool) : pairT.El × Int :=
  if askE b rs k ≠ 0 then (mkP ⟨#[]⟩ ⟨#[]⟩, askE b rs k) else match nearO w bh k (mapL (allE b rs)) with
  | some p => (p, 0)
  | none => (mkP ⟨#[]⟩ ⟨#[]⟩, 4)
abbrev pairA (p : pairT.El) : AV := .agg [.str p.1, .str p.2.1]
theorem near_eq {p : pairT.El} {e : Int} {r : pairT.El × Int} (h : r = (p, e)) : AV.tup [pairA p, .int .i64 e] = AV.tup [pairA r.1, .int .i64 r.2] := by rw [h]
theorem near_ask {b : List entT.El} {rs : List runT.El} {k : ByteArray} {w bh : Bool} (h : askE b rs k ≠ 0) : nearR b rs k w bh = (mkP ⟨#[]⟩ ⟨#[]⟩, askE b rs k) := by unfold nearR; rw [if_pos h]
theorem near_go {b : List entT.El} {rs : List runT.El} {k : ByteArray} {w bh : Bool} (h : askE b rs k = 0) : nearR b rs k w bh = match nearO w bh k (mapL (allE b rs)) with | some p => (p, 0) | none => (mkP ⟨#[]⟩ ⟨#[]⟩, 4) := by unfold nearR; rw [if_neg (by simp [h])]
theorem plc_lt {w : Bool} {k : ByteArray} {p : pairT.El} (h : sLt p.1 k = true) : plcW w k p = true := by
  cases w with
  | false => exact h
  | true => show (!sLt k p.1) = true; rw [sLt_asym h]; rfl
theorem plc_eq {k : ByteArray} {p : pairT.El} (h : sEq p.1 k = true) : plcW true k p = true := by
  show (!sLt k p.1) = true
  rw [sEq_iff.1 h, sLt_irrefl]; rfl
theorem plc_no {w : Bool} {k : ByteArray} {p : pairT.El} (h : sLt p.1 k = false) (h2 : w = true → sEq p.1 k = false) : plcW w k p = false := by
  cases w with
  | false => exact h
  | true => show (!sLt k p.1) = false; rw [sLt_of h (sEq_no.1 (h2 rfl))]; rfl
theorem mapL_len (l : List entT.El) : (mapL l).length ≤ l.length := (mapF_len l).2
theorem near_some {o : Option pairT.El} {p : pairT.El} (h : o = some p) : AV.tup [pairA p, .int .i64 0] = AV.tup [pairA (match o with | some p => (p, (0 : Int)) | none => (mkP ⟨#[]⟩ ⟨#[]⟩, 4)).1, .int .i64 (match o with | some p => (p, (0 : Int)) | none => (mkP ⟨#[]⟩ ⟨#[]⟩, 4)).2] := by rw [h]
theorem near_none {o : Option pairT.El} (h : o = none) : AV.tup [pairA (mkP ⟨#[]⟩ ⟨#[]⟩), .int .i64 4] = AV.tup [pairA (match o with | some p => (p, (0 : Int)) | none => (mkP ⟨#[]⟩ ⟨#[]⟩, 4)).1, .int .i64 (match o with | some p => (p, (0 : Int)) | none => (mkP ⟨#[]⟩ ⟨#[]⟩, 4)).2] := by rw [h]
theorem near_b {w : Bool} {k : ByteArray} {m : List pairT.El} {i : Nat} (hn : nP (plcW w k) m = i) : nearO w true k m = m[i]? := by unfold nearO; rw [hn]
theorem near_f {w : Bool} {k : ByteArray} {m : List pairT.El} {i : Nat} (hn : nP (plcW w k) m = i) : nearO w false k m = if i = 0 then none else m[i - 1]? := by unfold nearO; rw [hn]
theorem near_ff {w : Bool} {k : ByteArray} {m : List pairT.El} {i : Nat} {x : pairT.El} (hn : nP (plcW w k) m = i) (h0 : 0 < i) (hx : m[((i : Int) - 1).toNat]? = some x) : nearO w false k m = some x := by
  rw [near_f hn, if_neg (by omega)]
  rw [show ((i : Int) - 1).toNat = i - 1 by omega] at hx
  exact hx
def spNear : DSpec
  | [.agg [.lst (.st [.str, .str, .bool, .int .i64]) b, .lst (.st [.int .i64, .sl (.st [.str, .str, .bool, .int .i64])]) rs], .str k, .bool w, .bool bh] => some (True, .tup [pairA (nearR b rs k w bh).1, .int .i64 (nearR b rs k w bh).2])
  | _ => none
def spNr (w bh : Bool) : DSpec
  | [.agg [.lst (.st [.str, .str, .bool, .int .i64]) b, .lst (.st [.int .i64, .sl (.st [.str, .str, .bool, .int .i64])]) rs], .str k] => some (True, .tup [pairA (nearR b rs k w bh).1, .int .i64 (nearR b rs k w bh).2])
  | _ => none
end Go.Proofs.Ytekkeajcmibbaaa
