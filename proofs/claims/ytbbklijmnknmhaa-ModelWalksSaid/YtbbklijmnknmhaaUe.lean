/-
  The map of a view: plain Lean.
  Differences: errors that are raised and caught.
  The first fault of a list whose keys are to ascend: plain Lean.
  Differences: the first fault of a list, by the code and by the reference.
  Differences: the first fault of a list, by the reference; the first fault of a map, by the code and by the reference.
  Differences of two maps: plain Lean.
  Checks of keys and entries.
  What the reference says of the order of strings.
  What the reference says of the order of strings and entries.
  From a row's arguments to the reckoning: whatever data come in, they are lists and tuples; a law that is reckoned to return true does so in the model.
  Ascending lists of entries: their first fault, by both.
  Checks of runs and of views.
  Keys, ranges; the error of a view and a key.
  Keys in ranges; the error of a view and a key; the order of strings.
  Differences of two maps, by the reference and by the code.
-/
import Derived.Test.YtbbklijmnknmhaaE5
import Derived.Test.YtbbklijmnknmhaaAw0
import Derived.ProofKit
import Derived.Deep.Slices
import Derived.Lib.SmallJoins
import Derived.ChangeMaps5
import Derived.OpenShut
namespace Go.Proofs.Ytbbklijmnknmhaa
open Av Bk

abbrev pairT : Ty := .st [.str, .str]
abbrev mkP (k v : ByteArray) : pairT.El := (k, v, ())
theorem sLt_trans {a b c : ByteArray} (h1 : sLt a b = true) (h2 : sLt b c = true) : sLt a c = true := bl_trans _ _ _ h1 h2
theorem sLt_irrefl (a : ByteArray) : sLt a a = false := bl_irrefl _
theorem sLt_asym {a b : ByteArray} (h : sLt a b = true) : sLt b a = false := by
 cases h2 : sLt b a with
 | false => rfl
 | true => exact absurd (sLt_trans h h2) (by rw [sLt_irrefl]; decide)
theorem sLt_ext {a b : ByteArray} (h1 : sLt a b = false) (h2 : sLt b a = false) : a = b := ByteArray.ext (Array.toList_inj.1 (bl_total _ _ h1 h2))
theorem sLt_ne {a b : ByteArray} (h : sLt a b = true) : a ≠ b := by
 rintro rfl
 rw [sLt_irrefl] at h
 cases h
theorem sLt_of {a b : ByteArray} (h : sLt a b = false) (hn : a ≠ b) : sLt b a = true := by
 cases h2 : sLt b a with
 | true => rfl
 | false => exact absurd (sLt_ext h h2) hn
theorem sEq_no {a b : ByteArray} : sEq a b = false ↔ a ≠ b := by
 cases h : sEq a b with
 | true => simp [sEq_iff.1 h]
 | false =>
  refine ⟨fun _ e => ?_, fun _ => rfl⟩
  rw [sEq_iff.2 e] at h
  cases h
/-! ### Ascending entries -/
def lb (key : ByteArray) : List entT.El → Nat
 | [] => 0
 | y :: l => if sLt y.1 key = true then lb key l + 1 else 0
/-! ### Ascending pairs -/
def ascP (l : List pairT.El) : Prop := l.Pairwise (fun a b => sLt a.1 b.1 = true)
def intoP : List pairT.El → pairT.El → List pairT.El
 | [], p => [p]
 | q :: l, p => if sLt q.1 p.1 = true then q :: intoP l p else p :: q :: l
theorem mem_into : ∀ {l : List pairT.El} {p x : pairT.El}, x ∈ intoP l p ↔ x = p ∨ x ∈ l
 | [], p, x => by simp [intoP]
 | q :: l, p, x => by
  unfold intoP
  split
  ·rw [List.mem_cons, mem_into, List.mem_cons]
   constructor
   ·rintro (h | h | h)
    ·exact .inr (.inl h)
    ·exact .inl h
    ·exact .inr (.inr h)
   ·rintro (h | h | h)
    ·exact .inr (.inl h)
    ·exact .inl h
    ·exact .inr (.inr h)
  ·rw [List.mem_cons]
theorem into_asc : ∀ {l : List pairT.El} {p : pairT.El}, ascP l → (∀ q ∈ l, q.1 ≠ p.1) → ascP (intoP l p)
 | [], p, _, _ => List.pairwise_singleton _ _
 | q :: l, p, ha, hn => by
  have ha' := List.pairwise_cons.1 ha
  unfold intoP
  split
  ·rename_i h
   refine List.pairwise_cons.2 ⟨fun x hx => ?_, into_asc ha'.2 (fun r hr => hn r (by simp [hr]))⟩
   rcases mem_into.1 hx with rfl | hx
   ·exact h
   ·exact ha'.1 x hx
  ·rename_i h
   have h : sLt q.1 p.1 = false := by simpa using h
   have h2 := sLt_of h (hn q (by simp))
   refine List.pairwise_cons.2 ⟨fun x hx => ?_, ha⟩
   rcases List.mem_cons.1 hx with rfl | hx
   ·exact h2
   ·exact sLt_trans h2 (ha'.1 x hx)
def lbP (k : ByteArray) : List pairT.El → Nat
 | [] => 0
 | p :: l => if sLt p.1 k = true then lbP k l + 1 else 0
theorem into_cut : ∀ (l : List pairT.El) (p : pairT.El), intoP l p = l.take (lbP p.1 l) ++ p :: l.drop (lbP p.1 l)
 | [], p => rfl
 | q :: l, p => by
  unfold intoP lbP
  split
  ·rw [into_cut l p]; rfl
  ·rfl
theorem lbP_at : ∀ {l : List pairT.El} {k : ByteArray} {i : Nat}, (∀ p ∈ l.take i, sLt p.1 k = true) → i ≤ l.length → (i = l.length ∨ ∃ p, l[i]? = some p ∧ sLt p.1 k = false) → lbP k l = i
 | [], k, i, _, h, _ => by simp at h; subst h; rfl
 | q :: l, k, 0, _, _, h => by
  rcases h with h | ⟨p, hp, hl⟩
  ·simp at h
  ·simp at hp; subst hp
   simp [lbP, hl]
 | q :: l, k, i + 1, ht, hi, h => by
  have h0 := ht q (by simp)
  unfold lbP
  rw [if_pos h0, lbP_at (l := l) (i := i) (fun p hp => ht p (by simp [hp])) (by simpa using hi) (by simpa using h)]
/-! ### The map of entries of which the first ones count -/
end Go.Proofs.Ytbbklijmnknmhaa
namespace Go.Proofs.Ytbbklijmnknmhaa
open Av Bk

end Go.Proofs.Ytbbklijmnknmhaa
namespace Go.Proofs.Ytbbklijmnknmhaa
open Av Bk

def fallK (pv : Option ByteArray) (k : ByteArray) : Bool := match pv with | some p => !sLt p k | none => false
def ckGo {α : Type} (err : α → Int) (key : α → ByteArray) (pv : Option ByteArray) (i : Int) : List α → Int × Int
 | [] => (0, 0)
 | x :: l => if err x ≠ 0 then (i, err x) else if fallK pv (key x) = true then (i, 6) else ckGo err key (some (key x)) (i + 1) l
def pvK {α : Type} (key : α → ByteArray) (l : List α) : Nat → Option ByteArray
 | 0 => none
 | j + 1 => (l[j]?).map key
section
variable {α : Type} {err : α → Int} {key : α → ByteArray}
theorem ckGo_step {l : List α} {i : Nat} {x : α} (hx : l[i]? = some x) : ckGo err key (pvK key l i) (i : Int) (l.drop i) = if err x ≠ 0 then ((i : Int), err x) else if fallK (pvK key l i) (key x) = true then ((i : Int), 6) else ckGo err key (pvK key l (i + 1)) ((i + 1 : Nat) : Int) (l.drop (i + 1)) := by
 have hi := (List.getElem?_eq_some_iff.1 hx).1
 have he := (List.getElem?_eq_some_iff.1 hx).2
 rw [List.drop_eq_getElem_cons hi, he]
 show (if err x ≠ 0 then _ else if fallK (pvK key l i) (key x) = true then _ else ckGo err key (some (key x)) ((i : Int) + 1) _) = _
 simp only [pvK, hx, Option.map_some]
 rfl
theorem ck_end {r : Int × Int} {l : List α} {i : Nat} (hc : r = ckGo err key (pvK key l i) (i : Int) (l.drop i)) (hi : l.length ≤ i) : r = (0, 0) := by
 rw [hc, List.drop_eq_nil_of_le hi]
 rfl
theorem ck_err {r : Int × Int} {l : List α} {i : Nat} {x : α} (hc : r = ckGo err key (pvK key l i) (i : Int) (l.drop i)) (hx : l[i]? = some x) (he : err x ≠ 0) : r = ((i : Int), err x) := by
 rw [hc, ckGo_step hx, if_pos he]
theorem ck_form {r : Int × Int} {l : List α} {i : Nat} {x p : α} (hc : r = ckGo err key (pvK key l i) (i : Int) (l.drop i)) (hx : l[i]? = some x) (he : err x = 0) (h0 : 0 < i) (hp : l[i - 1]? = some p) (hl : sLt (key p) (key x) = false) : r = ((i : Int), 6) := by
 obtain ⟨j, rfl⟩ : ∃ j, i = j + 1 := ⟨i - 1, by omega⟩
 have hp : l[j]? = some p := hp
 have hf : fallK (pvK key l (j + 1)) (key x) = true := by
  show fallK ((l[j]?).map key) (key x) = true
  rw [hp]
  show (!sLt (key p) (key x)) = true
  rw [hl]; rfl
 rw [hc, ckGo_step hx, if_neg (by simp [he]), if_pos hf]
theorem ck_next {r : Int × Int} {l : List α} {i : Nat} {x : α} (hc : r = ckGo err key (pvK key l i) (i : Int) (l.drop i)) (hx : l[i]? = some x) (he : err x = 0) (hl : i = 0 ∨ ∃ p, l[i - 1]? = some p ∧ sLt (key p) (key x) = true) : r = ckGo err key (pvK key l (i + 1)) ((i + 1 : Nat) : Int) (l.drop (i + 1)) := by
 have hf : ¬ fallK (pvK key l i) (key x) = true := by
  rcases hl with rfl | ⟨p, hp, hl⟩
  ·simp [pvK, fallK]
  ·cases i with
   | zero => simp [pvK, fallK]
   | succ j =>
    have hp : l[j]? = some p := hp
    show ¬ fallK ((l[j]?).map key) (key x) = true
    rw [hp]
    show ¬ (!sLt (key p) (key x)) = true
    rw [hl]; decide
 rw [hc, ckGo_step hx, if_neg (by simp [he]), if_neg hf]
def ascK (key : α → ByteArray) (l : List α) : Prop := l.Pairwise (fun a b => sLt (key a) (key b) = true)
theorem ckGo_zero : ∀ {l : List α} {pv : Option ByteArray} {i : Int}, (ckGo err key pv i l).2 = 0 → (∀ x ∈ l, err x = 0) ∧ ascK key l ∧ ∀ x ∈ l, fallK pv (key x) = false
 | [], pv, i, _ => ⟨by simp, List.Pairwise.nil, by simp⟩
 | x :: l, pv, i, h => by
  unfold ckGo at h
  by_cases he : err x ≠ 0
  ·rw [if_pos he] at h; exact absurd h he
  ·rw [if_neg he] at h
   by_cases hf : fallK pv (key x) = true
   ·rw [if_pos hf] at h; exact absurd (show (6 : Int) = 0 from h) (by decide)
   ·rw [if_neg hf] at h
    obtain ⟨h1, h2, h3⟩ := ckGo_zero h
    have hx : ∀ y ∈ l, sLt (key x) (key y) = true := fun y hy => by
     have := h3 y hy
     simp only [fallK] at this
     simpa using this
    refine ⟨?_, List.pairwise_cons.2 ⟨hx, h2⟩, ?_⟩
    ·intro y hy
     rcases List.mem_cons.1 hy with rfl | hy
     ·simpa using he
     ·exact h1 y hy
    ·intro y hy
     rcases List.mem_cons.1 hy with rfl | hy
     ·simpa using hf
     ·cases pv with
      | none => rfl
      | some p =>
       simp only [fallK, Bool.not_eq_true', Bool.not_eq_false'] at hf ⊢
       exact sLt_trans (by simpa using hf) (hx y hy)
theorem ckGo_good : ∀ {l : List α} {pv : Option ByteArray} {i : Int}, (∀ x ∈ l, err x = 0) → ascK key l → (∀ x ∈ l, fallK pv (key x) = false) → ckGo err key pv i l = (0, 0)
 | [], pv, i, _, _, _ => rfl
 | x :: l, pv, i, h1, h2, h3 => by
  unfold ckGo
  rw [if_neg (by simp [h1 x List.mem_cons_self]), if_neg (by simp [h3 x List.mem_cons_self])]
  obtain ⟨h4, h5⟩ := List.pairwise_cons.1 h2
  refine ckGo_good (fun y hy => h1 y (List.mem_cons_of_mem _ hy)) h5 (fun y hy => ?_)
  simp only [fallK, h4 y hy]
  rfl
end
abbrev itemT : Ty := .st [.int .i64, .str, .str, .str]
abbrev mkI (k : Int) (key old new : ByteArray) : itemT.El := (k, key, old, new, ())
def prE (x : pairT.El) : Int := if 32 < (x.1.size : Int) ∨ 64 < (x.2.1.size : Int) then 3 else 0
abbrev prK (x : pairT.El) : ByteArray := x.1
def mcL (l : List pairT.El) : Int × Int := if 4000 < (l.length : Int) then (-1, 5) else ckGo prE prK none 0 l
end Go.Proofs.Ytbbklijmnknmhaa
namespace Go.Proofs.Ytbbklijmnknmhaa
open Av Bk

end Go.Proofs.Ytbbklijmnknmhaa
namespace Go.Proofs.Ytbbklijmnknmhaa
open Av Bk

def spMC : DSpec
 | [.lst (.st [.str, .str]) l] => some (l.length ≤ 4611686018427387904, .tup [.int .i64 (mcL l).1, .int .i64 (mcL l).2])
 | _ => none
set_option maxRecDepth 100000 in
theorem fnOk_modelCheck : FnOk Try.prog 14 Try.f14 := ⟨by rfl, by kernel_rfl, by
 show okCode _ _ = true ∧ drawsOk _ = true
 exact ⟨by kernel_rfl, by kernel_rfl⟩⟩
set_option maxRecDepth 100000 in
set_option maxHeartbeats 4000000 in
theorem modelCheck_ok : SpecOk Try.prog 14 spMC := by
  refine spec_body (C := cx0) mixed tbOk SpecsOk.nil (callN_ok (C := cx0) mixed tbOk SpecsOk.nil FnsOk.nil 0) fnOk_modelCheck ?_
  intro ys p r h hp
  unfold spMC at h
  split at h
  · rename_i l
    cases h
    conv => whnf
    repeat' first | ((first | refine auIk ?_ | refine auIi ?_ | refine auT ?_ | refine auF ?_ | with_reducible first | refine auKt ?_ | refine auKf ?_ | refine auNt ?_ | refine auNf ?_ | refine auEt ?_ | refine auEf ?_); conv => whnf) | ((with_reducible first | refine br_dec ?_ ?_ | refine br_ndec ?_ ?_ | refine br_ne ?_ ?_ | refine br_eq ?_ ?_) <;> intro h <;> first | (exfalso; omega) | conv => whnf) | (refine br_intro ?_ ?_ <;> intro h <;> conv => whnf) | ((first | refine auNd ?_ | refine idx_nat (by omega) (fun x hx => ?_) | refine frz_auto ?_ | refine draw_plain ?_ | refine auIx (fun x hx => ?_)); conv => whnf)
    · rw [mcL, if_pos h]
    · have hcl : mcL l = ckGo prE prK (pvK prK l 0) ((0 : Nat) : Int) (l.drop 0) := by rw [mcL, if_neg h]; rfl
      refine loop_inv [] [11] (fun vs h => ∃ i : Nat, vs = [.int .i64 (i : Int)] ∧ h = [] ∧ i ≤ l.length ∧ mcL l = ckGo prE prK (pvK prK l i) (i : Int) (l.drop i)) (fun vs _ => match vs with | [.int _ k] => l.length - k.toNat | _ => 0) ?_
      conv => whnf
      refine ⟨⟨0, rfl, rfl, Nat.zero_le _, hcl⟩, ?_⟩
      clear hcl
      rintro vs h' - ⟨i, rfl, rfl, hi, hcl⟩
      by_cases hil : i < l.length
      · obtain ⟨y, hy⟩ : ∃ y, l[i]? = some y := ⟨_, List.getElem?_eq_getElem hil⟩
        have hi1 : ((i : Int) - 1).toNat = i - 1 := by omega
        conv => whnf
        repeat' first | ((first | refine auIk ?_ | refine auIi ?_ | refine auT ?_ | refine auF ?_ | with_reducible first | refine auKt ?_ | refine auKf ?_ | refine auNt ?_ | refine auNf ?_ | refine auEt ?_ | refine auEf ?_); conv => whnf) | ((with_reducible first | refine br_dec ?_ ?_ | refine br_ndec ?_ ?_ | refine br_ne ?_ ?_ | refine br_eq ?_ ?_) <;> intro h <;> first | (exfalso; omega) | conv => whnf) | (refine br_intro ?_ ?_ <;> intro h <;> conv => whnf) | ((first | refine auNd ?_ | refine idx_nat (by omega) (fun x hx => ?_) | refine frz_auto ?_ | refine draw_plain ?_ | refine auIx (fun x hx => ?_)); conv => whnf)
        all_goals try (rw [hi1] at hx)
        all_goals first
          | (refine (fun hE : prE y = 3 => ?_) ?_
             · exact tup_eq (by rw [ck_err hcl hy (by rw [hE]; decide), hE])
             · (simp [prE, *]; done))
          | (refine (fun hE : prE y = 0 => ?_) ?_
             · exact tup_eq (ck_form hcl hy hE (by omega) hx (by simpa using h))
             · (simp [prE, *]; done))
          | (refine (fun hE : prE y = 0 => ?_) ?_
             · refine back_intro (by conv => whnf) rfl ⟨i + 1, rfl, rfl, by omega, ck_next hcl hy hE (by first | exact .inl (by omega) | exact .inr ⟨x, hx, by simpa using h⟩)⟩ ?_
               show l.length - ((i : Int) + 1).toNat < l.length - (i : Int).toNat
               omega
             · (simp [prE, *]; done))
      · conv => whnf
        repeat' first | ((first | refine auIk ?_ | refine auIi ?_ | refine auT ?_ | refine auF ?_ | with_reducible first | refine auKt ?_ | refine auKf ?_ | refine auNt ?_ | refine auNf ?_ | refine auEt ?_ | refine auEf ?_); conv => whnf) | ((with_reducible first | refine br_dec ?_ ?_ | refine br_ndec ?_ ?_ | refine br_ne ?_ ?_ | refine br_eq ?_ ?_) <;> intro h <;> first | (exfalso; omega) | conv => whnf) | (refine br_intro ?_ ?_ <;> intro h <;> conv => whnf) | ((first | refine auNd ?_ | refine idx_nat (by omega) (fun x hx => ?_) | refine frz_auto ?_ | refine draw_plain ?_ | refine auIx (fun x hx => ?_)); conv => whnf)
        rw [ck_end hcl (by omega)]
  · cases h
set_option maxRecDepth 100000 in
theorem fnOk_r05Check : FnOk Try.prog 15 Try.f15 := ⟨by rfl, by kernel_rfl, by
 show okCode _ _ = true ∧ drawsOk _ = true
 exact ⟨by kernel_rfl, by kernel_rfl⟩⟩
set_option maxRecDepth 100000 in
set_option maxHeartbeats 4000000 in
theorem r05Check_ok : SpecOk Try.prog 15 spMC := by
  refine spec_body (C := cx0) mixed tbOk SpecsOk.nil (callN_ok (C := cx0) mixed tbOk SpecsOk.nil FnsOk.nil 0) fnOk_r05Check ?_
  intro ys p r h hp
  unfold spMC at h
  split at h
  · rename_i l
    cases h
    conv => whnf
    repeat' first | ((first | refine auIk ?_ | refine auIi ?_ | refine auT ?_ | refine auF ?_ | with_reducible first | refine auKt ?_ | refine auKf ?_ | refine auNt ?_ | refine auNf ?_ | refine auEt ?_ | refine auEf ?_); conv => whnf) | ((with_reducible first | refine br_dec ?_ ?_ | refine br_ndec ?_ ?_ | refine br_ne ?_ ?_ | refine br_eq ?_ ?_) <;> intro h <;> first | (exfalso; omega) | conv => whnf) | (refine br_intro ?_ ?_ <;> intro h <;> conv => whnf) | ((first | refine auNd ?_ | refine idx_nat (by omega) (fun x hx => ?_) | refine frz_auto ?_ | refine draw_plain ?_ | refine auIx (fun x hx => ?_)); conv => whnf)
    · rw [mcL, if_pos h]
    · have hcl : mcL l = ckGo prE prK (pvK prK l 0) ((0 : Nat) : Int) (l.drop 0) := by rw [mcL, if_neg h]; rfl
      refine loop_inv [] [4] (fun vs h => ∃ i : Nat, vs = [.int .i64 (i : Int)] ∧ h = [] ∧ i ≤ l.length ∧ mcL l = ckGo prE prK (pvK prK l i) (i : Int) (l.drop i)) (fun vs _ => match vs with | [.int _ k] => l.length - k.toNat | _ => 0) ?_
      conv => whnf
      refine ⟨⟨0, rfl, rfl, Nat.zero_le _, hcl⟩, ?_⟩
      clear hcl
      rintro vs h' - ⟨i, rfl, rfl, hi, hcl⟩
      by_cases hil : i < l.length
      · obtain ⟨y, hy⟩ : ∃ y, l[i]? = some y := ⟨_, List.getElem?_eq_getElem hil⟩
        have hi1 : ((i : Int) - 1).toNat = i - 1 := by omega
        conv => whnf
        repeat' first | ((first | refine auIk ?_ | refine auIi ?_ | refine auT ?_ | refine auF ?_ | with_reducible first | refine auKt ?_ | refine auKf ?_ | refine auNt ?_ | refine auNf ?_ | refine auEt ?_ | refine auEf ?_); conv => whnf) | ((with_reducible first | refine br_dec ?_ ?_ | refine br_ndec ?_ ?_ | refine br_ne ?_ ?_ | refine br_eq ?_ ?_) <;> intro h <;> first | (exfalso; omega) | conv => whnf) | (refine br_intro ?_ ?_ <;> intro h <;> conv => whnf) | ((first | refine auNd ?_ | refine idx_nat (by omega) (fun x hx => ?_) | refine frz_auto ?_ | refine draw_plain ?_ | refine auIx (fun x hx => ?_)); conv => whnf)
        all_goals try (rw [hi1] at hx)
        all_goals first
          | (refine (fun hE : prE y = 3 => ?_) ?_
             · exact tup_eq (by rw [ck_err hcl hy (by rw [hE]; decide), hE])
             · (simp [prE, *]; done))
          | (refine (fun hE : prE y = 0 => ?_) ?_
             · exact tup_eq (ck_form hcl hy hE (by omega) hx (by simpa using h))
             · (simp [prE, *]; done))
          | (refine (fun hE : prE y = 0 => ?_) ?_
             · refine back_intro (by conv => whnf) rfl ⟨i + 1, rfl, rfl, by omega, ck_next hcl hy hE (by first | exact .inl (by omega) | exact .inr ⟨x, hx, by simpa using h⟩)⟩ ?_
               show l.length - ((i : Int) + 1).toNat < l.length - (i : Int).toNat
               omega
             · (simp [prE, *]; done))
      · conv => whnf
        repeat' first | ((first | refine auIk ?_ | refine auIi ?_ | refine auT ?_ | refine auF ?_ | with_reducible first | refine auKt ?_ | refine auKf ?_ | refine auNt ?_ | refine auNf ?_ | refine auEt ?_ | refine auEf ?_); conv => whnf) | ((with_reducible first | refine br_dec ?_ ?_ | refine br_ndec ?_ ?_ | refine br_ne ?_ ?_ | refine br_eq ?_ ?_) <;> intro h <;> first | (exfalso; omega) | conv => whnf) | (refine br_intro ?_ ?_ <;> intro h <;> conv => whnf) | ((first | refine auNd ?_ | refine idx_nat (by omega) (fun x hx => ?_) | refine frz_auto ?_ | refine draw_plain ?_ | refine auIx (fun x hx => ?_)); conv => whnf)
        rw [ck_end hcl (by omega)]
  · cases h
end Go.Proofs.Ytbbklijmnknmhaa
namespace Go.Proofs.Ytbbklijmnknmhaa
open Av Bk

def goneI (x : pairT.El) : itemT.El := mkI 2 x.1 x.2.1 ⟨#[]⟩
def newI (y : pairT.El) : itemT.El := mkI 1 y.1 ⟨#[]⟩ y.2.1
def otherI (x y : pairT.El) : itemT.El := mkI 3 x.1 x.2.1 y.2.1
def insD (x : pairT.El) (rest : List pairT.El → List itemT.El) : List pairT.El → List itemT.El
 | [] => goneI x :: rest []
 | y :: b => if sLt x.1 y.1 = true then goneI x :: rest (y :: b) else if sLt y.1 x.1 = true then newI y :: insD x rest b else if sEq x.2.1 y.2.1 = true then rest b else otherI x y :: rest b
def diffL : List pairT.El → List pairT.El → List itemT.El
 | [], b => b.map newI
 | x :: a, b => insD x (diffL a) b
theorem diffL_nil_cons (y : pairT.El) (b : List pairT.El) : diffL [] (y :: b) = newI y :: diffL [] b := rfl
theorem diffL_cons_nil (x : pairT.El) (a : List pairT.El) : diffL (x :: a) [] = goneI x :: diffL a [] := rfl
theorem diffL_lt {x y : pairT.El} (a b : List pairT.El) (h : sLt x.1 y.1 = true) : diffL (x :: a) (y :: b) = goneI x :: diffL a (y :: b) := by
 show insD x (diffL a) (y :: b) = _
 rw [insD, if_pos h]
theorem diffL_gt {x y : pairT.El} (a b : List pairT.El) (h : sLt y.1 x.1 = true) : diffL (x :: a) (y :: b) = newI y :: diffL (x :: a) b := by
 show insD x (diffL a) (y :: b) = _
 rw [insD, if_neg (by rw [sLt_asym h]; decide), if_pos h]
 rfl
theorem diffL_eq {x y : pairT.El} (a b : List pairT.El) (h1 : sLt x.1 y.1 = false) (h2 : sLt y.1 x.1 = false) (h : sEq x.2.1 y.2.1 = true) : diffL (x :: a) (y :: b) = diffL a b := by
 show insD x (diffL a) (y :: b) = _
 rw [insD, if_neg (by rw [h1]; decide), if_neg (by rw [h2]; decide), if_pos h]
theorem diffL_ne {x y : pairT.El} (a b : List pairT.El) (h1 : sLt x.1 y.1 = false) (h2 : sLt y.1 x.1 = false) (h : sEq x.2.1 y.2.1 = false) : diffL (x :: a) (y :: b) = otherI x y :: diffL a b := by
 show insD x (diffL a) (y :: b) = _
 rw [insD, if_neg (by rw [h1]; decide), if_neg (by rw [h2]; decide), if_neg (by rw [h]; decide)]
theorem insD_len {x : pairT.El} {rest : List pairT.El → List itemT.El} {n : Nat} (h : ∀ b, (rest b).length ≤ n + b.length) : ∀ b, (insD x rest b).length ≤ n + 1 + b.length
 | [] => by have := h []; simp only [insD, List.length_cons, List.length_nil] at this ⊢; omega
 | y :: b => by
  have h1 := h (y :: b)
  have h2 := h b
  have h3 := insD_len (x := x) h b
  rw [insD]
  simp only [List.length_cons] at h1 ⊢
  split
  ·simp only [List.length_cons]; omega
  ·split
   ·simp only [List.length_cons]; omega
   ·split
    ·omega
    ·simp only [List.length_cons]; omega
theorem diffL_len : ∀ a b, (diffL a b).length ≤ a.length + b.length
 | [], b => by simp [diffL]
 | x :: a, b => by
  have := insD_len (x := x) (diffL_len a) b
  rw [List.length_cons]
  exact this
def dfR (a b : List pairT.El) : List itemT.El × Int := if (mcL a).2 ≠ 0 then ([], (mcL a).2) else if (mcL b).2 ≠ 0 then ([], (mcL b).2) else (diffL a b, 0)
theorem mcL_len {l : List pairT.El} (h : (mcL l).2 = 0) : l.length ≤ 4000 := by
 unfold mcL at h
 by_cases h1 : 4000 < (l.length : Int)
 ·rw [if_pos h1] at h; exact absurd (show (5 : Int) = 0 from h) (by decide)
 ·omega
def spDiff : DSpec
 | [.lst (.st [.str, .str]) a, .lst (.st [.str, .str]) b] => some (a.length ≤ 4611686018427387904 ∧ b.length ≤ 4611686018427387904, .tup [.lst itemT (dfR a b).1, .int .i64 (dfR a b).2])
 | _ => none
theorem df_eq {l : List itemT.El} {e : Int} {r : List itemT.El × Int} (h : r = (l, e)) : AV.tup [.lst itemT l, .int .i64 e] = AV.tup [.lst itemT r.1, .int .i64 r.2] := by rw [h]
end Go.Proofs.Ytbbklijmnknmhaa
namespace Go.Proofs.Ytbbklijmnknmhaa
open Av

set_option maxRecDepth 100000 in
theorem fnOk_keysCheck : FnOk Try.prog 91 Try.f91 := ⟨by rfl, by kernel_rfl, by
 show okCode _ _ = true ∧ drawsOk _ = true
 exact ⟨by kernel_rfl, by kernel_rfl⟩⟩
def spKey : DSpec
 | [.str k] => some (True, .int .i64 (bif decide (32 < (k.size : Int)) then 3 else 0))
 | _ => none
theorem keysCheck_ok : SpecOk Try.prog 91 spKey := by
 refine spec_body (C := cx0) mixed tbOk SpecsOk.nil (callN_ok (C := cx0) mixed tbOk SpecsOk.nil FnsOk.nil 0) fnOk_keysCheck ?_
 intro ys p r h hp
 unfold spKey at h
 split at h
 ·rename_i k
  cases h
  conv => whnf
  repeat' first | ((first | refine auT ?_ | refine auF ?_ | with_reducible first | refine auKt ?_ | refine auKf ?_ | refine auNt ?_ | refine auNf ?_ | refine auEt ?_ | refine auEf ?_); conv => whnf) | ((with_reducible first | refine br_dec ?_ ?_ | refine br_ndec ?_ ?_ | refine br_ne ?_ ?_ | refine br_eq ?_ ?_) <;> intro h <;> first | (exfalso; omega) | conv => whnf) | (refine br_intro ?_ ?_ <;> intro h <;> conv => whnf) | ((first | refine auNd ?_ | refine idx_nat (by omega) (fun x hx => ?_) | refine frz_auto ?_ | refine draw_plain ?_ | refine auIx (fun x hx => ?_)); conv => whnf)
  all_goals (refine congrArg (AV.int .i64) ?_; simp [*])
 ·cases h
end Go.Proofs.Ytbbklijmnknmhaa
namespace Go.Proofs.Ytbbklijmnknmhaa
open Av

end Go.Proofs.Ytbbklijmnknmhaa
namespace Go.Proofs.Ytbbklijmnknmhaa
open Av Bk

end Go.Proofs.Ytbbklijmnknmhaa
namespace Av
open Go Go.ChangeShapes Go.WideShapes Go.ChangeAt Go.RowKit Go.Joins Go.Deep

/-! ### Data that a program can hold -/
mutual
def tyOk : (t : Ty) → t.El → Prop
 | .bool, _ => True
 | .int k, n => inR k n
 | .str, s => ByteArray.size s ≤ 9223372036854775807
 | .sl e, l => let l' : List e.El := l; l'.length ≤ 9223372036854775807 ∧ ∀ x ∈ l', tyOk e x
 | .st fs, x => tyOks fs x
 | .ifc _ _, _ => True
 | .raw _, _ => True
def tyOks : (ts : List Ty) → Ty.Els ts → Prop
 | [], _ => True
 | t :: ts, x => tyOk t x.1 ∧ tyOks ts x.2
end
/-! The same, of a bounded size -/
mutual
def tyB (N : Nat) : (t : Ty) → t.El → Prop
 | .bool, _ => True
 | .int _, _ => True
 | .str, s => ByteArray.size s ≤ N
 | .sl e, l => let l' : List e.El := l; l'.length ≤ N ∧ ∀ x ∈ l', tyB N e x
 | .st fs, x => tyBs N fs x
 | .ifc _ _, _ => True
 | .raw _, _ => True
def tyBs (N : Nat) : (ts : List Ty) → Ty.Els ts → Prop
 | [], _ => True
 | t :: ts, x => tyB N t x.1 ∧ tyBs N ts x.2
end
mutual
theorem tyB_mono {N M : Nat} (h : N ≤ M) : ∀ (t : Ty) (e : t.El), tyB N t e → tyB M t e
 | .bool, _, _ => by simp only [tyB]
 | .int _, _, _ => by simp only [tyB]
 | .str, s, hs => by simp only [tyB] at hs ⊢; omega
 | .sl e, l, hl => by
  simp only [tyB] at hl ⊢
  exact ⟨Nat.le_trans hl.1 h, fun x hx => tyB_mono h e x (hl.2 x hx)⟩
 | .st fs, x, hx => by
  simp only [tyB] at hx ⊢
  exact tyBs_mono h fs x hx
 | .ifc _ _, _, _ => by simp only [tyB]
 | .raw _, _, _ => by simp only [tyB]
theorem tyBs_mono {N M : Nat} (h : N ≤ M) : ∀ (ts : List Ty) (e : Ty.Els ts), tyBs N ts e → tyBs M ts e
 | [], _, _ => by simp only [tyBs]
 | t :: ts, x, hx => by
  simp only [tyBs] at hx ⊢
  exact ⟨tyB_mono h t x.1 hx.1, tyBs_mono h ts x.2 hx.2⟩
end
structure Meas {H : Type} (m : DataW H → Nat) : Prop where
 str : ∀ b, b.length ≤ m (.lit (.string b))
 sl : ∀ es sp, es.length ≤ m (.slice es sp)
 slE : ∀ es sp d, d ∈ es → m d ≤ m (.slice es sp)
 agg : ∀ ps d, d ∈ ps → m d ≤ m (.agg ps)
def tyO {H : Type} (D : DataW H) (t : Ty) (e : t.El) : Prop := tyOk t e ∧ ∀ m : DataW H → Nat, Meas m → tyB (m D) t e
def tyOs {H : Type} (D : DataW H) (ts : List Ty) (e : Ty.Els ts) : Prop := tyOks ts e ∧ ∀ m : DataW H → Nat, Meas m → tyBs (m D) ts e
theorem tyOs_cons {H : Type} {D D1 : DataW H} {t : Ty} {ts : List Ty} {e : t.El} {es : Ty.Els ts} (h : ∀ m, Meas m → m D1 ≤ m D) (h1 : tyO D1 t e) (h2 : tyOs D ts es) : tyOs D (t :: ts) (e, es) :=
 ⟨by simp only [tyOks]; exact ⟨h1.1, h2.1⟩, fun m hm => by simp only [tyBs]; exact ⟨tyB_mono (h m hm) t e (h1.2 m hm), h2.2 m hm⟩⟩
theorem tyOs_nil {H : Type} {D : DataW H} : tyOs D [] () := ⟨by simp only [tyOks], fun m hm => by simp only [tyBs]⟩
def avT : (t : Ty) → t.El → AV
 | .bool, b => .bool b
 | .int k, n => .int k n
 | .str, s => .str s
 | .sl e, l => .lst e l
 | .st fs, x => .agg (flats fs x)
 | .ifc Ts ts, x => altV ts Ts x
 | .raw K, x => rawV K x
def avTs : (ts : List Ty) → Ty.Els ts → List AV
 | [], _ => []
 | t :: ts, x => avT t x.1 :: avTs ts x.2

/-! ### Which type of the program is which type of data -/
def chkGs (P : Program) (chk : TypeId → Ty → Bool) : List Field → List Ty → Nat → Bool
 | [], [], _ => true
 | f :: fs, t :: ts, off => Nat.beq f.offset off && (chk f.type t && chkGs P chk fs ts (off + t.size))
 | _, _, _ => false
def chkAr (chk : Ty → Bool) (z : Nat) : List Ty → Bool
 | [] => true
 | t :: ts => (Nat.beq t.size z && chk t) && chkAr chk z ts
def chkG (P : Program) : Nat → TypeId → Ty → Bool
 | 0, _, _ => false
 | d + 1, T, t => Nat.beq (P.cellsOf T) t.size && (Nat.ble 1 t.size && match t, P.underlying T with
  | .bool, some .bool => true
  | .int k, some (.int k') => decide (k = k')
  | .str, some .string => true
  | .sl e, some (.slice E) => chkG P d E e
  | .st ts, some (.struct gs) => chkGs P (chkG P d) gs.toList ts 0
  | .st ts, some (.array n E) => Nat.beq ts.length n && chkAr (chkG P d E) (P.cellsOf E) ts
  | _, _ => false)
def chkAll (P : Program) : List TypeId → List Ty → Bool
 | [], [] => true
 | T :: Ts, t :: ts => chkG P 50 T t && chkAll P Ts ts
 | _, _ => false

theorem wf_inR {k : IntKind} {n : Int} (h : (Lit.int k n).wf = true) : inR k n := by
 simp only [Lit.wf, Bool.and_eq_true, decide_eq_true_eq] at h
 cases k <;> simp [IntKind.min, IntKind.max, IntKind.bits, IntKind.signed] at h <;> simp only [inR] <;> omega
theorem exists_list {α : Type} {p : Nat → α → Prop} : ∀ (n : Nat), (∀ i, i < n → ∃ x, p i x) → ∃ l : List α, l.length = n ∧ ∀ i x, l[i]? = some x → p i x
 | 0, _ => ⟨[], rfl, fun i x h => by simp at h⟩
 | n + 1, h => by
  obtain ⟨l, hl, hp⟩ := exists_list n (fun i hi => h i (by omega))
  obtain ⟨x, hx⟩ := h n (by omega)
  refine ⟨l ++ [x], by simp [hl], fun i y hy => ?_⟩
  by_cases hi : i < l.length
  ·rw [List.getElem?_append_left hi] at hy; exact hp i y hy
  ·rw [List.getElem?_append_right (by omega)] at hy
   have h0 : i - l.length = 0 := by
    have := (List.getElem?_eq_some_iff.1 hy).1
    simp at this; omega
   rw [h0] at hy
   simp at hy
   subst hy
   rw [show i = n by omega]
   exact hx
theorem spot_none' {w : World} {a : Addr} {v : Value} (h : w.cell? a = some v) : a.spot = none := by
 unfold World.cell? at h
 split at h
 ·cases hs : a.spot with
  | none => rfl
  | some s => simp [hs] at h
 ·cases h
theorem add_at' {a : Addr} (h : a.spot = none) (k : Nat) : a.add k = ⟨a.block, a.off + k, none⟩ := by
 obtain ⟨b, o, s⟩ := a
 simp only at h
 subst h
 unfold Addr.add
 split <;> simp_all

section
variable {H : Type} {enc : TypeId × Value → H} {P : Program} {w : World} {base : Nat} {spare : Nat → Bool} {held : Bool}
theorem open_fs {s : St} {chk : TypeId → Ty → Bool} {n : Nat} {cs : List Value} {D : DataW H}
  (ih : ∀ (t : Ty) (T : TypeId) (cs : List Value) (x : DataW H × List MemPlace), chk T t = true → DataW.trod enc P w base spare held n T cs = some x → ∃ e : t.El, RT s t e (fun j => cs[j]?) ∧ tyO x.1 t e) :
  ∀ (gs : List Field) (ts : List Ty) (off : Nat), chkGs P chk gs ts off = true → (∀ f ∈ gs, ∃ y, DataW.trod enc P w base spare held n f.type ((cs.drop f.offset).take (P.cellsOf f.type)) = some y ∧ ∀ m, Meas m → m y.1 ≤ m D) → ∃ e : Ty.Els ts, RTs s ts e (fun j => cs[off + j]?) ∧ tyOs D ts e
 | [], [], _, _, _ => ⟨(), by simp only [RTs], tyOs_nil⟩
 | [], _ :: _, _, h, _ => by simp [chkGs] at h
 | _ :: _, [], _, h, _ => by simp [chkGs] at h
 | f :: gs, t :: ts, off, h, hf => by
  simp only [chkGs, Bool.and_eq_true] at h
  obtain ⟨h1, h2, h3⟩ := h
  obtain ⟨y, hy, hym⟩ := hf f (by simp)
  obtain ⟨e, he, hok⟩ := ih t f.type _ y h2 hy
  obtain ⟨es, hes, hoks⟩ := open_fs ih gs ts (off + t.size) h3 (fun g hg => hf g (by simp [hg]))
  have h1 := Nat.eq_of_beq_eq_true h1
  refine ⟨(e, es), ?_, ?_⟩
  ·simp only [RTs]
   refine ⟨RT_mono (Step.refl s) t e _ _ (fun j v hv => ?_) he, ?_⟩
   ·rw [List.getElem?_take] at hv
    split at hv
    ·rw [List.getElem?_drop, h1] at hv; exact hv
    ·cases hv
   ·simp only [← Nat.add_assoc]
    exact hes
  ·exact tyOs_cons hym hok hoks
theorem open_ar {s : St} {chk : Ty → Bool} {n z : Nat} {E : TypeId} {cs : List Value} {D : DataW H}
  (ih : ∀ (t : Ty) (cs : List Value) (x : DataW H × List MemPlace), chk t = true → DataW.trod enc P w base spare held n E cs = some x → ∃ e : t.El, RT s t e (fun j => cs[j]?) ∧ tyO x.1 t e) :
  ∀ (ts : List Ty) (k : Nat), chkAr chk z ts = true → (∀ i, i < ts.length → ∃ y, DataW.trod enc P w base spare held n E ((cs.drop ((k + i) * z)).take z) = some y ∧ ∀ m, Meas m → m y.1 ≤ m D) → ∃ e : Ty.Els ts, RTs s ts e (fun j => cs[k * z + j]?) ∧ tyOs D ts e
 | [], _, _, _ => ⟨(), by simp only [RTs], tyOs_nil⟩
 | t :: ts, k, h, hf => by
  simp only [chkAr, Bool.and_eq_true] at h
  obtain ⟨⟨h1, h2⟩, h3⟩ := h
  obtain ⟨y, hy, hym⟩ := hf 0 (by simp)
  obtain ⟨e, he, hok⟩ := ih t _ y h2 hy
  obtain ⟨es, hes, hoks⟩ := open_ar ih ts (k + 1) h3 (fun i hi => by
   have := hf (i + 1) (by simpa using hi)
   rwa [show k + (i + 1) = k + 1 + i by omega] at this)
  have h1 := Nat.eq_of_beq_eq_true h1
  refine ⟨(e, es), ?_, ?_⟩
  ·simp only [RTs]
   refine ⟨RT_mono (Step.refl s) t e _ _ (fun j v hv => ?_) he, ?_⟩
   ·rw [List.getElem?_take] at hv
    split at hv
    ·rw [List.getElem?_drop, Nat.add_zero] at hv; exact hv
    ·cases hv
   ·rw [h1]
    simp only [← Nat.add_assoc]
    rw [Nat.add_mul, Nat.one_mul] at hes
    exact hes
  ·exact tyOs_cons hym hok hoks
theorem open_ty {s : St} (hw : s.w = w) (hF : ∀ b, ¬ Own s b) : ∀ (d : Nat) (t : Ty) (T : TypeId) (fuel : Nat) (cs : List Value) (x : DataW H × List MemPlace), chkG P d T t = true → DataW.trod enc P w base spare held fuel T cs = some x → ∃ e : t.El, RT s t e (fun j => cs[j]?) ∧ tyO x.1 t e
 | 0, t, T, fuel, cs, x, h, _ => by simp [chkG] at h
 | d + 1, t, T, fuel, cs, x, h, hx => by
  simp only [chkG, Bool.and_eq_true] at h
  obtain ⟨hz, hq, h⟩ := h
  split at h
  ·rename_i hu
   obtain ⟨b, rfl, _⟩ := DataW.trod_bool hu hx
   exact ⟨b, by simp [RT], by simp only [tyOk], fun m hm => by simp only [tyB]⟩
  ·rename_i k k' hu
   have := of_decide_eq_true h
   subst this
   obtain ⟨b, rfl, _, hwf⟩ := DataW.trod_int hu hx
   exact ⟨b, by simp [RT], by simp only [tyOk]; exact wf_inR hwf, fun m hm => by simp only [tyB]⟩
  ·rename_i hu
   obtain ⟨b, rfl, rfl, hsz⟩ := DataW.trod_string hu hx
   exact ⟨b, by simp [RT], by simp only [tyOk]; exact hsz, fun m hm => by
    have h1 := hm.str b.data.toList
    simp only [tyB]
    have h2 : b.data.toList.length = b.size := rfl
    omega⟩
  ·rename_i e E hu
   have hcE : P.cellsOf E = e.size ∧ 1 ≤ e.size := by
    cases d with
    | zero => simp [chkG] at h
    | succ d =>
     simp only [chkG, Bool.and_eq_true] at h
     exact ⟨Nat.eq_of_beq_eq_true h.1, Nat.le_of_ble_eq_true h.2.1⟩
   rcases open_slice hu hx with ⟨rfl, _⟩ | ⟨a, len, cap, m, n, D, Pl, rfl, hb, hl, hm, hmm, rfl, hel⟩
   ·refine ⟨[], ?_, ?_, fun m hm => ?_⟩
    ·simp only [RT]
     exact ⟨none, 0, rfl, Nat.le_refl _, fun h => absurd rfl h⟩
    ·simp only [tyOk]
     exact ⟨by show 0 ≤ _; omega, fun x hx => by cases hx⟩
    ·simp only [tyB]
     exact ⟨Nat.zero_le _, fun x hx => by cases hx⟩
   ·have hlm : len ≤ m := by rw [hmm]; split <;> omega
    have hsp : 0 < len → a.spot = none := by
     intro h0
     obtain ⟨cs', h1, h2⟩ := hel 0 (by omega)
     rw [hcE.1] at h1
     obtain ⟨_, hlen, hc⟩ := World.cells?_some h1
     have hcell0 := hc 0 (by omega)
     rw [Deep.add_add, Nat.zero_mul, show a.add (0 + 0) = a from by simp [Addr.add]] at hcell0
     exact spot_none' (hcell0.trans (List.getElem?_eq_getElem (by omega)))
    have hall : ∀ i, i < len → ∃ y : e.El, (a.spot = none ∧ a.block < w.heap.size ∧ RT s e y (fun j => w.cell? ⟨a.block, a.off + i * e.size + j, none⟩)) ∧ tyO (D i) e y := by
     intro i hi
     obtain ⟨cs', h1, h2⟩ := hel i (by omega)
     obtain ⟨y, hy, hok⟩ := open_ty hw hF d e E n cs' _ h h2
     rw [hcE.1] at h1
     obtain ⟨_, hlen, hc⟩ := World.cells?_some h1
     have hsp := hsp (by omega)
     have hcell0 := hc 0 (by omega)
     rw [Deep.add_add] at hcell0
     have h0 : ∃ v, w.cell? (a.add (i * e.size + 0)) = some v := ⟨_, hcell0.trans (List.getElem?_eq_getElem (by omega))⟩
     obtain ⟨v0, h0⟩ := h0
     have hlt : a.block < w.heap.size := by
      have := World.block_lt_of_cell? w _ h0
      rw [add_at' hsp] at this
      exact this
     refine ⟨y, ⟨hsp, hlt, RT_mono (Step.refl s) e y _ _ (fun j v hv => ?_) hy⟩, hok⟩
     have hj : j < e.size := by have := (List.getElem?_eq_some_iff.1 hv).1; omega
     have h3 := hc j hj
     rw [Deep.add_add, add_at' hsp, ← Nat.add_assoc] at h3
     rw [h3]; exact hv
    obtain ⟨l, hll, hlp⟩ := exists_list len hall
    refine ⟨l, ?_, ?_, fun m' hm' => ?_⟩
    ·simp only [RT]
     refine ⟨some a, cap, by rw [hll]; rfl, by rw [hll]; exact hl, fun hne => ?_⟩
     have hpos : 0 < l.length := List.length_pos_iff.2 hne
     obtain ⟨⟨hsp, hlt, _⟩, _⟩ := hlp 0 _ (List.getElem?_eq_getElem hpos)
     refine ⟨a.block, a.off, ?_, by rw [hw]; exact hlt, hF _, fun i x hi => ?_⟩
     ·obtain ⟨b, o, sp⟩ := a
      simp only at hsp
      subst hsp
      rfl
     ·rw [hw]; exact (hlp i x hi).1.2.2
    ·simp only [tyOk]
     refine ⟨?_, fun x hx => ?_⟩
     ·show l.length ≤ _
      rw [hll]
      have : cap ≤ 9223372036854775807 := hm
      omega
     ·obtain ⟨i, hi⟩ := List.mem_iff_getElem?.1 hx
      exact (hlp i x hi).2.1
    ·simp only [tyB]
     refine ⟨?_, fun x hx => ?_⟩
     ·have := hm'.sl ((List.range len).map D) ((List.range (m - len)).map fun j => D (len + j))
      rw [List.length_map, List.length_range] at this
      show l.length ≤ _
      omega
     ·obtain ⟨i, hi⟩ := List.mem_iff_getElem?.1 hx
      have hil : i < len := by have := (List.getElem?_eq_some_iff.1 hi).1; omega
      exact tyB_mono (hm'.slE _ _ (D i) (List.mem_map.2 ⟨i, List.mem_range.2 hil, rfl⟩)) e x ((hlp i x hi).2.2 m' hm')
  ·rename_i ts gs hu
   obtain ⟨xs, n, rfl, rfl, hlen, hxl, hf⟩ := DataW.trod_struct hu hx
   obtain ⟨e, he, hok⟩ := open_fs (s := s) (cs := cs) (n := n) (fun t T cs x hc hx => open_ty hw hF d t T n cs x hc hx) gs.toList ts 0 h (fun f hfm => by
    obtain ⟨i, hi⟩ := List.mem_iff_getElem?.1 hfm
    rw [Array.getElem?_toList] at hi
    have h1 := hf i f hi
    have hlt : i < xs.length := by rw [hxl]; exact (Array.getElem?_eq_some_iff.1 hi).1
    rw [List.getElem?_eq_getElem hlt] at h1
    exact ⟨_, h1, fun m hm => hm.agg _ _ (List.mem_map.2 ⟨_, List.getElem_mem hlt, rfl⟩)⟩)
   refine ⟨e, ?_, by simp only [tyOk]; exact hok.1, fun m hm => by simp only [tyB]; exact hok.2 m hm⟩
   simp only [RT]
   simpa only [Nat.zero_add] using he
  ·rename_i ts n E hu
   rw [Bool.and_eq_true] at h
   obtain ⟨hn, h⟩ := h
   have hn := Nat.eq_of_beq_eq_true hn
   obtain ⟨xs, m, rfl, rfl, hlen, hxl, hf⟩ := DataW.trod_array hu hx
   obtain ⟨e, he, hok⟩ := open_ar (s := s) (cs := cs) (n := m) (E := E) (fun t cs x hc hx => open_ty hw hF d t E m cs x hc hx) ts 0 h (fun i hi => by
    have h1 := hf i (by omega)
    have hlt : i < xs.length := by omega
    rw [List.getElem?_eq_getElem hlt] at h1
    rw [Nat.zero_add]
    exact ⟨_, h1, fun m hm => hm.agg _ _ (List.mem_map.2 ⟨_, List.getElem_mem hlt, rfl⟩)⟩)
   refine ⟨e, ?_, by simp only [tyOk]; exact hok.1, fun m hm => by simp only [tyB]; exact hok.2 m hm⟩
   simp only [RT]
   simpa only [Nat.zero_mul, Nat.zero_add] using he
  ·cases h
theorem okWide_arr {P : Program} {w : World} {r : Reach} {base n : Nat} {T E : TypeId} {v : Value} (ht : P.underlying T = some (.array n E)) (h : Value.okWide P w r base T v) : ∃ cs, v = .agg cs ∧ cs.size = P.cellsOf T := by
 simp only [Value.okWide, ht] at h
 obtain ⟨cs, h1, h2, _⟩ := h
 exact ⟨cs, h1, h2⟩
theorem open_val {s : St} (hw : s.w = w) (hF : ∀ b, ¬ Own s b) {d : Nat} {t : Ty} {T : TypeId} {r : Reach} {b0 : Nat} {v : Value} {D : DataW H} {p : List MemPlace} (hc : chkG P d T t = true) (hv : Value.okWide P w r b0 T v) (h : DataW.Trod enc P w base spare held T v D p) : ∃ e : t.El, R s (avT t e) v ∧ tyO D t e := by
 obtain ⟨fuel, hx⟩ := h
 obtain ⟨e, he, hok⟩ := open_ty hw hF d t T fuel _ _ hc hx
 refine ⟨e, ?_, hok⟩
 cases d with
 | zero => simp [chkG] at hc
 | succ d =>
  simp only [chkG, Bool.and_eq_true] at hc
  obtain ⟨hz, hq, hc⟩ := hc
  split at hc
  ·rename_i hu
   obtain ⟨b, rfl, _⟩ := open_bool hu hv ⟨fuel, hx⟩
   simp only [RT, Value.cells] at he
   simp only [avT, R]
   simpa using he
  ·rename_i k k' hu
   have := of_decide_eq_true hc
   subst this
   obtain ⟨b, rfl, _⟩ := open_int hu hv ⟨fuel, hx⟩
   simp only [RT, Value.cells] at he
   simp only [avT, R]
   simpa using he
  ·rename_i hu
   obtain ⟨b, rfl⟩ := okWide_string hu hv
   simp only [RT, Value.cells] at he
   simp only [avT, R]
   simpa using he
  ·rename_i e' E hu
   obtain ⟨a, len, cap, rfl⟩ := okWide_slice hu hv
   simp only [RT, Value.cells] at he
   obtain ⟨a', cap', h0, hl, hr⟩ := he
   simp only [avT, R]
   refine ⟨a', cap', ?_, hl, hr⟩
   simpa using h0
  ·rename_i ts gs hu
   obtain ⟨cs, rfl, hsz⟩ := okWide_struct hu hv
   obtain ⟨_, _, _, _, hlen, _, _⟩ := DataW.trod_struct hu hx
   simp only [RT] at he
   have hrc := RTs_RC ts e _ he
   obtain ⟨vs, h1, h2, h3⟩ := RC_vals hrc
   have hts : cs.size = Ty.sizes ts := by
    have := Nat.eq_of_beq_eq_true hz
    rw [hsz, this]
    simp only [Ty.size]
   have hvs : vs.length = cs.size := by
    rw [RL_vals h1, hts]; exact flats_length ts e
   have : vs = cs.toList := by
    apply List.ext_getElem?
    intro j
    by_cases hj : j < vs.length
    ·have := h3 j _ (List.getElem?_eq_getElem hj)
     rw [List.getElem?_eq_getElem hj]
     exact this.symm
    ·rw [List.getElem?_eq_none (by omega), List.getElem?_eq_none (by simp; omega)]
   subst this
   simp only [avT, R]
   exact ⟨cs.toList, by simp, h1, h2⟩
  ·rename_i ts n E hu
   obtain ⟨cs, rfl, hsz⟩ := okWide_arr hu hv
   obtain ⟨_, _, _, _, hlen, _, _⟩ := DataW.trod_array hu hx
   simp only [RT] at he
   have hrc := RTs_RC ts e _ he
   obtain ⟨vs, h1, h2, h3⟩ := RC_vals hrc
   have hts : cs.size = Ty.sizes ts := by
    have := Nat.eq_of_beq_eq_true hz
    rw [hsz, this]
    simp only [Ty.size]
   have hvs : vs.length = cs.size := by
    rw [RL_vals h1, hts]; exact flats_length ts e
   have : vs = cs.toList := by
    apply List.ext_getElem?
    intro j
    by_cases hj : j < vs.length
    ·have := h3 j _ (List.getElem?_eq_getElem hj)
     rw [List.getElem?_eq_getElem hj]
     exact this.symm
    ·rw [List.getElem?_eq_none (by omega), List.getElem?_eq_none (by simp; omega)]
   subst this
   simp only [avT, R]
   exact ⟨cs.toList, by simp, h1, h2⟩
  ·cases hc
theorem open_all {s : St} (hw : s.w = w) (hF : ∀ b, ¬ Own s b) {r : Reach} {b0 : Nat} : ∀ (Ts : List TypeId) (ts : List Ty) (vs : List Value) (ds : List (DataW H)) (ps : List MemPlace), chkAll P Ts ts = true → (∀ (j : Nat) T v, Ts[j]? = some T → vs[j]? = some v → Value.okWide P w r b0 T v) →
  DataW.TrodAll enc P w base spare held Ts vs ds ps → ∃ es : Ty.Els ts, RL s (avTs ts es) vs ∧ tyOks ts es ∧ ∀ (m : DataW H → Nat) (N : Nat), Meas m → (∀ d ∈ ds, m d ≤ N) → tyBs N ts es
 | [], [], vs, ds, ps, _, _, h => by
  obtain ⟨rfl, rfl, rfl⟩ := trodAll_nil h
  exact ⟨(), by simp only [avTs, RL], by simp only [tyOks], fun m N hm hd => by simp only [tyBs]⟩
 | [], _ :: _, _, _, _, h, _, _ => by simp [chkAll] at h
 | _ :: _, [], _, _, _, h, _, _ => by simp [chkAll] at h
 | T :: Ts, t :: ts, vs, ds, ps, hc, hv, h => by
  simp only [chkAll, Bool.and_eq_true] at hc
  obtain ⟨v, vs', D, ds', p, q, rfl, rfl, rfl, h1, h2⟩ := trodAll_cons h
  obtain ⟨e, he, hok⟩ := open_val hw hF hc.1 (hv 0 T v rfl rfl) h1
  obtain ⟨es, hes, hoks, hbs⟩ := open_all hw hF Ts ts vs' ds' q hc.2 (fun j T v h1 h2 => hv (j + 1) T v (by simpa using h1) (by simpa using h2)) h2
  exact ⟨(e, es), by simp only [avTs, RL]; exact ⟨v, vs', rfl, he, hes⟩, by simp only [tyOks]; exact ⟨hok.1, hoks⟩, fun m N hm hd => by simp only [tyBs]; exact ⟨tyB_mono (hd D (by simp)) t e (hok.2 m hm), hbs m N hm (fun d h => hd d (by simp [h]))⟩⟩

end
end Av
namespace Go.Proofs.Ytbbklijmnknmhaa
open Av Bk

end Go.Proofs.Ytbbklijmnknmhaa
namespace Go.Proofs.Ytbbklijmnknmhaa
open Av Bk

abbrev runT : Ty := .st [.int .i64, .sl entT]
end Go.Proofs.Ytbbklijmnknmhaa
namespace Go.Proofs.Ytbbklijmnknmhaa
open Av Bk

set_option maxRecDepth 100000 in
theorem fnOk_ref02C : FnOk Try.prog 98 Try.f98 := ⟨by rfl, by kernel_rfl, by
 show okCode _ _ = true ∧ drawsOk _ = true
 exact ⟨by kernel_rfl, by kernel_rfl⟩⟩
set_option maxRecDepth 100000 in
theorem ref02C_ok : SpecOk Try.prog 98 spKey := by
 refine spec_body (C := cx0) mixed tbOk SpecsOk.nil (callN_ok (C := cx0) mixed tbOk SpecsOk.nil FnsOk.nil 0) fnOk_ref02C ?_
 intro ys p r h hp
 unfold spKey at h
 split at h
 ·rename_i k
  cases h
  conv => whnf
  repeat' first | ((first | refine auT ?_ | refine auF ?_ | with_reducible first | refine auKt ?_ | refine auKf ?_ | refine auNt ?_ | refine auNf ?_ | refine auEt ?_ | refine auEf ?_); conv => whnf) | ((with_reducible first | refine br_dec ?_ ?_ | refine br_ndec ?_ ?_ | refine br_ne ?_ ?_ | refine br_eq ?_ ?_) <;> intro h <;> first | (exfalso; omega) | conv => whnf) | (refine br_intro ?_ ?_ <;> intro h <;> conv => whnf) | ((first | refine auNd ?_ | refine idx_nat (by omega) (fun x hx => ?_) | refine frz_auto ?_ | refine draw_plain ?_ | refine auIx (fun x hx => ?_)); conv => whnf)
  all_goals (refine congrArg (AV.int .i64) ?_; simp [*])
 ·cases h
def keyE (k : ByteArray) : Int := bif decide (32 < (k.size : Int)) then 3 else 0
abbrev rgT : Ty := .st [.str, .str, .bool]
def rgE (lo hi : ByteArray) (bd : Bool) : Int := if keyE lo ≠ 0 then keyE lo else if keyE hi ≠ 0 then keyE hi else if bd = false ∧ sEq hi ⟨#[]⟩ = false then 6 else 0
def spRg : DSpec
 | [.agg [.str lo, .str hi, .bool bd]] => some (True, .int .i64 (rgE lo hi bd))
 | _ => none
set_option maxRecDepth 100000 in
theorem fnOk_keysRg : FnOk Try.prog 62 Try.f62 := ⟨by rfl, by kernel_rfl, by
 show okCode _ _ = true ∧ drawsOk _ = true
 exact ⟨by kernel_rfl, by kernel_rfl⟩⟩
set_option maxRecDepth 100000 in
theorem fnOk_keysAll : FnOk Try.prog 92 Try.f92 := ⟨by rfl, by kernel_rfl, by
 show okCode _ _ = true ∧ drawsOk _ = true
 exact ⟨by kernel_rfl, by kernel_rfl⟩⟩
set_option maxRecDepth 100000 in
theorem fnOk_ref02Rg : FnOk Try.prog 42 Try.f42 := ⟨by rfl, by kernel_rfl, by
 show okCode _ _ = true ∧ drawsOk _ = true
 exact ⟨by kernel_rfl, by kernel_rfl⟩⟩
set_option maxRecDepth 100000 in
theorem fnOk_ref02Two : FnOk Try.prog 77 Try.f77 := ⟨by rfl, by kernel_rfl, by
 show okCode _ _ = true ∧ drawsOk _ = true
 exact ⟨by kernel_rfl, by kernel_rfl⟩⟩
noncomputable def cxc1 : Cx := ⟨tb, [(92, Try.f92)], [(91, spKey)]⟩
theorem specsc1 : SpecsOk Try.prog cxc1.specs := .cons keysCheck_ok .nil
theorem fnsc1 : FnsOk Try.prog cxc1.fns := .cons fnOk_keysAll .nil
noncomputable def cxc2 : Cx := ⟨tb, [(77, Try.f77)], [(98, spKey)]⟩
theorem specsc2 : SpecsOk Try.prog cxc2.specs := .cons ref02C_ok .nil
theorem fnsc2 : FnsOk Try.prog cxc2.fns := .cons fnOk_ref02Two .nil
set_option maxRecDepth 100000 in
theorem keysRg_ok : SpecOk Try.prog 62 spRg := by
 refine spec_body (C := cxc1) mixed tbOk specsc1 (callN_ok (C := cxc1) mixed tbOk specsc1 fnsc1 3) fnOk_keysRg ?_
 intro ys p r h hp
 unfold spRg at h
 split at h
 ·rename_i lo hi bd
  cases h
  conv => whnf
  repeat' first | ((first | refine auT ?_ | refine auF ?_ | with_reducible first | refine auKt ?_ | refine auKf ?_ | refine auNt ?_ | refine auNf ?_ | refine auEt ?_ | refine auEf ?_); conv => whnf) | ((with_reducible first | refine br_dec ?_ ?_ | refine br_ndec ?_ ?_ | refine br_ne ?_ ?_ | refine br_eq ?_ ?_) <;> intro h <;> first | (exfalso; omega) | conv => whnf) | (refine br_intro ?_ ?_ <;> intro h <;> conv => whnf) | ((first | refine auNd ?_ | refine idx_nat (by omega) (fun x hx => ?_) | refine frz_auto ?_ | refine draw_plain ?_ | refine auIx (fun x hx => ?_)); conv => whnf)
  refine loop_turns 3 ?_
  conv => whnf
  repeat' first | ((first | refine auT ?_ | refine auF ?_ | with_reducible first | refine auKt ?_ | refine auKf ?_ | refine auNt ?_ | refine auNf ?_ | refine auEt ?_ | refine auEf ?_); conv => whnf) | ((with_reducible first | refine br_dec ?_ ?_ | refine br_ndec ?_ ?_ | refine br_ne ?_ ?_ | refine br_eq ?_ ?_) <;> intro h <;> first | (exfalso; omega) | conv => whnf) | (refine br_intro ?_ ?_ <;> intro h <;> conv => whnf) | ((first | refine auNd ?_ | refine idx_nat (by omega) (fun x hx => ?_) | refine frz_auto ?_ | refine draw_plain ?_ | refine auIx (fun x hx => ?_)); conv => whnf)
  all_goals (refine congrArg (AV.int .i64) ?_; cases bd <;> simp_all [rgE, keyE])
 ·cases h
set_option maxRecDepth 100000 in
theorem ref02Rg_ok : SpecOk Try.prog 42 spRg := by
 refine spec_body (C := cxc2) mixed tbOk specsc2 (callN_ok (C := cxc2) mixed tbOk specsc2 fnsc2 3) fnOk_ref02Rg ?_
 intro ys p r h hp
 unfold spRg at h
 split at h
 ·rename_i lo hi bd
  cases h
  conv => whnf
  repeat' first | ((first | refine auT ?_ | refine auF ?_ | with_reducible first | refine auKt ?_ | refine auKf ?_ | refine auNt ?_ | refine auNf ?_ | refine auEt ?_ | refine auEf ?_); conv => whnf) | ((with_reducible first | refine br_dec ?_ ?_ | refine br_ndec ?_ ?_ | refine br_ne ?_ ?_ | refine br_eq ?_ ?_) <;> intro h <;> first | (exfalso; omega) | conv => whnf) | (refine br_intro ?_ ?_ <;> intro h <;> conv => whnf) | ((first | refine auNd ?_ | refine idx_nat (by omega) (fun x hx => ?_) | refine frz_auto ?_ | refine draw_plain ?_ | refine auIx (fun x hx => ?_)); conv => whnf)
  all_goals (refine congrArg (AV.int .i64) ?_; cases bd <;> simp_all [rgE, keyE])
 ·cases h
end Go.Proofs.Ytbbklijmnknmhaa
namespace Go.Proofs.Ytbbklijmnknmhaa
open Av Bk

theorem sq_no {a : ByteArray} (h : (!sEq a a) = true) : False := by
 rw [sEq_refl] at h
 cases h
def hasB (lo hi : ByteArray) (bd : Bool) (k : ByteArray) : Bool := !sLt k lo && (!bd || sLt k hi)
def ordS (a b : ByteArray) : Int := if sLt a b = true then -1 else if sLt b a = true then 1 else 0
def spCmp : DSpec
 | [.str a, .str b] => some (True, .int .i64 (ordS a b))
 | _ => none
set_option maxRecDepth 100000 in
theorem fnOk_cmpStr : FnOk Try.prog 57 Try.f57 := ⟨by rfl, by kernel_rfl, by
 show okCode _ _ = true ∧ drawsOk _ = true
 exact ⟨by kernel_rfl, by kernel_rfl⟩⟩
set_option maxRecDepth 100000 in
theorem fnOk_isNaN : FnOk Try.prog 90 Try.f90 := ⟨by rfl, by kernel_rfl, by
 show okCode _ _ = true ∧ drawsOk _ = true
 exact ⟨by kernel_rfl, by kernel_rfl⟩⟩
noncomputable def cxd5 : Cx := ⟨tb, [(90, Try.f90)], []⟩
theorem fnsd5 : FnsOk Try.prog cxd5.fns := .cons fnOk_isNaN .nil
set_option maxRecDepth 100000 in
theorem cmpStr_ok : SpecOk Try.prog 57 spCmp := by
 refine spec_body (C := cxd5) mixed tbOk SpecsOk.nil (callN_ok (C := cxd5) mixed tbOk SpecsOk.nil fnsd5 3) fnOk_cmpStr ?_
 intro ys p r h hp
 unfold spCmp at h
 split at h
 ·rename_i a b
  cases h
  conv => whnf
  repeat' first | ((first | refine auT ?_ | refine auF ?_ | with_reducible first | refine auKt ?_ | refine auKf ?_ | refine auNt ?_ | refine auNf ?_ | refine auEt ?_ | refine auEf ?_); conv => whnf) | ((with_reducible first | refine br_dec ?_ ?_ | refine br_ndec ?_ ?_ | refine br_ne ?_ ?_ | refine br_eq ?_ ?_) <;> intro h <;> first | (exfalso; omega) | conv => whnf) | (refine br_intro ?_ ?_ <;> intro h <;> conv => whnf) | ((first | refine auNd ?_ | refine idx_nat (by omega) (fun x hx => ?_) | refine frz_auto ?_ | refine draw_plain ?_ | refine auIx (fun x hx => ?_)); conv => whnf)
  all_goals first
   | (exfalso; exact sq_no (by assumption))
   | (refine congrArg (AV.int .i64) ?_; simp only [ordS]; simp [*])
 ·cases h
end Go.Proofs.Ytbbklijmnknmhaa
namespace Go.Proofs.Ytbbklijmnknmhaa
open Av Bk

theorem own_u3 {id g n m : Nat} {c c' d d' : List pairT.El} (h : n = m) (hc : c = c') (hd : d = d') : [AV.lst pairT c, .lst pairT d, AV.own id g n] = [.lst pairT c', .lst pairT d', AV.own id g m] := by rw [h, hc, hd]
theorem tail_take {α : Type} {x : α} {l : List α} : List.take (((x :: l).length : Int).toNat - Int.toNat 1) (List.drop (Int.toNat 1) (x :: l)) = l := by simp
set_option maxRecDepth 100000 in
theorem fnOk_mDiff : FnOk Try.prog 19 Try.f19 := ⟨by rfl, by kernel_rfl, by
 show okCode _ _ = true ∧ drawsOk _ = true
 exact ⟨by kernel_rfl, by kernel_rfl⟩⟩
noncomputable def cxue2 : Cx := ⟨tb, [], [(14, spMC), (57, spCmp)]⟩
theorem specsue2 : SpecsOk Try.prog cxue2.specs := .cons modelCheck_ok (.cons cmpStr_ok .nil)
end Go.Proofs.Ytbbklijmnknmhaa
