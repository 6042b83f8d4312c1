/-
  The map of a view: plain Lean.
  The first fault of a list whose keys are to ascend: plain Lean.
  Differences of two maps: plain Lean.
  Tables: look-up and change by key. Plain Lean.
  Differences behind others: plain Lean.
  Tables: items applied one after the other, and in one go. Plain Lean.
  Checks of keys and entries.
  What the reference says of the order of strings.
  What the reference says of the order of strings and entries.
-/
import Derived.Test.YtdbnohpolknbbaaGreatE5
namespace Go.Proofs.YtdbnohpolknbbaaGreat
open Av Bk

abbrev pairT : Ty := .st [.str, .str]
abbrev mkP (k v : ByteArray) : pairT.El := (k, v, ())
theorem sLt_trans {a b c : ByteArray} (h1 : sLt a b = true) (h2 : sLt b c = true) : sLt a c = true := bl_trans _ _ _ h1 h2
theorem sLt_irrefl (a : ByteArray) : sLt a a = false := bl_irrefl _
theorem sLt_asym {a b : ByteArray} (h : sLt a b = true) : sLt b a = false := by
  cases h2 : sLt b a with
  | false => rfl
  | true => exact absurd (sLt_trans h h2) (by rw [sLt_irrefl]; decide)
theorem sLt_ext {a b : ByteArray} (h1 : sLt a b = false) (h2 : sLt b a = false) : a = b := ByteArray.ext (Array.toList_inj.1 (bl_total _ _ h1 h2))
theorem sLt_ne {a b : ByteArray} (h : sLt a b = true) : a ≠ b := by
  rintro rfl
  rw [sLt_irrefl] at h
  cases h
theorem sLt_of {a b : ByteArray} (h : sLt a b = false) (hn : a ≠ b) : sLt b a = true := by
  cases h2 : sLt b a with
  | true => rfl
  | false => exact absurd (sLt_ext h h2) hn
theorem sEq_no {a b : ByteArray} : sEq a b = false ↔ a ≠ b := by
  cases h : sEq a b with
  | true => simp [sEq_iff.1 h]
  | false =>
    refine ⟨fun _ e => ?_, fun _ => rfl⟩
    rw [sEq_iff.2 e] at h
    cases h
def firstK (l : List entT.El) (k : ByteArray) : Option entT.El := l.find? (fun x => sEq x.1 k)
theorem firstK_append (l m : List entT.El) (k : ByteArray) : firstK (l ++ m) k = (firstK l k).or (firstK m k) := List.find?_append ..
theorem firstK_one (x : entT.El) (k : ByteArray) : firstK [x] k = if x.1 = k then some x else none := by
  unfold firstK
  by_cases h : x.1 = k
  · rw [if_pos h, List.find?_cons_of_pos (by rw [sEq_iff]; exact h)]
  · rw [if_neg h, List.find?_cons_of_neg (by rw [sEq_iff]; exact h)]
    rfl
theorem firstK_some {l : List entT.El} {k : ByteArray} {x : entT.El} (h : firstK l k = some x) : x ∈ l ∧ x.1 = k := by
  unfold firstK at h
  exact ⟨List.mem_of_find?_eq_some h, sEq_iff.1 (List.find?_some (p := fun x : entT.El => sEq x.1 k) h)⟩
/-! ### Ascending entries -/
def ascS (l : List entT.El) : Prop := ∀ (k : Nat) (x y : entT.El), l[k]? = some x → l[k + 1]? = some y → sLt x.1 y.1 = true
/-- How many keys at the beginning are less than one. -/
def lb (key : ByteArray) : List entT.El → Nat
  | [] => 0
  | y :: l => if sLt y.1 key = true then lb key l + 1 else 0
theorem clGo_zero : ∀ {l : List entT.El} {i : Int} {pv : Option ByteArray}, (clGo pv i l).2 = 0 → (∀ x ∈ l, errX x = 0) ∧ ascS l ∧ ∀ x, l[0]? = some x → falls pv x = false
  | [], _, _, _ => ⟨by simp, fun k x y h => by simp at h, by simp⟩
  | y :: l, i, pv, h => by
    rw [clGo] at h
    split at h
    · rename_i he; exact absurd h he
    · rename_i he
      split at h
      · cases h
      · rename_i hf
        obtain ⟨h1, h2, h3⟩ := clGo_zero h
        refine ⟨fun x hx => ?_, fun k a b ha hb => ?_, fun x hx => ?_⟩
        · rcases List.mem_cons.1 hx with rfl | hx
          · simpa using he
          · exact h1 x hx
        · cases k with
          | zero =>
            cases ha
            have := h3 b (by simpa using hb)
            simpa [falls] using this
          | succ k => exact h2 k a b (by simpa using ha) (by simpa using hb)
        · cases hx
          simpa using hf
theorem clL_zero {l : List entT.El} (h : (clL l).2 = 0) : l.length ≤ 5000 ∧ (∀ x ∈ l, errX x = 0) ∧ ascS l := by
  unfold clL at h
  split at h
  · cases h
  · obtain ⟨h1, h2, _⟩ := clGo_zero h
    exact ⟨by omega, h1, h2⟩
/-! ### Ascending pairs -/
def ascP (l : List pairT.El) : Prop := l.Pairwise (fun a b => sLt a.1 b.1 = true)
def intoP : List pairT.El → pairT.El → List pairT.El
  | [], p => [p]
  | q :: l, p => if sLt q.1 p.1 = true then q :: intoP l p else p :: q :: l
theorem mem_into : ∀ {l : List pairT.El} {p x : pairT.El}, x ∈ intoP l p ↔ x = p ∨ x ∈ l
  | [], p, x => by simp [intoP]
  | q :: l, p, x => by
    unfold intoP
    split
    · rw [List.mem_cons, mem_into, List.mem_cons]
      constructor
      · rintro (h | h | h)
        · exact .inr (.inl h)
        · exact .inl h
        · exact .inr (.inr h)
      · rintro (h | h | h)
        · exact .inr (.inl h)
        · exact .inl h
        · exact .inr (.inr h)
    · rw [List.mem_cons]
theorem into_asc : ∀ {l : List pairT.El} {p : pairT.El}, ascP l → (∀ q ∈ l, q.1 ≠ p.1) → ascP (intoP l p)
  | [], p, _, _ => List.pairwise_singleton _ _
  | q :: l, p, ha, hn => by
    have ha' := List.pairwise_cons.1 ha
    unfold intoP
    split
    · rename_i h
      refine List.pairwise_cons.2 ⟨fun x hx => ?_, into_asc ha'.2 (fun r hr => hn r (by simp [hr]))⟩
      rcases mem_into.1 hx with rfl | hx
      · exact h
      · exact ha'.1 x hx
    · rename_i h
      have h : sLt q.1 p.1 = false := by simpa using h
      have h2 := sLt_of h (hn q (by simp))
      refine List.pairwise_cons.2 ⟨fun x hx => ?_, ha⟩
      rcases List.mem_cons.1 hx with rfl | hx
      · exact h2
      · exact sLt_trans h2 (ha'.1 x hx)
def lbP (k : ByteArray) : List pairT.El → Nat
  | [] => 0
  | p :: l => if sLt p.1 k = true then lbP k l + 1 else 0
theorem into_cut : ∀ (l : List pairT.El) (p : pairT.El), intoP l p = l.take (lbP p.1 l) ++ p :: l.drop (lbP p.1 l)
  | [], p => rfl
  | q :: l, p => by
    unfold intoP lbP
    split
    · rw [into_cut l p]; rfl
    · rfl
theorem lbP_at : ∀ {l : List pairT.El} {k : ByteArray} {i : Nat}, (∀ p ∈ l.take i, sLt p.1 k = true) → i ≤ l.length → (i = l.length ∨ ∃ p, l[i]? = some p ∧ sLt p.1 k = false) → lbP k l = i
  | [], k, i, _, h, _ => by simp at h; subst h; rfl
  | q :: l, k, 0, _, _, h => by
    rcases h with h | ⟨p, hp, hl⟩
    · simp at h
    · simp at hp; subst hp
      simp [lbP, hl]
  | q :: l, k, i + 1, ht, hi, h => by
    have h0 := ht q (by simp)
    unfold lbP
    rw [if_pos h0, lbP_at (l := l) (i := i) (fun p hp => ht p (by simp [hp])) (by simpa using hi) (by simpa using h)]
theorem asc_ext : ∀ {a b : List pairT.El}, ascP a → ascP b → (∀ p, p ∈ a ↔ p ∈ b) → a = b
  | [], [], _, _, _ => rfl
  | [], y :: b, _, _, h => absurd ((h y).2 (by simp)) (by simp)
  | x :: a, [], _, _, h => absurd ((h x).1 (by simp)) (by simp)
  | x :: a, y :: b, ha, hb, h => by
    have ha' := List.pairwise_cons.1 ha
    have hb' := List.pairwise_cons.1 hb
    have hxy : x = y := by
      rcases List.mem_cons.1 ((h x).1 (by simp)) with e | hx
      · exact e
      · rcases List.mem_cons.1 ((h y).2 (by simp)) with e | hy
        · exact e.symm
        · have h1 := hb'.1 x hx
          have h2 := ha'.1 y hy
          rw [sLt_asym h1] at h2
          cases h2
    subst hxy
    rw [asc_ext ha'.2 hb'.2 (fun p => ?_)]
    constructor
    · intro hp
      rcases List.mem_cons.1 ((h p).1 (by simp [hp])) with rfl | h1
      · have := ha'.1 p hp
        rw [sLt_irrefl] at this
        cases this
      · exact h1
    · intro hp
      rcases List.mem_cons.1 ((h p).2 (by simp [hp])) with rfl | h1
      · have := hb'.1 p hp
        rw [sLt_irrefl] at this
        cases this
      · exact h1
/-! ### The map of entries of which the first ones count -/
def metB (met : List ByteArray) (k : ByteArray) : Bool := met.any (fun m => sEq m k)
def mapStep (st : List ByteArray × List pairT.El) (x : entT.El) : List ByteArray × List pairT.El :=
  if metB st.1 x.1 = true then st else (st.1 ++ [x.1], if x.2.2.1 = true then st.2 else intoP st.2 (mkP x.1 x.2.1))
def mapF (l : List entT.El) : List ByteArray × List pairT.El := l.foldl mapStep ([], [])
def mapL (l : List entT.El) : List pairT.El := (mapF l).2
theorem mapF_snoc (l : List entT.El) (x : entT.El) : mapF (l ++ [x]) = mapStep (mapF l) x := by
  unfold mapF
  rw [List.foldl_append]
  rfl
def valE (o : Option entT.El) : Option ByteArray := match o with | some x => if x.2.2.1 = true then none else some x.2.1 | none => none
/-- The value of a key. -/
def getM (l : List entT.El) (k : ByteArray) : Option ByteArray := valE (firstK l k)
theorem list_snoc {α : Type} {p : List α → Prop} (h0 : p []) (h1 : ∀ l x, p l → p (l ++ [x])) : ∀ l, p l := by
  intro l
  suffices ∀ r : List α, p r.reverse by simpa using this l.reverse
  intro r
  induction r with
  | nil => exact h0
  | cons x r ih => rw [List.reverse_cons]; exact h1 _ _ ih
theorem getM_snoc (l : List entT.El) (x : entT.El) (k : ByteArray) : getM (l ++ [x]) k = if (firstK l k).isSome = true then getM l k else if x.1 = k then valE (some x) else none := by
  unfold getM
  rw [firstK_append, firstK_one]
  cases firstK l k with
  | some y => simp
  | none =>
    by_cases h : x.1 = k
    · simp [h]
    · simp [h, valE]
theorem mapF_inv : ∀ l : List entT.El, ascP (mapL l) ∧ (∀ p : pairT.El, p ∈ mapL l ↔ getM l p.1 = some p.2.1) ∧ ∀ k, metB (mapF l).1 k = (firstK l k).isSome := by
  refine list_snoc ⟨List.Pairwise.nil, fun p => ?_, fun k => rfl⟩ ?_
  · constructor
    · intro h; cases h
    · intro h; cases h
  · rintro l x ⟨ha, hm, hk⟩
    have hs := mapF_snoc l x
    have hkx := hk x.1
    unfold mapStep at hs
    by_cases hb : metB (mapF l).1 x.1 = true
    · rw [if_pos hb] at hs
      have hsm : (firstK l x.1).isSome = true := by rw [← hkx]; exact hb
      have hl : mapL (l ++ [x]) = mapL l := by unfold mapL; rw [hs]
      refine ⟨by rw [hl]; exact ha, fun p => ?_, fun k => ?_⟩
      · rw [hl, hm p, getM_snoc]
        by_cases h1 : (firstK l p.1).isSome = true
        · rw [if_pos h1]
        · rw [if_neg h1, if_neg (fun e => h1 (by rw [← e]; exact hsm))]
          have : firstK l p.1 = none := by simpa using h1
          unfold getM
          rw [this]
          simp [valE]
      · rw [hs, hk k, firstK_append, firstK_one, Option.isSome_or]
        by_cases h1 : x.1 = k
        · rw [← h1, hsm]; simp
        · simp [h1]
    · rw [if_neg hb] at hs
      have hno : firstK l x.1 = none := by
        rw [hkx] at hb
        simpa using hb
      have hnk : ∀ q ∈ mapL l, q.1 ≠ x.1 := by
        intro q hq e
        have := (hm q).1 hq
        unfold getM at this
        rw [e, hno] at this
        cases this
      refine ⟨?_, fun p => ?_, fun k => ?_⟩
      · unfold mapL
        rw [hs]
        simp only
        split
        · exact ha
        · exact into_asc ha hnk
      · have hl : mapL (l ++ [x]) = if x.2.2.1 = true then mapL l else intoP (mapL l) (mkP x.1 x.2.1) := by unfold mapL; rw [hs]
        rw [hl, getM_snoc]
        by_cases h1 : (firstK l p.1).isSome = true
        · rw [if_pos h1]
          have hne : x.1 ≠ p.1 := by
            intro e
            rw [← e, hno] at h1
            cases h1
          split
          · exact hm p
          · rw [mem_into, hm p]
            constructor
            · rintro (rfl | h)
              · exact absurd rfl hne
              · exact h
            · exact .inr
        · rw [if_neg h1]
          have hnp : firstK l p.1 = none := by simpa using h1
          have hnm : p ∉ mapL l := by
            intro h
            have := (hm p).1 h
            unfold getM at this
            rw [hnp] at this
            cases this
          by_cases he : x.1 = p.1
          · rw [if_pos he]
            simp only [valE]
            split
            · exact ⟨fun h => absurd h hnm, fun h => by cases h⟩
            · rw [mem_into]
              constructor
              · rintro (rfl | h)
                · rfl
                · exact absurd h hnm
              · intro h
                left
                obtain ⟨k, v, u⟩ := p
                simp only at he h
                cases h
                subst he
                rfl
          · rw [if_neg he]
            refine ⟨fun h => ?_, fun h => by cases h⟩
            split at h
            · exact absurd h hnm
            · rcases mem_into.1 h with rfl | h
              · exact absurd rfl he
              · exact absurd h hnm
      · have h2 : metB (mapF (l ++ [x])).1 k = (metB (mapF l).1 k || sEq x.1 k) := by
          rw [hs]
          simp [metB]
        rw [h2, hk k, firstK_append, firstK_one, Option.isSome_or]
        by_cases h1 : x.1 = k
        · simp [h1, sEq_iff.2]
        · simp [h1, sEq_no.2 h1]
theorem mapL_asc (l : List entT.El) : ascP (mapL l) := (mapF_inv l).1
theorem mapL_mem (l : List entT.El) (p : pairT.El) : p ∈ mapL l ↔ getM l p.1 = some p.2.1 := (mapF_inv l).2.1 p
/-- What has the same members, ascending, is the map. -/
theorem mapL_eq {l : List entT.El} {m : List pairT.El} (ha : ascP m) (h : ∀ p, p ∈ m ↔ getM l p.1 = some p.2.1) : m = mapL l :=
  asc_ext ha (mapL_asc l) (fun p => (h p).trans (mapL_mem l p).symm)
theorem getM_mem {l : List entT.El} {k v : ByteArray} (h : getM l k = some v) : ∃ x ∈ l, x.1 = k ∧ x.2.2.1 = false ∧ x.2.1 = v := by
  unfold getM at h
  cases hf : firstK l k with
  | none => rw [hf] at h; cases h
  | some x =>
    rw [hf] at h
    simp only [valE] at h
    split at h
    · cases h
    · rename_i hd
      obtain ⟨h1, h2⟩ := firstK_some hf
      exact ⟨x, h1, h2, by simpa using hd, by cases h; rfl⟩
end Go.Proofs.YtdbnohpolknbbaaGreat
namespace Go.Proofs.YtdbnohpolknbbaaGreat
open Av Bk

def fallK (pv : Option ByteArray) (k : ByteArray) : Bool := match pv with | some p => !sLt p k | none => false
def ckGo {α : Type} (err : α → Int) (key : α → ByteArray) (pv : Option ByteArray) (i : Int) : List α → Int × Int
  | [] => (0, 0)
  | x :: l => if err x ≠ 0 then (i, err x) else if fallK pv (key x) = true then (i, 6) else ckGo err key (some (key x)) (i + 1) l
def pvK {α : Type} (key : α → ByteArray) (l : List α) : Nat → Option ByteArray
  | 0 => none
  | j + 1 => (l[j]?).map key
section
variable {α : Type} {err : α → Int} {key : α → ByteArray}
theorem ckGo_step {l : List α} {i : Nat} {x : α} (hx : l[i]? = some x) : ckGo err key (pvK key l i) (i : Int) (l.drop i) = if err x ≠ 0 then ((i : Int), err x) else if fallK (pvK key l i) (key x) = true then ((i : Int), 6) else ckGo err key (pvK key l (i + 1)) ((i + 1 : Nat) : Int) (l.drop (i + 1)) := by
  have hi := (List.getElem?_eq_some_iff.1 hx).1
  have he := (List.getElem?_eq_some_iff.1 hx).2
  rw [List.drop_eq_getElem_cons hi, he]
  show (if err x ≠ 0 then _ else if fallK (pvK key l i) (key x) = true then _ else ckGo err key (some (key x)) ((i : Int) + 1) _) = _
  simp only [pvK, hx, Option.map_some]
  rfl
theorem ck_end {r : Int × Int} {l : List α} {i : Nat} (hc : r = ckGo err key (pvK key l i) (i : Int) (l.drop i)) (hi : l.length ≤ i) : r = (0, 0) := by
  rw [hc, List.drop_eq_nil_of_le hi]
  rfl
theorem ck_err {r : Int × Int} {l : List α} {i : Nat} {x : α} (hc : r = ckGo err key (pvK key l i) (i : Int) (l.drop i)) (hx : l[i]? = some x) (he : err x ≠ 0) : r = ((i : Int), err x) := by
  rw [hc, ckGo_step hx, if_pos he]
theorem ck_form {r : Int × Int} {l : List α} {i : Nat} {x p : α} (hc : r = ckGo err key (pvK key l i) (i : Int) (l.drop i)) (hx : l[i]? = some x) (he : err x = 0) (h0 : 0 < i) (hp : l[i - 1]? = some p) (hl : sLt (key p) (key x) = false) : r = ((i : Int), 6) := by
  obtain ⟨j, rfl⟩ : ∃ j, i = j + 1 := ⟨i - 1, by omega⟩
  have hp : l[j]? = some p := hp
  have hf : fallK (pvK key l (j + 1)) (key x) = true := by
    show fallK ((l[j]?).map key) (key x) = true
    rw [hp]
    show (!sLt (key p) (key x)) = true
    rw [hl]; rfl
  rw [hc, ckGo_step hx, if_neg (by simp [he]), if_pos hf]
theorem ck_next {r : Int × Int} {l : List α} {i : Nat} {x : α} (hc : r = ckGo err key (pvK key l i) (i : Int) (l.drop i)) (hx : l[i]? = some x) (he : err x = 0) (hl : i = 0 ∨ ∃ p, l[i - 1]? = some p ∧ sLt (key p) (key x) = true) : r = ckGo err key (pvK key l (i + 1)) ((i + 1 : Nat) : Int) (l.drop (i + 1)) := by
  have hf : ¬ fallK (pvK key l i) (key x) = true := by
    rcases hl with rfl | ⟨p, hp, hl⟩
    · simp [pvK, fallK]
    · cases i with
      | zero => simp [pvK, fallK]
      | succ j =>
        have hp : l[j]? = some p := hp
        show ¬ fallK ((l[j]?).map key) (key x) = true
        rw [hp]
        show ¬ (!sLt (key p) (key x)) = true
        rw [hl]; decide
  rw [hc, ckGo_step hx, if_neg (by simp [he]), if_neg hf]
/-- Keys ascend. -/
def ascK (key : α → ByteArray) (l : List α) : Prop := l.Pairwise (fun a b => sLt (key a) (key b) = true)
theorem ckGo_zero : ∀ {l : List α} {pv : Option ByteArray} {i : Int}, (ckGo err key pv i l).2 = 0 → (∀ x ∈ l, err x = 0) ∧ ascK key l ∧ ∀ x ∈ l, fallK pv (key x) = false
  | [], pv, i, _ => ⟨by simp, List.Pairwise.nil, by simp⟩
  | x :: l, pv, i, h => by
    unfold ckGo at h
    by_cases he : err x ≠ 0
    · rw [if_pos he] at h; exact absurd h he
    · rw [if_neg he] at h
      by_cases hf : fallK pv (key x) = true
      · rw [if_pos hf] at h; exact absurd (show (6 : Int) = 0 from h) (by decide)
      · rw [if_neg hf] at h
        obtain ⟨h1, h2, h3⟩ := ckGo_zero h
        have hx : ∀ y ∈ l, sLt (key x) (key y) = true := fun y hy => by
          have := h3 y hy
          simp only [fallK] at this
          simpa using this
        refine ⟨?_, List.pairwise_cons.2 ⟨hx, h2⟩, ?_⟩
        · intro y hy
          rcases List.mem_cons.1 hy with rfl | hy
          · simpa using he
          · exact h1 y hy
        · intro y hy
          rcases List.mem_cons.1 hy with rfl | hy
          · simpa using hf
          · cases pv with
            | none => rfl
            | some p =>
              simp only [fallK, Bool.not_eq_true', Bool.not_eq_false'] at hf ⊢
              exact sLt_trans (by simpa using hf) (hx y hy)
theorem ckGo_good : ∀ {l : List α} {pv : Option ByteArray} {i : Int}, (∀ x ∈ l, err x = 0) → ascK key l → (∀ x ∈ l, fallK pv (key x) = false) → ckGo err key pv i l = (0, 0)
  | [], pv, i, _, _, _ => rfl
  | x :: l, pv, i, h1, h2, h3 => by
    unfold ckGo
    rw [if_neg (by simp [h1 x List.mem_cons_self]), if_neg (by simp [h3 x List.mem_cons_self])]
    obtain ⟨h4, h5⟩ := List.pairwise_cons.1 h2
    refine ckGo_good (fun y hy => h1 y (List.mem_cons_of_mem _ hy)) h5 (fun y hy => ?_)
    simp only [fallK, h4 y hy]
    rfl
end
abbrev itemT : Ty := .st [.int .i64, .str, .str, .str]
abbrev mkI (k : Int) (key old new : ByteArray) : itemT.El := (k, key, old, new, ())
/-- The error of an item alone. -/
def itE (x : itemT.El) : Int :=
  if x.1 < 1 ∨ 3 < x.1 then 6 else
  if 32 < (x.2.1.size : Int) ∨ 64 < (x.2.2.1.size : Int) ∨ 64 < (x.2.2.2.1.size : Int) then 3 else
  if (x.1 = 1 ∧ sEq x.2.2.1 ⟨#[]⟩ = false) ∨ (x.1 = 2 ∧ sEq x.2.2.2.1 ⟨#[]⟩ = false) ∨ (x.1 = 3 ∧ sEq x.2.2.1 x.2.2.2.1 = true) then 6 else 0
abbrev itK (x : itemT.El) : ByteArray := x.2.1
/-- The first fault of differences. -/
def icL (l : List itemT.El) : Int × Int := if 8000 < (l.length : Int) then (-1, 3) else ckGo itE itK none 0 l
/-- The error of a pair alone. -/
def prE (x : pairT.El) : Int := if 32 < (x.1.size : Int) ∨ 64 < (x.2.1.size : Int) then 3 else 0
abbrev prK (x : pairT.El) : ByteArray := x.1
/-- The first fault of a map. -/
def mcL (l : List pairT.El) : Int × Int := if 4000 < (l.length : Int) then (-1, 5) else ckGo prE prK none 0 l
end Go.Proofs.YtdbnohpolknbbaaGreat
namespace Go.Proofs.YtdbnohpolknbbaaGreat
open Av Bk

def goneI (x : pairT.El) : itemT.El := mkI 2 x.1 x.2.1 ⟨#[]⟩
def newI (y : pairT.El) : itemT.El := mkI 1 y.1 ⟨#[]⟩ y.2.1
def otherI (x y : pairT.El) : itemT.El := mkI 3 x.1 x.2.1 y.2.1
def insD (x : pairT.El) (rest : List pairT.El → List itemT.El) : List pairT.El → List itemT.El
  | [] => goneI x :: rest []
  | y :: b => if sLt x.1 y.1 = true then goneI x :: rest (y :: b) else if sLt y.1 x.1 = true then newI y :: insD x rest b else if sEq x.2.1 y.2.1 = true then rest b else otherI x y :: rest b
/-- The differences of two maps. -/
def diffL : List pairT.El → List pairT.El → List itemT.El
  | [], b => b.map newI
  | x :: a, b => insD x (diffL a) b
theorem diffL_nil_cons (y : pairT.El) (b : List pairT.El) : diffL [] (y :: b) = newI y :: diffL [] b := rfl
theorem diffL_cons_nil (x : pairT.El) (a : List pairT.El) : diffL (x :: a) [] = goneI x :: diffL a [] := rfl
theorem diffL_lt {x y : pairT.El} (a b : List pairT.El) (h : sLt x.1 y.1 = true) : diffL (x :: a) (y :: b) = goneI x :: diffL a (y :: b) := by
  show insD x (diffL a) (y :: b) = _
  rw [insD, if_pos h]
theorem diffL_gt {x y : pairT.El} (a b : List pairT.El) (h : sLt y.1 x.1 = true) : diffL (x :: a) (y :: b) = newI y :: diffL (x :: a) b := by
  show insD x (diffL a) (y :: b) = _
  rw [insD, if_neg (by rw [sLt_asym h]; decide), if_pos h]
  rfl
theorem diffL_eq {x y : pairT.El} (a b : List pairT.El) (h1 : sLt x.1 y.1 = false) (h2 : sLt y.1 x.1 = false) (h : sEq x.2.1 y.2.1 = true) : diffL (x :: a) (y :: b) = diffL a b := by
  show insD x (diffL a) (y :: b) = _
  rw [insD, if_neg (by rw [h1]; decide), if_neg (by rw [h2]; decide), if_pos h]
theorem diffL_ne {x y : pairT.El} (a b : List pairT.El) (h1 : sLt x.1 y.1 = false) (h2 : sLt y.1 x.1 = false) (h : sEq x.2.1 y.2.1 = false) : diffL (x :: a) (y :: b) = otherI x y :: diffL a b := by
  show insD x (diffL a) (y :: b) = _
  rw [insD, if_neg (by rw [h1]; decide), if_neg (by rw [h2]; decide), if_neg (by rw [h]; decide)]
theorem insD_len {x : pairT.El} {rest : List pairT.El → List itemT.El} {n : Nat} (h : ∀ b, (rest b).length ≤ n + b.length) : ∀ b, (insD x rest b).length ≤ n + 1 + b.length
  | [] => by have := h []; simp only [insD, List.length_cons, List.length_nil] at this ⊢; omega
  | y :: b => by
    have h1 := h (y :: b)
    have h2 := h b
    have h3 := insD_len (x := x) h b
    rw [insD]
    simp only [List.length_cons] at h1 ⊢
    split
    · simp only [List.length_cons]; omega
    · split
      · simp only [List.length_cons]; omega
      · split
        · omega
        · simp only [List.length_cons]; omega
theorem diffL_len : ∀ a b, (diffL a b).length ≤ a.length + b.length
  | [], b => by simp [diffL]
  | x :: a, b => by
    have := insD_len (x := x) (diffL_len a) b
    rw [List.length_cons]
    exact this
/-- What Diff answers. -/
def dfR (a b : List pairT.El) : List itemT.El × Int := if (mcL a).2 ≠ 0 then ([], (mcL a).2) else if (mcL b).2 ≠ 0 then ([], (mcL b).2) else (diffL a b, 0)
theorem mcL_len {l : List pairT.El} (h : (mcL l).2 = 0) : l.length ≤ 4000 := by
  unfold mcL at h
  by_cases h1 : 4000 < (l.length : Int)
  · rw [if_pos h1] at h; exact absurd (show (5 : Int) = 0 from h) (by decide)
  · omega
def spDiff : DSpec
  | [.lst (.st [.str, .str]) a, .lst (.st [.str, .str]) b] => some (a.length ≤ 4611686018427387904 ∧ b.length ≤ 4611686018427387904, .tup [.lst itemT (dfR a b).1, .int .i64 (dfR a b).2])
  | _ => none
theorem df_eq {l : List itemT.El} {e : Int} {r : List itemT.El × Int} (h : r = (l, e)) : AV.tup [.lst itemT l, .int .i64 e] = AV.tup [.lst itemT r.1, .int .i64 r.2] := by rw [h]
end Go.Proofs.YtdbnohpolknbbaaGreat
namespace Go.Proofs.YtdbnohpolknbbaaGreat
open Av Bk

/-- The value of a key in a table. -/
def lkV (m : List pairT.El) (k : ByteArray) : Option ByteArray := (m.find? (fun p => sEq p.1 k)).map (fun p => p.2.1)
theorem lkV_cons (p : pairT.El) (m : List pairT.El) (k : ByteArray) : lkV (p :: m) k = if p.1 = k then some p.2.1 else lkV m k := by
  unfold lkV
  by_cases h : p.1 = k
  · rw [List.find?_cons_of_pos (by rw [sEq_iff]; exact h), if_pos h]; rfl
  · rw [List.find?_cons_of_neg (by rw [sEq_iff]; exact h), if_neg h]
theorem lkV_none {m : List pairT.El} {k : ByteArray} : lkV m k = none ↔ ∀ p ∈ m, p.1 ≠ k := by
  unfold lkV
  rw [Option.map_eq_none_iff, List.find?_eq_none]
  simp only [sEq_iff, ne_eq]
theorem lkV_append (a b : List pairT.El) (k : ByteArray) : lkV (a ++ b) k = (lkV a k).or (lkV b k) := by
  unfold lkV
  rw [List.find?_append]
  cases a.find? (fun p => sEq p.1 k) <;> rfl
theorem lkV_in {m : List pairT.El} {k v : ByteArray} (h : lkV m k = some v) : mkP k v ∈ m := by
  induction m with
  | nil => cases h
  | cons p m ih =>
    rw [lkV_cons] at h
    split at h
    · rename_i e
      cases h
      obtain ⟨a, b, u⟩ := p
      cases e
      exact List.mem_cons_self
    · exact List.mem_cons_of_mem _ (ih h)
theorem lkV_mem {m : List pairT.El} (ha : ascP m) {k v : ByteArray} : lkV m k = some v ↔ mkP k v ∈ m := by
  refine ⟨lkV_in, fun h => ?_⟩
  induction m with
  | nil => cases h
  | cons p m ih =>
    obtain ⟨h1, h2⟩ := List.pairwise_cons.1 ha
    rw [lkV_cons]
    rcases List.mem_cons.1 h with rfl | h
    · rw [if_pos rfl]
    · rw [if_neg (sLt_ne (h1 _ h)), ih h2 h]
theorem tab_ext {a b : List pairT.El} (ha : ascP a) (hb : ascP b) (h : ∀ k, lkV a k = lkV b k) : a = b := by
  refine asc_ext ha hb (fun p => ?_)
  obtain ⟨k, v, u⟩ := p
  rw [show ((k, v, u) : pairT.El) = mkP k v from rfl, ← lkV_mem ha, ← lkV_mem hb, h]
theorem lbP_le (k : ByteArray) : ∀ l, lbP k l ≤ l.length
  | [] => Nat.le_refl _
  | y :: l => by
    unfold lbP
    split
    · have := lbP_le k l; simp; omega
    · exact Nat.zero_le _
/-- A table is cut at a key. -/
theorem tab_cut {m : List pairT.El} (ha : ascP m) (k : ByteArray) : ∃ a b, m = a ++ b ∧ a.length = lbP k m ∧ (∀ p ∈ a, sLt p.1 k = true) ∧ (∀ p ∈ b, sLt p.1 k = false) := by
  induction m with
  | nil => exact ⟨[], [], rfl, rfl, by simp, by simp⟩
  | cons p m ih =>
    obtain ⟨h1, h2⟩ := List.pairwise_cons.1 ha
    unfold lbP
    by_cases h : sLt p.1 k = true
    · obtain ⟨a, b, rfl, h3, h4, h5⟩ := ih h2
      refine ⟨p :: a, b, rfl, by rw [if_pos h, List.length_cons, h3], ?_, h5⟩
      intro q hq
      rcases List.mem_cons.1 hq with rfl | hq
      · exact h
      · exact h4 q hq
    · refine ⟨[], p :: m, rfl, by rw [if_neg h]; rfl, by simp, ?_⟩
      intro q hq
      rcases List.mem_cons.1 hq with rfl | hq
      · simpa using h
      · cases h6 : sLt q.1 k with
        | false => rfl
        | true => exact absurd (sLt_trans (h1 q hq) h6) h
theorem lbP_lt {m : List pairT.El} (ha : ascP m) {k : ByteArray} {j : Nat} {p : pairT.El} (h : j < lbP k m) (hp : m[j]? = some p) : sLt p.1 k = true := by
  obtain ⟨a, b, rfl, h3, h4, h5⟩ := tab_cut ha k
  rw [← h3] at h
  rw [List.getElem?_append_left h] at hp
  exact h4 p (List.mem_of_getElem? hp)
theorem lbP_ge {m : List pairT.El} (ha : ascP m) {k : ByteArray} {j : Nat} {p : pairT.El} (h : lbP k m ≤ j) (hp : m[j]? = some p) : sLt p.1 k = false := by
  obtain ⟨a, b, rfl, h3, h4, h5⟩ := tab_cut ha k
  rw [← h3] at h
  rw [List.getElem?_append_right h] at hp
  exact h5 p (List.mem_of_getElem? hp)
/-- Where a key is, if it is there. -/
theorem tab_some {m : List pairT.El} (ha : ascP m) {k v : ByteArray} (h : lkV m k = some v) : ∃ a b, m = a ++ mkP k v :: b ∧ a.length = lbP k m ∧ (∀ p ∈ a, sLt p.1 k = true) ∧ (∀ p ∈ b, sLt k p.1 = true) := by
  obtain ⟨a, b, rfl, h3, h4, h5⟩ := tab_cut ha k
  have h6 : lkV a k = none := lkV_none.2 (fun p hp => sLt_ne (h4 p hp))
  rw [lkV_append, h6, Option.none_or] at h
  have hb := (List.pairwise_append.1 ha).2.1
  rcases b with _ | ⟨q, b⟩
  · cases h
  · obtain ⟨h7, h8⟩ := List.pairwise_cons.1 hb
    have hq : q = mkP k v := by
      rcases List.mem_cons.1 (lkV_in h) with e | e
      · exact e.symm
      · have h9 := h7 _ e
        rw [show (mkP k v).1 = k from rfl] at h9
        rw [h5 q List.mem_cons_self] at h9
        cases h9
    subst hq
    exact ⟨a, b, rfl, h3, h4, h7⟩
theorem tab_none {m : List pairT.El} (ha : ascP m) {k : ByteArray} (h : lkV m k = none) : ∃ a b, m = a ++ b ∧ a.length = lbP k m ∧ (∀ p ∈ a, sLt p.1 k = true) ∧ (∀ p ∈ b, sLt k p.1 = true) := by
  obtain ⟨a, b, rfl, h3, h4, h5⟩ := tab_cut ha k
  refine ⟨a, b, rfl, h3, h4, fun p hp => sLt_of (h5 p hp) (lkV_none.1 h p (List.mem_append_right _ hp))⟩
/-- What stands at the place of a key. -/
theorem lkV_lb {m : List pairT.El} (ha : ascP m) (k : ByteArray) : lkV m k = match m[lbP k m]? with | some p => if sEq p.1 k = true then some p.2.1 else none | none => none := by
  cases h : lkV m k with
  | some v =>
    obtain ⟨a, b, h1, h2, _⟩ := tab_some ha h
    have : m[lbP k m]? = some (mkP k v) := by rw [← h2, h1]; simp
    rw [this]
    simp only [sEq_iff, if_true]
  | none =>
    cases hp : m[lbP k m]? with
    | none => rfl
    | some p =>
      have := lkV_none.1 h p (List.mem_of_getElem? hp)
      simp only
      rw [if_neg (by rw [sEq_iff]; exact this)]
theorem lkV_at {m : List pairT.El} (ha : ascP m) {k v : ByteArray} (h : lkV m k = some v) : m[lbP k m]? = some (mkP k v) := by
  obtain ⟨a, b, h1, h2, _⟩ := tab_some ha h
  rw [← h2, h1]; simp
/-- A table with another value of a key. -/
def chT (m : List pairT.El) (k : ByteArray) (o : Option ByteArray) : List pairT.El := match o with
  | none => m.filter (fun p => !sEq p.1 k)
  | some v => intoP (m.filter (fun p => !sEq p.1 k)) (mkP k v)
theorem filt_ne {m : List pairT.El} {k : ByteArray} : ∀ q ∈ m.filter (fun p => !sEq p.1 k), q.1 ≠ k := by
  intro q hq
  have := (List.mem_filter.1 hq).2
  simp only [Bool.not_eq_true'] at this
  exact sEq_no.1 this
theorem filt_id {m : List pairT.El} {k : ByteArray} (h : ∀ p ∈ m, p.1 ≠ k) : m.filter (fun p => !sEq p.1 k) = m := by
  rw [List.filter_eq_self]
  intro p hp
  rw [sEq_no.2 (h p hp)]
  rfl
theorem chT_asc {m : List pairT.El} (ha : ascP m) (k : ByteArray) (o : Option ByteArray) : ascP (chT m k o) := by
  have hf : ascP (m.filter (fun p => !sEq p.1 k)) := List.Pairwise.filter _ ha
  cases o with
  | none => exact hf
  | some v => exact into_asc hf filt_ne
theorem into_mid {a b : List pairT.El} {p : pairT.El} (h1 : ∀ q ∈ a, sLt q.1 p.1 = true) (h2 : ∀ q ∈ b, sLt p.1 q.1 = true) : intoP (a ++ b) p = a ++ p :: b := by
  induction a with
  | nil =>
    cases b with
    | nil => rfl
    | cons q b =>
      show intoP (q :: b) p = p :: q :: b
      unfold intoP
      rw [if_neg (by rw [sLt_asym (h2 q List.mem_cons_self)]; decide)]
  | cons q a ih =>
    show intoP (q :: (a ++ b)) p = q :: (a ++ p :: b)
    unfold intoP
    rw [if_pos (h1 q List.mem_cons_self), ih (fun r hr => h1 r (List.mem_cons_of_mem _ hr))]
theorem fresh_cut {m : List pairT.El} (ha : ascP m) {k : ByteArray} (v : ByteArray) (h : lkV m k = none) : m.take (lbP k m) ++ ([mkP k v] ++ m.drop (lbP k m)) = chT m k (some v) := by
  have hf := filt_id (lkV_none.1 h)
  obtain ⟨a, b, h1, h2, h3, h4⟩ := tab_none ha h
  show _ = intoP (m.filter (fun p => !sEq p.1 k)) (mkP k v)
  rw [hf, ← h2]
  conv => lhs; rw [h1]
  conv => rhs; rw [h1]
  rw [into_mid h3 h4]
  simp
theorem cut_mid {m : List pairT.El} {k v : ByteArray} {a b : List pairT.El} (h1 : m = a ++ mkP k v :: b) (h3 : ∀ p ∈ a, sLt p.1 k = true) (h4 : ∀ p ∈ b, sLt k p.1 = true) : m.filter (fun p => !sEq p.1 k) = a ++ b := by
  rw [h1, List.filter_append, List.filter_cons_of_neg (by simp [sEq_iff]), filt_id (fun p hp => sLt_ne (h3 p hp)), filt_id (fun p hp => (sLt_ne (h4 p hp)).symm)]
theorem gone_cut {m : List pairT.El} (ha : ascP m) {k v : ByteArray} (h : lkV m k = some v) : m.take (lbP k m) ++ m.drop (lbP k m + 1) = chT m k none := by
  obtain ⟨a, b, h1, h2, h3, h4⟩ := tab_some ha h
  show _ = m.filter (fun p => !sEq p.1 k)
  rw [cut_mid h1 h3 h4, ← h2, h1]
  rw [List.take_left, List.drop_append]
  simp
theorem other_cut {m : List pairT.El} (ha : ascP m) {k v : ByteArray} (w : ByteArray) (h : lkV m k = some v) : m.set (lbP k m) (mkP k w) = chT m k (some w) := by
  obtain ⟨a, b, h1, h2, h3, h4⟩ := tab_some ha h
  show _ = intoP (m.filter (fun p => !sEq p.1 k)) (mkP k w)
  rw [cut_mid h1 h3 h4, ← h2, h1, into_mid h3 h4]
  rw [List.set_append_right _ _ (Nat.le_refl _)]
  simp
theorem chT_len {m : List pairT.El} (k : ByteArray) (o : Option ByteArray) : (chT m k o).length ≤ m.length + 1 := by
  have hf : (m.filter (fun p => !sEq p.1 k)).length ≤ m.length := List.length_filter_le _ _
  cases o with
  | none => exact Nat.le_succ_of_le hf
  | some v =>
    show (intoP _ _).length ≤ _
    rw [into_cut, List.length_append, List.length_cons, List.length_take, List.length_drop]
    omega
/-! ### Items -/
/-- What a map has of an item's key before it, and behind it. -/
def bfO (x : itemT.El) : Option ByteArray := if x.1 = 1 then none else some x.2.2.1
def afO (x : itemT.El) : Option ByteArray := if x.1 = 2 then none else some x.2.2.2.1
/-- The error of an item for a map. -/
def fitE (m : List pairT.El) (x : itemT.El) : Int :=
  if x.1 = 1 then (if (lkV m x.2.1).isSome = true then 8 else 0) else
  match lkV m x.2.1 with | none => 4 | some v => if sEq v x.2.2.1 = true then 0 else 6
def chS (m : List pairT.El) (x : itemT.El) : List pairT.El := chT m x.2.1 (afO x)
/-- Items are applied one after the other. -/
def apGo : Int → List itemT.El → List pairT.El → List pairT.El × Int × Int
  | _, [], m => (m, 0, 0)
  | i, x :: l, m => if fitE m x ≠ 0 then ([], i, fitE m x) else apGo (i + 1) l (chS m x)
/-- What Apply answers. -/
def apR (m : List pairT.El) (l : List itemT.El) : List pairT.El × Int × Int :=
  if (mcL m).2 ≠ 0 then ([], -1, (mcL m).2) else if (icL l).2 ≠ 0 then ([], (icL l).1, (icL l).2) else
  if (apGo 0 l m).2.2 ≠ 0 then ([], (apGo 0 l m).2.1, (apGo 0 l m).2.2) else if 4000 < ((apGo 0 l m).1.length : Int) then ([], -1, 5) else ((apGo 0 l m).1, 0, 0)
theorem mcL_zero {l : List pairT.El} (h : (mcL l).2 = 0) : l.length ≤ 4000 ∧ (∀ x ∈ l, prE x = 0) ∧ ascP l := by
  refine ⟨mcL_len h, ?_⟩
  unfold mcL at h
  split at h
  · exact absurd (show (5 : Int) = 0 from h) (by decide)
  · exact ⟨(ckGo_zero h).1, (ckGo_zero h).2.1⟩
theorem icL_zero {l : List itemT.El} (h : (icL l).2 = 0) : l.length ≤ 8000 ∧ (∀ x ∈ l, itE x = 0) ∧ ascK itK l := by
  unfold icL at h
  split at h
  · exact absurd (show (3 : Int) = 0 from h) (by decide)
  · exact ⟨by omega, (ckGo_zero h).1, (ckGo_zero h).2.1⟩
theorem itE_kind {k : Int} {a b c : ByteArray} (h : itE (mkI k a b c) = 0) : k = 1 ∨ k = 2 ∨ k = 3 := by
  by_cases h1 : k < 1 ∨ 3 < k
  · have : itE (mkI k a b c) = 6 := by unfold itE; exact if_pos h1
    rw [this] at h
    exact absurd h (by decide)
  · omega
theorem ap_take {m : List pairT.El} {l : List itemT.El} (hm : (mcL m).2 = 0) (hl : (icL l).2 = 0) : apR m l = if (apGo 0 l m).2.2 ≠ 0 then ([], (apGo 0 l m).2.1, (apGo 0 l m).2.2) else if 4000 < ((apGo 0 l m).1.length : Int) then ([], -1, 5) else ((apGo 0 l m).1, 0, 0) := by
  rw [apR, if_neg (by simp [hm]), if_neg (by simp [hl])]
theorem ap_step {l : List itemT.El} {c : List pairT.El} {i : Nat} {y : itemT.El} (hy : l[i]? = some y) : apGo (i : Int) (l.drop i) c = if fitE c y ≠ 0 then ([], (i : Int), fitE c y) else apGo ((i + 1 : Nat) : Int) (l.drop (i + 1)) (chS c y) := by
  have hi := (List.getElem?_eq_some_iff.1 hy).1
  have he := (List.getElem?_eq_some_iff.1 hy).2
  rw [List.drop_eq_getElem_cons hi, he, apGo]
  rfl
theorem ap_err {m c : List pairT.El} {l : List itemT.El} {i : Nat} {y : itemT.El} (hm : (mcL m).2 = 0) (hl : (icL l).2 = 0) (hap : apGo 0 l m = apGo (i : Int) (l.drop i) c) (hy : l[i]? = some y) {e : Int} (he : fitE c y = e) (hn : e ≠ 0) :
    AV.tup [.lst pairT [], .int .i64 (i : Int), .int .i64 e] = AV.tup [.lst pairT (apR m l).1, .int .i64 (apR m l).2.1, .int .i64 (apR m l).2.2] := by
  subst he
  rw [ap_take hm hl, hap, ap_step hy, if_pos hn, if_pos hn]
theorem ap_next {m c : List pairT.El} {l : List itemT.El} {i : Nat} {y : itemT.El} (hap : apGo 0 l m = apGo (i : Int) (l.drop i) c) (hy : l[i]? = some y) (he : fitE c y = 0) : apGo 0 l m = apGo ((i + 1 : Nat) : Int) (l.drop (i + 1)) (chS c y) := by
  rw [hap, ap_step hy, if_neg (by simp [he])]
theorem ap_full {m c : List pairT.El} {l : List itemT.El} {i : Nat} (hm : (mcL m).2 = 0) (hl : (icL l).2 = 0) (hap : apGo 0 l m = apGo (i : Int) (l.drop i) c) (hi : ¬ i < l.length) (h : 4000 < (c.length : Int)) :
    AV.tup [.lst pairT [], .int .i64 (-1), .int .i64 5] = AV.tup [.lst pairT (apR m l).1, .int .i64 (apR m l).2.1, .int .i64 (apR m l).2.2] := by
  rw [List.drop_eq_nil_of_le (by omega)] at hap
  have hap : apGo 0 l m = (c, 0, 0) := hap
  rw [ap_take hm hl, hap, if_neg (by simp), if_pos h]
theorem ap_done {m c : List pairT.El} {l : List itemT.El} {i : Nat} (hm : (mcL m).2 = 0) (hl : (icL l).2 = 0) (hap : apGo 0 l m = apGo (i : Int) (l.drop i) c) (hi : ¬ i < l.length) (h : ¬ 4000 < (c.length : Int)) :
    AV.tup [.lst pairT (c.take c.length), .int .i64 0, .int .i64 0] = AV.tup [.lst pairT (apR m l).1, .int .i64 (apR m l).2.1, .int .i64 (apR m l).2.2] := by
  rw [List.drop_eq_nil_of_le (by omega)] at hap
  have hap : apGo 0 l m = (c, 0, 0) := hap
  rw [ap_take hm hl, hap, if_neg (by simp), if_neg h, List.take_length]
theorem fit_new {c : List pairT.El} {key old new : ByteArray} : fitE c (mkI 1 key old new) = if (lkV c key).isSome = true then 8 else 0 := by
  unfold fitE
  exact if_pos rfl
theorem fit_gone {c : List pairT.El} {key old new : ByteArray} : fitE c (mkI 2 key old new) = match lkV c key with | none => 4 | some v => if sEq v old = true then 0 else 6 := by
  unfold fitE
  exact if_neg (show ¬ (2 : Int) = 1 by decide)
theorem fit_other {c : List pairT.El} {key old new : ByteArray} : fitE c (mkI 3 key old new) = match lkV c key with | none => 4 | some v => if sEq v old = true then 0 else 6 := by
  unfold fitE
  exact if_neg (show ¬ (3 : Int) = 1 by decide)
theorem chS_new {c : List pairT.El} {key old new : ByteArray} (hac : ascP c) (hk : lkV c key = none) : c.take (lbP key c) ++ ([mkP key new] ++ c.drop (lbP key c)) = chS c (mkI 1 key old new) := fresh_cut hac new hk
theorem chS_gone {c : List pairT.El} {key old new v : ByteArray} (hac : ascP c) (hk : lkV c key = some v) : c.take (lbP key c) ++ c.drop (lbP key c + 1) = chS c (mkI 2 key old new) := gone_cut hac hk
theorem chS_other {c : List pairT.El} {key old new v : ByteArray} (hac : ascP c) (hk : lkV c key = some v) : c.set (lbP key c) (mkP key new) = chS c (mkI 3 key old new) := other_cut hac new hk
end Go.Proofs.YtdbnohpolknbbaaGreat
namespace Go.Proofs.YtdbnohpolknbbaaGreat
open Av Bk

theorem itE_cases {k : Int} {a b c : ByteArray} (h : itE (mkI k a b c) = 0) : (k = 1 ∧ b = ⟨#[]⟩) ∨ (k = 2 ∧ c = ⟨#[]⟩) ∨ (k = 3 ∧ b ≠ c) := by
  have hk := itE_kind h
  have h1 : ¬ ((k = 1 ∧ sEq b ⟨#[]⟩ = false) ∨ (k = 2 ∧ sEq c ⟨#[]⟩ = false) ∨ (k = 3 ∧ sEq b c = true)) := by
    intro hn
    unfold itE at h
    split at h
    · exact absurd h (by decide)
    · split at h
      · exact absurd h (by decide)
      · exact absurd h (by decide)
  rcases hk with rfl | rfl | rfl
  · refine .inl ⟨rfl, ?_⟩
    cases h2 : sEq b ⟨#[]⟩ with
    | true => exact sEq_iff.1 h2
    | false => exact absurd (.inl ⟨rfl, h2⟩) h1
  · refine .inr (.inl ⟨rfl, ?_⟩)
    cases h2 : sEq c ⟨#[]⟩ with
    | true => exact sEq_iff.1 h2
    | false => exact absurd (.inr (.inl ⟨rfl, h2⟩)) h1
  · refine .inr (.inr ⟨rfl, ?_⟩)
    cases h2 : sEq b c with
    | true => exact absurd (.inr (.inr ⟨rfl, h2⟩)) h1
    | false => exact sEq_no.1 h2
/-- The difference between two states of a key. -/
def dfI (k : ByteArray) (a b : Option ByteArray) : List itemT.El := if a = b then [] else [mkI (if a = none then 1 else if b = none then 2 else 3) k (a.getD ⟨#[]⟩) (b.getD ⟨#[]⟩)]
def joinI (x y : itemT.El) : List itemT.El := dfI x.2.1 (bfO x) (afO y)
/-- A difference, and others behind it. -/
def thIns (x : itemT.El) (rest : List itemT.El → List itemT.El → Int → List itemT.El × Int × Int) : List itemT.El → List itemT.El → Int → List itemT.El × Int × Int
  | out, [], n => rest (out ++ [x]) [] n
  | out, y :: m, n => if sLt x.2.1 y.2.1 = true then rest (out ++ [x]) (y :: m) n else if sLt y.2.1 x.2.1 = true then thIns x rest (out ++ [y]) m (n + 1) else if afO x = bfO y then rest (out ++ joinI x y) m (n + 1) else ([], n, 6)
/-- Differences, and others behind them. -/
def thGo (out : List itemT.El) (l m : List itemT.El) (n : Int) : List itemT.El × Int × Int := thL l out m n
where thL : List itemT.El → List itemT.El → List itemT.El → Int → List itemT.El × Int × Int
  | [], out, m, _ => (out ++ m, 0, 0)
  | x :: l, out, m, n => thIns x (thL l) out m n
def thR (l m : List itemT.El) : List itemT.El × Int × Int := if (icL l).2 ≠ 0 then ([], (icL l).1, (icL l).2) else if (icL m).2 ≠ 0 then ([], (icL m).1, (icL m).2) else thGo [] l m 0
theorem thL_ins (x : itemT.El) (l out m : List itemT.El) (n : Int) : thGo out (x :: l) m n = thIns x (thGo.thL l) out m n := rfl
theorem th_nn (out : List itemT.El) (n : Int) : thGo out [] [] n = (out, 0, 0) := by
  show (out ++ [], (0 : Int), (0 : Int)) = _
  rw [List.append_nil]
theorem th_xn (out : List itemT.El) (x : itemT.El) (l : List itemT.El) (n : Int) : thGo out (x :: l) [] n = thGo (out ++ [x]) l [] n := rfl
theorem th_ny (out : List itemT.El) (y : itemT.El) (m : List itemT.El) (n : Int) : thGo out [] (y :: m) n = thGo (out ++ [y]) [] m (n + 1) := by
  show (out ++ y :: m, (0 : Int), (0 : Int)) = ((out ++ [y]) ++ m, 0, 0)
  rw [List.append_assoc]; rfl
theorem th_lt {out : List itemT.El} {x y : itemT.El} {l m : List itemT.El} {n : Int} (h : sLt x.2.1 y.2.1 = true) : thGo out (x :: l) (y :: m) n = thGo (out ++ [x]) l (y :: m) n := by rw [thL_ins, thIns, if_pos h]; rfl
theorem th_gt {out : List itemT.El} {x y : itemT.El} {l m : List itemT.El} {n : Int} (h : sLt y.2.1 x.2.1 = true) : thGo out (x :: l) (y :: m) n = thGo (out ++ [y]) (x :: l) m (n + 1) := by rw [thL_ins, thIns, if_neg (by rw [sLt_asym h]; decide), if_pos h]; rfl
theorem th_eq {out : List itemT.El} {x y : itemT.El} {l m : List itemT.El} {n : Int} (h1 : sLt x.2.1 y.2.1 = false) (h2 : sLt y.2.1 x.2.1 = false) (h : afO x = bfO y) : thGo out (x :: l) (y :: m) n = thGo (out ++ joinI x y) l m (n + 1) := by rw [thL_ins, thIns, if_neg (by rw [h1]; decide), if_neg (by rw [h2]; decide), if_pos h]; rfl
theorem th_ne {out : List itemT.El} {x y : itemT.El} {l m : List itemT.El} {n : Int} (h1 : sLt x.2.1 y.2.1 = false) (h2 : sLt y.2.1 x.2.1 = false) (h : afO x ≠ bfO y) : thGo out (x :: l) (y :: m) n = ([], n, 6) := by rw [thL_ins, thIns, if_neg (by rw [h1]; decide), if_neg (by rw [h2]; decide), if_neg h]
theorem bf_1 {a b c : ByteArray} : bfO (mkI 1 a b c) = none := if_pos rfl
theorem bf_2 {a b c : ByteArray} : bfO (mkI 2 a b c) = some b := if_neg (show ¬ (2 : Int) = 1 by decide)
theorem bf_3 {a b c : ByteArray} : bfO (mkI 3 a b c) = some b := if_neg (show ¬ (3 : Int) = 1 by decide)
theorem af_1 {a b c : ByteArray} : afO (mkI 1 a b c) = some c := if_neg (show ¬ (1 : Int) = 2 by decide)
theorem af_2 {a b c : ByteArray} : afO (mkI 2 a b c) = none := if_pos rfl
theorem af_3 {a b c : ByteArray} : afO (mkI 3 a b c) = some c := if_neg (show ¬ (3 : Int) = 2 by decide)
/-- What item answers. -/
def itmR (k : ByteArray) (a : Bool) (av : ByteArray) (b : Bool) (bv : ByteArray) : itemT.El × Bool :=
  if eqT (.st [.bool, .str]) (a, av, ()) (b, bv, ()) = true then (mkI 0 ⟨#[]⟩ ⟨#[]⟩ ⟨#[]⟩, false) else (mkI (if a = true then (if b = true then 3 else 2) else 1) k av bv, true)
theorem eqS (a b : Bool) (av bv : ByteArray) : eqT (.st [.bool, .str]) (a, av, ()) (b, bv, ()) = true ↔ a = b ∧ av = bv := by
  show (eqT .bool a b && eqT .str av bv) = true ↔ _
  rw [Bool.and_eq_true]
  refine and_congr ?_ sEq_iff
  show (a == b) = true ↔ _
  simp
theorem valid_cases {x : itemT.El} (h : itE x = 0) : (∃ k c, x = mkI 1 k ⟨#[]⟩ c) ∨ (∃ k b, x = mkI 2 k b ⟨#[]⟩) ∨ ∃ k b c, x = mkI 3 k b c ∧ b ≠ c := by
  obtain ⟨k, key, old, new, u⟩ := x
  rcases itE_cases h with ⟨rfl, rfl⟩ | ⟨rfl, rfl⟩ | ⟨rfl, hn⟩
  · exact .inl ⟨_, _, rfl⟩
  · exact .inr (.inl ⟨_, _, rfl⟩)
  · exact .inr (.inr ⟨_, _, _, rfl, hn⟩)
theorem ends_eq {x y : itemT.El} (hx : itE x = 0) (hy : itE y = 0) : eqT (.st [.bool, .str]) (x.1 != 2, x.2.2.2.1, ()) (y.1 != 1, y.2.2.1, ()) = true ↔ afO x = bfO y := by
  rcases valid_cases hx with ⟨k, c, rfl⟩ | ⟨k, b, rfl⟩ | ⟨k, b, c, rfl, hn⟩ <;> rcases valid_cases hy with ⟨k2, c2, rfl⟩ | ⟨k2, b2, rfl⟩ | ⟨k2, b2, c2, rfl, hn2⟩ <;> rw [eqS] <;> (first | rw [af_1] | rw [af_2] | rw [af_3]) <;> (first | rw [bf_1] | rw [bf_2] | rw [bf_3])
  all_goals simp
theorem join_itm {x y : itemT.El} (hx : itE x = 0) (hy : itE y = 0) : joinI x y = if (itmR x.2.1 (x.1 != 1) x.2.2.1 (y.1 != 2) y.2.2.2.1).2 = true then [(itmR x.2.1 (x.1 != 1) x.2.2.1 (y.1 != 2) y.2.2.2.1).1] else [] := by
  have key : ∀ (k : ByteArray) (a b : Bool) (av bv : ByteArray), (a = false → av = ⟨#[]⟩) → (b = false → bv = ⟨#[]⟩) → dfI k (if a = true then some av else none) (if b = true then some bv else none) = if (itmR k a av b bv).2 = true then [(itmR k a av b bv).1] else [] := by
    intro k a b av bv ha hb
    unfold dfI itmR
    by_cases h : eqT (.st [.bool, .str]) (a, av, ()) (b, bv, ()) = true
    · rw [if_pos h]
      obtain ⟨rfl, rfl⟩ := (eqS _ _ _ _).1 h
      rw [if_pos rfl]
      rfl
    · rw [if_neg h]
      rw [eqS] at h
      cases a <;> cases b <;> simp_all
  have hxs : bfO x = (if (x.1 != 1) = true then some x.2.2.1 else none) ∧ ((x.1 != 1) = false → x.2.2.1 = ⟨#[]⟩) := by
    rcases valid_cases hx with ⟨k, c, rfl⟩ | ⟨k, b, rfl⟩ | ⟨k, b, c, rfl, hn⟩ <;> simp [bfO]
  have hys : afO y = (if (y.1 != 2) = true then some y.2.2.2.1 else none) ∧ ((y.1 != 2) = false → y.2.2.2.1 = ⟨#[]⟩) := by
    rcases valid_cases hy with ⟨k, c, rfl⟩ | ⟨k, b, rfl⟩ | ⟨k, b, c, rfl, hn⟩ <;> simp [afO]
  unfold joinI
  rw [hxs.1, hys.1]
  exact key _ _ _ _ _ hxs.2 hys.2
abbrev itA (x : itemT.El) : AV := .agg [.int .i64 x.1, .str x.2.1, .str x.2.2.1, .str x.2.2.2.1]
def spItm : DSpec
  | [.str k, .agg [.bool a, .str av], .agg [.bool b, .str bv]] => some (True, .tup [itA (itmR k a av b bv).1, .bool (itmR k a av b bv).2])
  | _ => none
def spTh : DSpec
  | [.lst (.st [.int .i64, .str, .str, .str]) l, .lst (.st [.int .i64, .str, .str, .str]) m] => some (l.length ≤ 4611686018427387904 ∧ m.length ≤ 4611686018427387904, .tup [.lst itemT (thR l m).1, .int .i64 (thR l m).2.1, .int .i64 (thR l m).2.2])
  | _ => none
theorem thR_good {l m : List itemT.El} (hl : (icL l).2 = 0) (hm : (icL m).2 = 0) : thR l m = thGo [] l m 0 := by rw [thR, if_neg (by simp [hl]), if_neg (by simp [hm])]
theorem th_tup {l m : List itemT.El} (hl : (icL l).2 = 0) (hm : (icL m).2 = 0) {r : List itemT.El × Int × Int} (h : thGo [] l m 0 = r) {o : List itemT.El} {i e : Int} (hr : r = (o, i, e)) :
    AV.tup [.lst itemT o, .int .i64 i, .int .i64 e] = AV.tup [.lst itemT (thR l m).1, .int .i64 (thR l m).2.1, .int .i64 (thR l m).2.2] := by
  rw [thR_good hl hm, h, hr]
theorem th_vs {l l2 : List itemT.El} {n n2 : Int} (h : l = l2) (hn : n = n2) : [AV.lst itemT l, .int .i64 n] = [AV.lst itemT l2, .int .i64 n2] := by rw [h, hn]
theorem th_heap {b c d : AObj} {T1 T : TypeId} {L L' : List itemT.El} {g n n' : Nat} (hL : L = L') (hn : n = n') : [.cells T1 [.own 4 g n], b, c, d, .arr T itemT L false g] = [AObj.cells T1 [.own 4 g n'], b, c, d, .arr T itemT L' false g] := by rw [hL, hn]
theorem th_drop {m : List itemT.El} {n : Nat} {y : itemT.El} (hy : m[n]? = some y) : m.drop n = y :: m.drop (n + 1) := by
  have h := (List.getElem?_eq_some_iff.1 hy)
  obtain ⟨h1, h2⟩ := h
  rw [List.drop_eq_getElem_cons h1, h2]
end Go.Proofs.YtdbnohpolknbbaaGreat
namespace Go.Proofs.YtdbnohpolknbbaaGreat
open Av Bk

/-! ### One after the other -/
end Go.Proofs.YtdbnohpolknbbaaGreat
namespace Go.Proofs.YtdbnohpolknbbaaGreat
open Av

set_option maxRecDepth 100000 in
theorem fnOk_keysCheck : FnOk Tryz.prog 102 Tryz.f102 := ⟨by rfl, by kernel_rfl, by
  show okCode _ _ = true ∧ drawsOk _ = true
  exact ⟨by kernel_rfl, by kernel_rfl⟩⟩
def spKey : DSpec
  | [.str k] => some (True, .int .i64 (bif decide (32 < (k.size : Int)) then 3 else 0))
  | _ => none
theorem keysCheck_ok : SpecOk Tryz.prog 102 spKey := by
  refine spec_body (C := cx0) mixed tbOk SpecsOk.nil (callN_ok (C := cx0) mixed tbOk SpecsOk.nil FnsOk.nil 0) fnOk_keysCheck ?_
  intro ys p r h hp
  unfold spKey at h
  split at h
  · rename_i k
    cases h
    conv => whnf
    repeat' first
      | ((first | refine auT ?_ | refine auF ?_ | with_reducible first | refine auKt ?_ | refine auKf ?_ | refine auNt ?_ | refine auNf ?_ | refine auEt ?_ | refine auEf ?_); conv => whnf)
      | ((with_reducible first | refine br_dec (fun h => ?_) (fun h => ?_) | refine br_ndec (fun h => ?_) (fun h => ?_) | refine br_ne (fun h => ?_) (fun h => ?_) | refine br_eq (fun h => ?_) (fun h => ?_)) <;> first | (exfalso; omega) | conv => whnf)
      | (refine br_intro (fun h => ?_) (fun h => ?_) <;> conv => whnf)
      | ((first | refine auNd ?_ | refine idx_nat (by omega) (fun x hx => ?_) | refine frz_auto ?_ | refine draw_plain ?_ | refine auIx (fun x hx => ?_)); conv => whnf)
    all_goals (refine congrArg (AV.int .i64) ?_; simp [*])
  · cases h
set_option maxRecDepth 100000 in
theorem fnOk_entCheck : FnOk Tryz.prog 96 Tryz.f96 := ⟨by rfl, by kernel_rfl, by
  show okCode _ _ = true ∧ drawsOk _ = true
  exact ⟨by kernel_rfl, by kernel_rfl⟩⟩
noncomputable def cx5 : Cx := ⟨tb, [], [(102, spKey)]⟩
theorem specs5 : SpecsOk Tryz.prog cx5.specs := .cons keysCheck_ok .nil
set_option maxRecDepth 100000 in
set_option maxHeartbeats 2000000 in
theorem entCheck_ok : SpecOk Tryz.prog 96 spCheck := by
  refine spec_body (C := cx5) mixed tbOk specs5 (callN_ok (C := cx5) mixed tbOk specs5 FnsOk.nil 0) fnOk_entCheck ?_
  intro ys p r h hp
  unfold spCheck at h
  split at h
  · rename_i k v d s
    cases h
    conv => whnf
    repeat' first
      | ((first | refine auT ?_ | refine auF ?_ | with_reducible first | refine auKt ?_ | refine auKf ?_ | refine auNt ?_ | refine auNf ?_ | refine auEt ?_ | refine auEf ?_); conv => whnf)
      | ((with_reducible first | refine br_dec (fun h => ?_) (fun h => ?_) | refine br_ndec (fun h => ?_) (fun h => ?_) | refine br_ne (fun h => ?_) (fun h => ?_) | refine br_eq (fun h => ?_) (fun h => ?_)) <;> first | (exfalso; omega) | conv => whnf)
      | (refine br_intro (fun h => ?_) (fun h => ?_) <;> conv => whnf)
      | ((first | refine auNd ?_ | refine idx_nat (by omega) (fun x hx => ?_) | refine frz_auto ?_ | refine draw_plain ?_ | refine auIx (fun x hx => ?_)); conv => whnf)
    all_goals (refine congrArg (AV.int .i64) ?_; grind [errE])
  · cases h
end Go.Proofs.YtdbnohpolknbbaaGreat
namespace Go.Proofs.YtdbnohpolknbbaaGreat
open Av

end Go.Proofs.YtdbnohpolknbbaaGreat
namespace Go.Proofs.YtdbnohpolknbbaaGreat
open Av Bk

end Go.Proofs.YtdbnohpolknbbaaGreat
