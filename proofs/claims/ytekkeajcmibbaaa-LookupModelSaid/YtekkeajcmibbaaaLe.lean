/-
  The map of a view: plain Lean.
-/
import Derived.Test.YtekkeajcmibbaaaE5
namespace Go.Proofs.Ytekkeajcmibbaaa
open Av Bk

abbrev pairT : Ty := .st [.str, .str]
abbrev mkP (k v : ByteArray) : pairT.El := (k, v, ())
theorem sLt_trans {a b c : ByteArray} (h1 : sLt a b = true) (h2 : sLt b c = true) : sLt a c = true := bl_trans _ _ _ h1 h2
theorem sLt_irrefl (a : ByteArray) : sLt a a = false := bl_irrefl _
theorem sLt_asym {a b : ByteArray} (h : sLt a b = true) : sLt b a = false := by
  cases h2 : sLt b a with
  | false => rfl
  | true => exact absurd (sLt_trans h h2) (by rw [sLt_irrefl]; decide)
theorem sLt_ext {a b : ByteArray} (h1 : sLt a b = false) (h2 : sLt b a = false) : a = b := ByteArray.ext (Array.toList_inj.1 (bl_total _ _ h1 h2))
theorem sLt_ne {a b : ByteArray} (h : sLt a b = true) : a ≠ b := by
  rintro rfl
  rw [sLt_irrefl] at h
  cases h
theorem sLt_of {a b : ByteArray} (h : sLt a b = false) (hn : a ≠ b) : sLt b a = true := by
  cases h2 : sLt b a with
  | true => rfl
  | false => exact absurd (sLt_ext h h2) hn
theorem sEq_no {a b : ByteArray} : sEq a b = false ↔ a ≠ b := by
  cases h : sEq a b with
  | true => simp [sEq_iff.1 h]
  | false =>
    refine ⟨fun _ e => ?_, fun _ => rfl⟩
    rw [sEq_iff.2 e] at h
    cases h
theorem sEq_symm (a b : ByteArray) : sEq a b = sEq b a := by
  rw [Bool.eq_iff_iff, sEq_iff, sEq_iff]
  exact eq_comm
def firstK (l : List entT.El) (k : ByteArray) : Option entT.El := l.find? (fun x => sEq x.1 k)
theorem firstK_append (l m : List entT.El) (k : ByteArray) : firstK (l ++ m) k = (firstK l k).or (firstK m k) := List.find?_append ..
theorem firstK_one (x : entT.El) (k : ByteArray) : firstK [x] k = if x.1 = k then some x else none := by
  unfold firstK
  by_cases h : x.1 = k
  · rw [if_pos h, List.find?_cons_of_pos (by rw [sEq_iff]; exact h)]
  · rw [if_neg h, List.find?_cons_of_neg (by rw [sEq_iff]; exact h)]
    rfl
theorem firstK_some {l : List entT.El} {k : ByteArray} {x : entT.El} (h : firstK l k = some x) : x ∈ l ∧ x.1 = k := by
  unfold firstK at h
  exact ⟨List.mem_of_find?_eq_some h, sEq_iff.1 (List.find?_some (p := fun x : entT.El => sEq x.1 k) h)⟩
theorem firstK_none {l : List entT.El} {k : ByteArray} : firstK l k = none ↔ ∀ x ∈ l, x.1 ≠ k := by
  unfold firstK
  rw [List.find?_eq_none]
  simp only [sEq_iff, ne_eq]
/-! ### Ascending entries -/
def ascS (l : List entT.El) : Prop := ∀ (k : Nat) (x y : entT.El), l[k]? = some x → l[k + 1]? = some y → sLt x.1 y.1 = true
/-- How many keys at the beginning are less than one. -/
def lb (key : ByteArray) : List entT.El → Nat
  | [] => 0
  | y :: l => if sLt y.1 key = true then lb key l + 1 else 0
theorem lb_le (key : ByteArray) : ∀ l, lb key l ≤ l.length
  | [] => Nat.le_refl _
  | y :: l => by
    simp only [lb]
    split
    · have := lb_le key l; simp; omega
    · exact Nat.zero_le _
theorem lb_lt {key : ByteArray} : ∀ {l : List entT.El} {k : Nat} {y : entT.El}, k < lb key l → l[k]? = some y → sLt y.1 key = true
  | [], k, y, h, _ => by simp [lb] at h
  | x :: l, 0, y, h, hy => by
    cases hy
    simp only [lb] at h
    split at h
    · assumption
    · omega
  | x :: l, k + 1, y, h, hy => by
    simp only [lb] at h
    split at h
    · exact lb_lt (l := l) (k := k) (by omega) (by simpa using hy)
    · omega
theorem ascS_tail {x : entT.El} {l : List entT.El} (h : ascS (x :: l)) : ascS l := fun k y z hy hz => h (k + 1) y z (by simpa using hy) (by simpa using hz)
theorem ascS_head {l : List entT.El} : ∀ {x y : entT.El} {k : Nat}, ascS (x :: l) → l[k]? = some y → sLt x.1 y.1 = true := by
  induction l with
  | nil => intro x y k _ h; simp at h
  | cons z l ih =>
    intro x y k h hy
    have h0 : sLt x.1 z.1 = true := h 0 x z rfl rfl
    cases k with
    | zero => cases hy; exact h0
    | succ k => exact sLt_trans h0 (ih (ascS_tail h) (by simpa using hy))
theorem lb_ge {key : ByteArray} : ∀ {l : List entT.El} {k : Nat} {y : entT.El}, ascS l → lb key l ≤ k → l[k]? = some y → sLt y.1 key = false
  | [], k, y, _, _, hy => by simp at hy
  | x :: l, 0, y, ha, h, hy => by
    cases hy
    simp only [lb] at h
    split at h
    · omega
    · rename_i hn; simpa using hn
  | x :: l, k + 1, y, ha, h, hy => by
    simp only [lb] at h
    split at h
    · exact lb_ge (l := l) (k := k) (ascS_tail ha) (by omega) (by simpa using hy)
    · rename_i hn
      cases hlt : sLt y.1 key with
      | false => rfl
      | true => exact absurd (sLt_trans (ascS_head ha (by simpa using hy)) hlt) hn
def foundK (key : ByteArray) (l : List entT.El) : Bool := match l[lb key l]? with
  | some y => sEq y.1 key
  | none => false
theorem clGo_zero : ∀ {l : List entT.El} {i : Int} {pv : Option ByteArray}, (clGo pv i l).2 = 0 → (∀ x ∈ l, errX x = 0) ∧ ascS l ∧ ∀ x, l[0]? = some x → falls pv x = false
  | [], _, _, _ => ⟨by simp, fun k x y h => by simp at h, by simp⟩
  | y :: l, i, pv, h => by
    rw [clGo] at h
    split at h
    · rename_i he; exact absurd h he
    · rename_i he
      split at h
      · cases h
      · rename_i hf
        obtain ⟨h1, h2, h3⟩ := clGo_zero h
        refine ⟨fun x hx => ?_, fun k a b ha hb => ?_, fun x hx => ?_⟩
        · rcases List.mem_cons.1 hx with rfl | hx
          · simpa using he
          · exact h1 x hx
        · cases k with
          | zero =>
            cases ha
            have := h3 b (by simpa using hb)
            simpa [falls] using this
          | succ k => exact h2 k a b (by simpa using ha) (by simpa using hb)
        · cases hx
          simpa using hf
theorem clL_zero {l : List entT.El} (h : (clL l).2 = 0) : l.length ≤ 5000 ∧ (∀ x ∈ l, errX x = 0) ∧ ascS l := by
  unfold clL at h
  split at h
  · cases h
  · obtain ⟨h1, h2, _⟩ := clGo_zero h
    exact ⟨by omega, h1, h2⟩
theorem firstK_lb {key : ByteArray} : ∀ {l : List entT.El}, ascS l → firstK l key = match l[lb key l]? with | some y => if sEq y.1 key = true then some y else none | none => none
  | [], _ => rfl
  | x :: l, ha => by
    have hc : firstK (x :: l) key = if sEq x.1 key = true then some x else firstK l key := by
      unfold firstK
      rw [List.find?_cons]
      cases sEq x.1 key <;> rfl
    rw [hc]
    simp only [lb]
    by_cases h : sLt x.1 key = true
    · rw [if_pos h, if_neg (fun e => sLt_ne h (sEq_iff.1 e)), firstK_lb (ascS_tail ha)]
      rfl
    · rw [if_neg h]
      show _ = if sEq x.1 key = true then some x else none
      split
      · rfl
      · rename_i hn
        rw [firstK_none]
        intro y hy
        obtain ⟨k, hk⟩ := List.mem_iff_getElem?.1 hy
        have h1 := ascS_head ha hk
        intro e
        rw [e] at h1
        exact h h1
/-! ### Ascending pairs -/
def ascP (l : List pairT.El) : Prop := l.Pairwise (fun a b => sLt a.1 b.1 = true)
def intoP : List pairT.El → pairT.El → List pairT.El
  | [], p => [p]
  | q :: l, p => if sLt q.1 p.1 = true then q :: intoP l p else p :: q :: l
theorem mem_into : ∀ {l : List pairT.El} {p x : pairT.El}, x ∈ intoP l p ↔ x = p ∨ x ∈ l
  | [], p, x => by simp [intoP]
  | q :: l, p, x => by
    unfold intoP
    split
    · rw [List.mem_cons, mem_into, List.mem_cons]
      constructor
      · rintro (h | h | h)
        · exact .inr (.inl h)
        · exact .inl h
        · exact .inr (.inr h)
      · rintro (h | h | h)
        · exact .inr (.inl h)
        · exact .inl h
        · exact .inr (.inr h)
    · rw [List.mem_cons]
theorem into_asc : ∀ {l : List pairT.El} {p : pairT.El}, ascP l → (∀ q ∈ l, q.1 ≠ p.1) → ascP (intoP l p)
  | [], p, _, _ => List.pairwise_singleton _ _
  | q :: l, p, ha, hn => by
    have ha' := List.pairwise_cons.1 ha
    unfold intoP
    split
    · rename_i h
      refine List.pairwise_cons.2 ⟨fun x hx => ?_, into_asc ha'.2 (fun r hr => hn r (by simp [hr]))⟩
      rcases mem_into.1 hx with rfl | hx
      · exact h
      · exact ha'.1 x hx
    · rename_i h
      have h : sLt q.1 p.1 = false := by simpa using h
      have h2 := sLt_of h (hn q (by simp))
      refine List.pairwise_cons.2 ⟨fun x hx => ?_, ha⟩
      rcases List.mem_cons.1 hx with rfl | hx
      · exact h2
      · exact sLt_trans h2 (ha'.1 x hx)
def lbP (k : ByteArray) : List pairT.El → Nat
  | [] => 0
  | p :: l => if sLt p.1 k = true then lbP k l + 1 else 0
theorem into_cut : ∀ (l : List pairT.El) (p : pairT.El), intoP l p = l.take (lbP p.1 l) ++ p :: l.drop (lbP p.1 l)
  | [], p => rfl
  | q :: l, p => by
    unfold intoP lbP
    split
    · rw [into_cut l p]; rfl
    · rfl
theorem lbP_at : ∀ {l : List pairT.El} {k : ByteArray} {i : Nat}, (∀ p ∈ l.take i, sLt p.1 k = true) → i ≤ l.length → (i = l.length ∨ ∃ p, l[i]? = some p ∧ sLt p.1 k = false) → lbP k l = i
  | [], k, i, _, h, _ => by simp at h; subst h; rfl
  | q :: l, k, 0, _, _, h => by
    rcases h with h | ⟨p, hp, hl⟩
    · simp at h
    · simp at hp; subst hp
      simp [lbP, hl]
  | q :: l, k, i + 1, ht, hi, h => by
    have h0 := ht q (by simp)
    unfold lbP
    rw [if_pos h0, lbP_at (l := l) (i := i) (fun p hp => ht p (by simp [hp])) (by simpa using hi) (by simpa using h)]
theorem asc_ext : ∀ {a b : List pairT.El}, ascP a → ascP b → (∀ p, p ∈ a ↔ p ∈ b) → a = b
  | [], [], _, _, _ => rfl
  | [], y :: b, _, _, h => absurd ((h y).2 (by simp)) (by simp)
  | x :: a, [], _, _, h => absurd ((h x).1 (by simp)) (by simp)
  | x :: a, y :: b, ha, hb, h => by
    have ha' := List.pairwise_cons.1 ha
    have hb' := List.pairwise_cons.1 hb
    have hxy : x = y := by
      rcases List.mem_cons.1 ((h x).1 (by simp)) with e | hx
      · exact e
      · rcases List.mem_cons.1 ((h y).2 (by simp)) with e | hy
        · exact e.symm
        · have h1 := hb'.1 x hx
          have h2 := ha'.1 y hy
          rw [sLt_asym h1] at h2
          cases h2
    subst hxy
    rw [asc_ext ha'.2 hb'.2 (fun p => ?_)]
    constructor
    · intro hp
      rcases List.mem_cons.1 ((h p).1 (by simp [hp])) with rfl | h1
      · have := ha'.1 p hp
        rw [sLt_irrefl] at this
        cases this
      · exact h1
    · intro hp
      rcases List.mem_cons.1 ((h p).2 (by simp [hp])) with rfl | h1
      · have := hb'.1 p hp
        rw [sLt_irrefl] at this
        cases this
      · exact h1
/-! ### The map of entries of which the first ones count -/
def metB (met : List ByteArray) (k : ByteArray) : Bool := met.any (fun m => sEq m k)
def mapStep (st : List ByteArray × List pairT.El) (x : entT.El) : List ByteArray × List pairT.El :=
  if metB st.1 x.1 = true then st else (st.1 ++ [x.1], if x.2.2.1 = true then st.2 else intoP st.2 (mkP x.1 x.2.1))
def mapF (l : List entT.El) : List ByteArray × List pairT.El := l.foldl mapStep ([], [])
def mapL (l : List entT.El) : List pairT.El := (mapF l).2
theorem mapF_snoc (l : List entT.El) (x : entT.El) : mapF (l ++ [x]) = mapStep (mapF l) x := by
  unfold mapF
  rw [List.foldl_append]
  rfl
def valE (o : Option entT.El) : Option ByteArray := match o with | some x => if x.2.2.1 = true then none else some x.2.1 | none => none
/-- The value of a key. -/
def getM (l : List entT.El) (k : ByteArray) : Option ByteArray := valE (firstK l k)
theorem list_snoc {α : Type} {p : List α → Prop} (h0 : p []) (h1 : ∀ l x, p l → p (l ++ [x])) : ∀ l, p l := by
  intro l
  suffices ∀ r : List α, p r.reverse by simpa using this l.reverse
  intro r
  induction r with
  | nil => exact h0
  | cons x r ih => rw [List.reverse_cons]; exact h1 _ _ ih
theorem getM_snoc (l : List entT.El) (x : entT.El) (k : ByteArray) : getM (l ++ [x]) k = if (firstK l k).isSome = true then getM l k else if x.1 = k then valE (some x) else none := by
  unfold getM
  rw [firstK_append, firstK_one]
  cases firstK l k with
  | some y => simp
  | none =>
    by_cases h : x.1 = k
    · simp [h]
    · simp [h, valE]
theorem mapF_inv : ∀ l : List entT.El, ascP (mapL l) ∧ (∀ p : pairT.El, p ∈ mapL l ↔ getM l p.1 = some p.2.1) ∧ ∀ k, metB (mapF l).1 k = (firstK l k).isSome := by
  refine list_snoc ⟨List.Pairwise.nil, fun p => ?_, fun k => rfl⟩ ?_
  · constructor
    · intro h; cases h
    · intro h; cases h
  · rintro l x ⟨ha, hm, hk⟩
    have hs := mapF_snoc l x
    have hkx := hk x.1
    unfold mapStep at hs
    by_cases hb : metB (mapF l).1 x.1 = true
    · rw [if_pos hb] at hs
      have hsm : (firstK l x.1).isSome = true := by rw [← hkx]; exact hb
      have hl : mapL (l ++ [x]) = mapL l := by unfold mapL; rw [hs]
      refine ⟨by rw [hl]; exact ha, fun p => ?_, fun k => ?_⟩
      · rw [hl, hm p, getM_snoc]
        by_cases h1 : (firstK l p.1).isSome = true
        · rw [if_pos h1]
        · rw [if_neg h1, if_neg (fun e => h1 (by rw [← e]; exact hsm))]
          have : firstK l p.1 = none := by simpa using h1
          unfold getM
          rw [this]
          simp [valE]
      · rw [hs, hk k, firstK_append, firstK_one, Option.isSome_or]
        by_cases h1 : x.1 = k
        · rw [← h1, hsm]; simp
        · simp [h1]
    · rw [if_neg hb] at hs
      have hno : firstK l x.1 = none := by
        rw [hkx] at hb
        simpa using hb
      have hnk : ∀ q ∈ mapL l, q.1 ≠ x.1 := by
        intro q hq e
        have := (hm q).1 hq
        unfold getM at this
        rw [e, hno] at this
        cases this
      refine ⟨?_, fun p => ?_, fun k => ?_⟩
      · unfold mapL
        rw [hs]
        simp only
        split
        · exact ha
        · exact into_asc ha hnk
      · have hl : mapL (l ++ [x]) = if x.2.2.1 = true then mapL l else intoP (mapL l) (mkP x.1 x.2.1) := by unfold mapL; rw [hs]
        rw [hl, getM_snoc]
        by_cases h1 : (firstK l p.1).isSome = true
        · rw [if_pos h1]
          have hne : x.1 ≠ p.1 := by
            intro e
            rw [← e, hno] at h1
            cases h1
          split
          · exact hm p
          · rw [mem_into, hm p]
            constructor
            · rintro (rfl | h)
              · exact absurd rfl hne
              · exact h
            · exact .inr
        · rw [if_neg h1]
          have hnp : firstK l p.1 = none := by simpa using h1
          have hnm : p ∉ mapL l := by
            intro h
            have := (hm p).1 h
            unfold getM at this
            rw [hnp] at this
            cases this
          by_cases he : x.1 = p.1
          · rw [if_pos he]
            simp only [valE]
            split
            · exact ⟨fun h => absurd h hnm, fun h => by cases h⟩
            · rw [mem_into]
              constructor
              · rintro (rfl | h)
                · rfl
                · exact absurd h hnm
              · intro h
                left
                obtain ⟨k, v, u⟩ := p
                simp only at he h
                cases h
                subst he
                rfl
          · rw [if_neg he]
            refine ⟨fun h => ?_, fun h => by cases h⟩
            split at h
            · exact absurd h hnm
            · rcases mem_into.1 h with rfl | h
              · exact absurd rfl he
              · exact absurd h hnm
      · have h2 : metB (mapF (l ++ [x])).1 k = (metB (mapF l).1 k || sEq x.1 k) := by
          rw [hs]
          simp [metB]
        rw [h2, hk k, firstK_append, firstK_one, Option.isSome_or]
        by_cases h1 : x.1 = k
        · simp [h1, sEq_iff.2]
        · simp [h1, sEq_no.2 h1]
theorem mapL_asc (l : List entT.El) : ascP (mapL l) := (mapF_inv l).1
theorem mapL_mem (l : List entT.El) (p : pairT.El) : p ∈ mapL l ↔ getM l p.1 = some p.2.1 := (mapF_inv l).2.1 p
theorem mapF_met (l : List entT.El) (k : ByteArray) : metB (mapF l).1 k = (firstK l k).isSome := (mapF_inv l).2.2 k
/-- What has the same members, ascending, is the map. -/
theorem mapL_eq {l : List entT.El} {m : List pairT.El} (ha : ascP m) (h : ∀ p, p ∈ m ↔ getM l p.1 = some p.2.1) : m = mapL l :=
  asc_ext ha (mapL_asc l) (fun p => (h p).trans (mapL_mem l p).symm)
theorem mapL_ext {l l' : List entT.El} (h : ∀ k, getM l k = getM l' k) : mapL l = mapL l' :=
  mapL_eq (mapL_asc l) (fun p => (mapL_mem l p).trans (by rw [h]))
theorem getM_mem {l : List entT.El} {k v : ByteArray} (h : getM l k = some v) : ∃ x ∈ l, x.1 = k ∧ x.2.2.1 = false ∧ x.2.1 = v := by
  unfold getM at h
  cases hf : firstK l k with
  | none => rw [hf] at h; cases h
  | some x =>
    rw [hf] at h
    simp only [valE] at h
    split at h
    · cases h
    · rename_i hd
      obtain ⟨h1, h2⟩ := firstK_some hf
      exact ⟨x, h1, h2, by simpa using hd, by cases h; rfl⟩
end Go.Proofs.Ytekkeajcmibbaaa
