/-
  Merging lists: plain laws.
-/
import Derived.Test.YtjlfkgffgnkflaaDj
namespace Go.Proofs.Ytjlfkgffgnkflaa
open Av Lz

/-- What is put behind a list, so that it stays ascending. -/
def pick (acc : List ByteArray) (s : ByteArray) : ByteArray := match acc[acc.length - 1]? with
  | some y => if sLt s y then y else s
  | none => s
def asc (l : List ByteArray) : List ByteArray := l.foldl (fun acc s => acc ++ [pick acc s]) []
theorem asc_take {l : List ByteArray} {k : Nat} {s : ByteArray} (h : l[k]? = some s) : asc (l.take (k + 1)) = asc (l.take k) ++ [pick (asc (l.take k)) s] := by
  rw [List.take_add_one, h, asc, List.foldl_append]
  rfl
theorem asc_nil : asc [] = [] := rfl
theorem asc_foldl_len (l acc : List ByteArray) : (l.foldl (fun acc s => acc ++ [pick acc s]) acc).length = acc.length + l.length := by
  induction l generalizing acc with
  | nil => rfl
  | cons x l ih => rw [List.foldl_cons, ih, List.length_append, List.length_cons, List.length_cons, List.length_nil]; omega
theorem asc_len (l : List ByteArray) : (asc l).length = l.length := by rw [asc, asc_foldl_len, List.length_nil, Nat.zero_add]
def hdK (l : List ByteArray) : keyT.El := match l[0]? with
  | some x => (x, false, ())
  | none => (⟨#[]⟩, true, ())
def cnt : List (List ByteArray) → Nat
  | [] => 0
  | l :: ls => l.length + cnt ls
theorem cnt_append (a b : List (List ByteArray)) : cnt (a ++ b) = cnt a + cnt b := by
  induction a with
  | nil => simp [cnt]
  | cons x a ih => simp only [List.cons_append, cnt, ih]; omega
theorem keys_step {A : List keyT.El} {own : List ByteArray} {i : Nat} {x0 : ByteArray} {z : keyT.El} (hA : A.length = i) (h0 : own[0]? = some x0) (hz : (A ++ [((⟨#[]⟩ : ByteArray), ((own.length : Int) == 0), ())])[i]? = some z) : (A ++ [((⟨#[]⟩ : ByteArray), ((own.length:Int) == 0), ())]).set i (x0, z.2.1, ()) = A ++ [hdK own] := by
  subst hA
  rw [List.getElem?_append_right (Nat.le_refl _), Nat.sub_self] at hz
  cases hz
  rw [List.set_append_right _ _ (Nat.le_refl _), Nat.sub_self]
  have h1 : 0 < own.length := (List.getElem?_eq_some_iff.1 h0).1
  have h2 : ((own.length : Int) == 0) = false := by rw [beq_eq_false_iff_ne]; omega
  simp only [List.set_cons_zero, hdK, h0, h2]
theorem keys_nil {A : List keyT.El} {own : List ByteArray} (h : ¬ (0 : Int) < (own.length : Int)) : A ++ [((⟨#[]⟩ : ByteArray), ((own.length : Int) == 0), ())] = A ++ [hdK own] := by
  have h0 : own = [] := List.eq_nil_of_length_eq_zero (by omega)
  subst h0
  rfl
theorem two_heap {A A' : List keyT.El} {B B' : List (List ByteArray)} {g : Nat} (hA : A = A') (hB : B = B') : [AObj.arr 39 keyT A false g, .arr 47 (.sl .str) B false g] = [AObj.arr 39 keyT A' false g, .arr 47 (.sl .str) B' false g] := by rw [hA, hB]
/-! ### Strings -/
theorem sLt_irr (a : ByteArray) : sLt a a = false := Bk.bl_irrefl _
theorem sLt_asym {a b : ByteArray} (h : sLt a b = true) : sLt b a = false := by
  cases hb : sLt b a with
  | false => rfl
  | true =>
    have := Bk.bl_trans _ _ _ h hb
    rw [Bk.bl_irrefl] at this
    cases this
theorem sEq_refl' (a : ByteArray) : sEq a a = true := sEq_iff.2 rfl
/-! ### What is put together is ascending -/
theorem pick_ge (acc : List ByteArray) (s y : ByteArray) (h : acc[acc.length - 1]? = some y) : sLt (pick acc s) y = false := by
  simp only [pick, h]
  cases hs : sLt s y with
  | true => rw [if_pos rfl]; exact sLt_irr y
  | false => rw [if_neg (by decide)]; exact hs
theorem asc_up (l : List ByteArray) : ∀ (n : Nat), n ≤ l.length → ∀ (k : Nat) (x y : ByteArray), (asc (l.take n))[k]? = some x → (asc (l.take n))[k + 1]? = some y → sLt y x = false
  | 0, _, k, x, y, hx, _ => by rw [List.take_zero, asc_nil] at hx; simp at hx
  | n + 1, hn, k, x, y, hx, hy => by
    obtain ⟨s, hs⟩ : ∃ s, l[n]? = some s := ⟨_, List.getElem?_eq_getElem (by omega)⟩
    rw [asc_take hs] at hx hy
    have hl : (asc (l.take n)).length = n := by rw [asc_len, List.length_take]; omega
    have hk : k + 1 < n + 1 := by
      have := (List.getElem?_eq_some_iff.1 hy).1
      rw [List.length_append, hl] at this
      exact this
    rw [List.getElem?_append_left (by omega)] at hx
    by_cases hkn : k + 1 = n
    · rw [List.getElem?_append_right (by omega), hl, show k + 1 - n = 0 by omega] at hy
      cases hy
      exact pick_ge _ _ _ (by rw [hl, show n - 1 = k by omega]; exact hx)
    · rw [List.getElem?_append_left (by omega)] at hy
      exact asc_up l n (by omega) k x y hx hy
theorem asc_asc {l : List ByteArray} {k : Nat} {x y : ByteArray} (hx : (asc l)[k]? = some x) (hy : (asc l)[k + 1]? = some y) : sLt y x = false := by
  have := asc_up l l.length (Nat.le_refl _) k x y
  rw [List.take_length] at this
  exact this hx hy
/-! ### Sums -/
def tot (f : Nat → Nat) : Nat → Nat
  | 0 => 0
  | n + 1 => tot f n + f n
theorem tot_le {a f : Nat → Nat} : ∀ n, (∀ i, i < n → a i ≤ f i) → tot a n ≤ tot f n
  | 0, _ => Nat.le_refl _
  | n + 1, h => by
    have := tot_le n (fun i hi => h i (by omega))
    have := h n (by omega)
    simp only [tot]; omega
theorem tot_lt {a f : Nat → Nat} : ∀ n, tot a n < tot f n → ∃ i, i < n ∧ a i < f i
  | 0, h => by simp [tot] at h
  | n + 1, h => by
    simp only [tot] at h
    by_cases hn : a n < f n
    · exact ⟨n, by omega, hn⟩
    · obtain ⟨i, h1, h2⟩ := tot_lt (a := a) (f := f) n (by omega)
      exact ⟨i, by omega, h2⟩
theorem tot_eq {a f : Nat → Nat} : ∀ n, (∀ i, i < n → a i ≤ f i) → tot a n = tot f n → ∀ i, i < n → a i = f i
  | 0, _, _, i, hi => by omega
  | n + 1, h, he, i, hi => by
    simp only [tot] at he
    have h1 := tot_le n (fun i hi => h i (by omega))
    have h2 := h n (by omega)
    by_cases hin : i = n
    · subst hin; omega
    · exact tot_eq n (fun i hi => h i (by omega)) (by omega) i (by omega)
def upd (a : Nat → Nat) (p i : Nat) : Nat := if i = p then a p + 1 else a i
theorem upd_self (a : Nat → Nat) (p : Nat) : upd a p p = a p + 1 := if_pos rfl
theorem upd_ne {a : Nat → Nat} {p i : Nat} (h : i ≠ p) : upd a p i = a i := if_neg h
theorem tot_upd {a : Nat → Nat} {p : Nat} : ∀ n, tot (upd a p) n = tot a n + if p < n then 1 else 0
  | 0 => rfl
  | n + 1 => by
    simp only [tot, tot_upd n]
    by_cases h : p = n
    · subst h
      rw [upd_self, if_neg (by omega), if_pos (by omega)]; omega
    · rw [upd_ne (fun e => h e.symm)]
      by_cases h2 : p < n
      · rw [if_pos h2, if_pos (by omega)]; omega
      · rw [if_neg h2, if_neg (by omega)]; omega
theorem tot_zero : ∀ n, tot (fun _ => 0) n = 0
  | 0 => rfl
  | n + 1 => by simp only [tot, tot_zero n]
def lenA (L : List (List ByteArray)) (i : Nat) : Nat := match L[i]? with | some l => l.length | none => 0
theorem tot_congr {f g : Nat → Nat} : ∀ n, (∀ i, i < n → f i = g i) → tot f n = tot g n
  | 0, _ => rfl
  | n + 1, h => by simp only [tot, tot_congr n (fun i hi => h i (by omega)), h n (by omega)]
theorem cnt_tot (ls : List (List ByteArray)) : ∀ n, n ≤ ls.length → cnt (ls.take n) = tot (lenA ls) n
  | 0, _ => by rw [List.take_zero]; rfl
  | n + 1, h => by
    obtain ⟨x, hx⟩ : ∃ x, ls[n]? = some x := ⟨_, List.getElem?_eq_getElem (by omega)⟩
    rw [List.take_add_one, hx, cnt_append, cnt_tot ls n (by omega)]
    simp only [tot, lenA, hx]
    rfl
theorem cnt_asc (ls : List (List ByteArray)) : cnt ls = tot (lenA (ls.map asc)) (ls.map asc).length := by
  have h := cnt_tot ls ls.length (Nat.le_refl _)
  rw [List.take_length] at h
  rw [h, List.length_map]
  refine tot_congr _ fun i hi => ?_
  simp only [lenA, List.getElem?_map]
  cases ls[i]? with
  | none => rfl
  | some x => exact (asc_len x).symm
/-! ### Heads -/
def hdAt (L : List (List ByteArray)) (a : Nat → Nat) (i : Nat) : keyT.El := match L[i]? with
  | some l => match l[a i]? with
    | some x => (x, false, ())
    | none => (⟨#[]⟩, true, ())
  | none => (⟨#[]⟩, true, ())
def hds (L : List (List ByteArray)) (a : Nat → Nat) : List keyT.El := (List.range L.length).map (hdAt L a)
theorem hds_len (L : List (List ByteArray)) (a : Nat → Nat) : (hds L a).length = L.length := by simp [hds]
theorem hds_get (L : List (List ByteArray)) (a : Nat → Nat) {i : Nat} (h : i < L.length) : (hds L a)[i]? = some (hdAt L a i) := by simp [hds, h]
theorem hds_upd (L : List (List ByteArray)) (a : Nat → Nat) (p : Nat) : (hds L a).set p (hdAt L (upd a p) p) = hds L (upd a p) := by
  apply List.ext_getElem?
  intro i
  rw [List.getElem?_set]
  by_cases hi : i < L.length
  · by_cases hp : p = i
    · subst hp
      rw [if_pos rfl, if_pos (by rw [hds_len]; exact hi), hds_get _ _ hi]
    · rw [if_neg hp, hds_get _ _ hi, hds_get _ _ hi]
      simp only [hdAt, upd_ne (fun e => hp e.symm)]
  · rw [List.getElem?_eq_none (l := hds L (upd a p)) (by rw [hds_len]; omega)]
    split
    · rw [if_neg (by rw [hds_len]; omega)]
    · rw [List.getElem?_eq_none (by rw [hds_len]; omega)]
theorem hds_zero (ls : List (List ByteArray)) : (ls.map fun l => hdK (asc l)) = hds (ls.map asc) (fun _ => 0) := by
  apply List.ext_getElem?
  intro i
  by_cases hi : i < ls.length
  · rw [hds_get _ _ (by rw [List.length_map]; exact hi), List.getElem?_map]
    obtain ⟨x, hx⟩ : ∃ x, ls[i]? = some x := ⟨_, List.getElem?_eq_getElem hi⟩
    simp only [hx, hdAt, hdK, List.getElem?_map, Option.map_some]
    rfl
  · rw [List.getElem?_eq_none (by rw [List.length_map]; omega), List.getElem?_eq_none (by rw [hds_len, List.length_map]; omega)]
theorem hdAt_good (L : List (List ByteArray)) (a : Nat → Nat) (i : Nat) : badK (hdAt L a i) = false := by
  unfold hdAt
  split
  · split <;> rfl
  · rfl
theorem hds_right {L : List (List ByteArray)} (a : Nat → Nat) (h1 : 1 ≤ L.length) (h2 : L.length ≤ 32) : rightE (hds L a) = 0 := by
  refine rightE_of (by rw [hds_len]; exact h1) (by rw [hds_len]; exact h2) fun x hx => ?_
  unfold hds at hx
  obtain ⟨i, _, rfl⟩ := List.mem_map.1 hx
  exact hdAt_good L a i
def aL (n : Nat) (a : Nat → Nat) : List intT.El := (List.range n).map fun i => ((a i : Nat) : Int)
theorem aL_len (n : Nat) (a : Nat → Nat) : (aL n a).length = n := by simp [aL]
theorem aL_get {n i : Nat} (a : Nat → Nat) (h : i < n) : (aL n a)[i]? = some ((a i : Nat) : Int) := by simp [aL, h]
theorem aL_set {n p : Nat} (a : Nat → Nat) : (aL n a).set p (((a p : Nat) : Int) + 1) = aL n (upd a p) := by
  apply List.ext_getElem?
  intro i
  rw [List.getElem?_set]
  by_cases hi : i < n
  · by_cases hp : p = i
    · subst hp
      rw [if_pos rfl, if_pos (by rw [aL_len]; exact hi), aL_get _ hi, upd_self]
      rfl
    · rw [if_neg hp, aL_get _ hi, aL_get _ hi, upd_ne (fun e => hp e.symm)]
  · rw [List.getElem?_eq_none (l := aL n (upd a p)) (by rw [aL_len]; omega)]
    split
    · rw [if_neg (by rw [aL_len]; omega)]
    · rw [List.getElem?_eq_none (by rw [aL_len]; omega)]
theorem aL_zero (n : Nat) : List.replicate n (0 : Int) = aL n (fun _ => 0) := by
  apply List.ext_getElem?
  intro i
  by_cases hi : i < n
  · rw [aL_get _ hi]; simp [hi]
  · rw [List.getElem?_eq_none (by simp; omega), List.getElem?_eq_none (by rw [aL_len]; omega)]
/-! ### Who comes next -/
/-- What was put out last comes before all that is left. -/
def lastOk (L : List (List ByteArray)) (a : Nat → Nat) (lk : ByteArray) (ll : Int) : Prop :=
  ∀ i l x, L[i]? = some l → l[a i]? = some x → sLt x lk = false ∧ (sEq x lk = true → ll ≤ i)
def ascs (L : List (List ByteArray)) : Prop := ∀ (l : List ByteArray), l ∈ L → ∀ (k : Nat) (x y : ByteArray), l[k]? = some x → l[k + 1]? = some y → sLt y x = false
structure Next (L : List (List ByteArray)) (a : Nat → Nat) (lk : ByteArray) (ll : Int) (q : Nat) (l : List ByteArray) (x : ByteArray) : Prop where
  hl : L[q]? = some l
  hx : l[a q]? = some x
  wP : wP (hds L a) (loseL (hds L a)) (winI (hds L a)) = (q : Int)
  wK : wK (hds L a) (loseL (hds L a)) (winI (hds L a)) = x
  wE : opE (hds L a) (loseL (hds L a)) (winI (hds L a)) = 0
  old : sLt x lk = false ∧ (sEq x lk = true → ll ≤ q)
  last : lastOk L (upd a q) x q
  rE : repE (hds L a) (loseL (hds L a)) (winI (hds L a)) (hdAt L (upd a q) q) = 0
  K : rK (hds L a) (loseL (hds L a)) (winI (hds L a)) (hdAt L (upd a q) q).1 (hdAt L (upd a q) q).2.1 = hds L (upd a q)
  Lo : rL (hds L a) (loseL (hds L a)) (winI (hds L a)) (hdAt L (upd a q) q).1 (hdAt L (upd a q) q).2.1 = loseL (hds L (upd a q))
  W : rW (hds L a) (loseL (hds L a)) (winI (hds L a)) (hdAt L (upd a q) q).1 (hdAt L (upd a q) q).2.1 = winI (hds L (upd a q))
theorem op_hds {L : List (List ByteArray)} {a : Nat → Nat} (h1 : 1 ≤ L.length) (h2 : L.length ≤ 32) : opE (hds L a) (loseL (hds L a)) (winI (hds L a)) = if (hdAt L a (pl (hds L a) 1).1).2.1 = true then 12 else 0 := by
  have hr := hds_right a h1 h2
  have hq : (pl (hds L a) 1).1 < L.length := by
    have := pl_lt1 (ks := hds L a) (node := 1) (Nat.le_refl _) (by rw [hds_len]; omega)
    rwa [hds_len] at this
  unfold opE
  rw [chk_tree hr, if_neg (by simp)]
  unfold winI
  rw [keyAt_get (hds_get L a hq)]
theorem hdAt_live {L : List (List ByteArray)} {a : Nat → Nat} {i : Nat} {l : List ByteArray} {x : ByteArray} (hl : L[i]? = some l) (hx : l[a i]? = some x) : hdAt L a i = (x, false, ()) := by
  simp only [hdAt, hl, hx]
theorem hdAt_not {L : List (List ByteArray)} {a : Nat → Nat} {i : Nat} (h : (hdAt L a i).2.1 = false) : ∃ l x, L[i]? = some l ∧ l[a i]? = some x := by
  unfold hdAt at h
  split at h
  · rename_i l hl
    split at h
    · rename_i x hx
      exact ⟨l, x, hl, hx⟩
    · cases h
  · cases h
theorem next_of {L : List (List ByteArray)} {a : Nat → Nat} {lk : ByteArray} {ll : Int} (h1 : 1 ≤ L.length) (h2 : L.length ≤ 32) (ha : ascs L) (ho : lastOk L a lk ll) (hlive : ∃ i, i < L.length ∧ a i < lenA L i) : ∃ q l x, Next L a lk ll q l x := by
  obtain ⟨i0, hi0, hai⟩ := hlive
  obtain ⟨l0, hl0⟩ : ∃ l0, L[i0]? = some l0 := ⟨_, List.getElem?_eq_getElem hi0⟩
  simp only [lenA, hl0] at hai
  obtain ⟨x0, hx0⟩ : ∃ x0, l0[a i0]? = some x0 := ⟨_, List.getElem?_eq_getElem hai⟩
  have hr := hds_right a h1 h2
  have hop := op_hds (a := a) h1 h2
  have hq : (pl (hds L a) 1).1 < L.length := by
    have := pl_lt1 (ks := hds L a) (node := 1) (Nat.le_refl _) (by rw [hds_len]; omega)
    rwa [hds_len] at this
  have hbest : ∀ i, i < L.length → i = (pl (hds L a) 1).1 ∨ beatE (hdAt L a (pl (hds L a) 1).1) (hdAt L a i) (pl (hds L a) 1).1 i = true := by
    intro i hi
    rcases win_best (ks := hds L a) (p := i) (by rw [hds_len]; exact hi) with h | h
    · exact .inl h
    · right
      simpa only [winB, hds_get L a hq, hds_get L a hi] using h
  have hwin : winI (hds L a) = (((pl (hds L a) 1).1 : Nat) : Int) := rfl
  generalize (pl (hds L a) 1).1 = q at hq hbest hop hwin
  have hdone : (hdAt L a q).2.1 = false := by
    rcases hbest i0 hi0 with rfl | hb
    · rw [hdAt_live hl0 hx0]
    · rw [hdAt_live hl0 hx0] at hb
      cases hd : (hdAt L a q).2.1 with
      | false => rfl
      | true =>
        unfold beatE at hb
        rw [hd, if_neg (by simp)] at hb
        cases hb
  obtain ⟨l, x, hl, hx⟩ := hdAt_not hdone
  have hqx := hdAt_live hl hx
  rw [hdone, if_neg (by decide)] at hop
  have hbl : ∀ i l' y, i ≠ q → L[i]? = some l' → l'[a i]? = some y → (sEq x y = true ∧ q < i) ∨ (sEq x y = false ∧ sLt x y = true) := by
    intro i l' y hne hl' hy
    rcases hbest i (List.getElem?_eq_some_iff.1 hl').1 with h | h
    · exact absurd h hne
    · rw [hqx, hdAt_live hl' hy] at h
      unfold beatE at h
      rw [if_pos rfl] at h
      cases he : sEq x y with
      | true => rw [he, if_pos rfl] at h; exact .inl ⟨rfl, by simpa using h⟩
      | false => rw [he, if_neg (by decide)] at h; exact .inr ⟨rfl, h⟩
  have hbad := hdAt_good L (upd a q) q
  have hkey : keyAt (hds L a) (q : Int) = (x, false, ()) := by rw [keyAt_get (hds_get L a hq), hqx]
  have hrep : repE (hds L a) (loseL (hds L a)) (winI (hds L a)) (hdAt L (upd a q) q) = 0 := by
    unfold repE
    rw [if_neg (by rw [hop]; simp), hbad, if_neg (by decide), hwin, hkey, if_neg]
    intro hc
    rw [Bool.and_eq_true, Bool.not_eq_true'] at hc
    obtain ⟨l', y, hl', hy⟩ := hdAt_not hc.1
    rw [hl] at hl'
    cases hl'
    rw [upd_self] at hy
    rw [hdAt_live hl (by rw [upd_self]; exact hy)] at hc
    have := ha l (List.mem_of_getElem? hl) (a q) x y hx hy
    rw [this] at hc
    cases hc.2
  have hfull : hdAt L (upd a q) q = mkK (hdAt L (upd a q) q).1 (hdAt L (upd a q) q).2.1 := rfl
  obtain ⟨p, hf⟩ := repF (k := (hdAt L (upd a q) q).1) (d := (hdAt L (upd a q) q).2.1) (by rw [← hfull]; exact hrep)
  have hpq : p = q := by
    have h := hf.hw
    rw [hwin] at h
    omega
  subst hpq
  have hK := hf.K
  have hLo := hf.L
  have hW := hf.W
  rw [← hfull, hds_upd] at hK hLo hW
  refine ⟨p, l, x, hl, hx, ?_, ?_, hop, ho p l x hl hx, ?_, hrep, hK, hLo, hW⟩
  · unfold wP
    rw [hop, if_pos rfl, hwin]
  · unfold wK
    rw [hop, if_pos rfl, hwin, hkey]
  · intro i l' y hl' hy
    by_cases hip : i = p
    · subst hip
      rw [hl] at hl'
      cases hl'
      rw [upd_self] at hy
      exact ⟨ha l (List.mem_of_getElem? hl) (a i) x y hx hy, fun _ => Int.le_refl _⟩
    · rw [upd_ne hip] at hy
      rcases hbl i l' y hip hl' hy with ⟨h, h'⟩ | ⟨h, h'⟩
      · have := sEq_eq h
        subst this
        exact ⟨sLt_irr _, fun _ => by omega⟩
      · refine ⟨sLt_asym h', fun hc => ?_⟩
        rw [sEq_sym, h] at hc
        cases hc
theorem end_of {L : List (List ByteArray)} {a : Nat → Nat} (h1 : 1 ≤ L.length) (h2 : L.length ≤ 32) (hend : ∀ i, i < L.length → a i = lenA L i) : opE (hds L a) (loseL (hds L a)) (winI (hds L a)) = 12 := by
  rw [op_hds h1 h2]
  have hq : (pl (hds L a) 1).1 < L.length := by
    have := pl_lt1 (ks := hds L a) (node := 1) (Nat.le_refl _) (by rw [hds_len]; omega)
    rwa [hds_len] at this
  rw [if_pos]
  cases hd : (hdAt L a (pl (hds L a) 1).1).2.1 with
  | true => rfl
  | false =>
    obtain ⟨l, x, hl, hx⟩ := hdAt_not hd
    have h3 := hend _ hq
    simp only [lenA, hl] at h3
    have := (List.getElem?_eq_some_iff.1 hx).1
    omega
theorem ascs_asc (ls : List (List ByteArray)) : ascs (ls.map asc) := by
  intro l hl k x y hx hy
  obtain ⟨l', _, rfl⟩ := List.mem_map.1 hl
  exact asc_asc hx hy
theorem last_zero (L : List (List ByteArray)) (a : Nat → Nat) : lastOk L a ⟨#[]⟩ (-1) := by
  intro i l x _ _
  refine ⟨?_, fun _ => by omega⟩
  cases x with
  | mk x =>
    show Op.bytesLess x.toList [] = false
    cases x.toList <;> rfl
end Go.Proofs.Ytjlfkgffgnkflaa
