/-
  A view with runs merged, its buffer made a run, its last run without the dead: plain Lean.
  The law of moves.
-/
import Derived.Test.YtekkeajcmibbaaaPk
import Derived.Test.YtekkeajcmibbaaaLq
namespace Go.Proofs.Ytekkeajcmibbaaa
open Av Bk

theorem firstK_cons (x : entT.El) (l : List entT.El) (k : ByteArray) : firstK (x :: l) k = if x.1 = k then some x else firstK l k := by
  rw [show x :: l = [x] ++ l from rfl, firstK_append, firstK_one]
  by_cases h : x.1 = k
  · rw [if_pos h, if_pos h]; rfl
  · rw [if_neg h, if_neg h]; rfl
theorem drop_some {l : List entT.El} {i : Nat} {x : entT.El} (h : l[i]? = some x) : l.drop i = x :: l.drop (i + 1) := by
  have hi := (List.getElem?_eq_some_iff.1 h).1
  have he := (List.getElem?_eq_some_iff.1 h).2
  rw [List.drop_eq_getElem_cons hi, he]
theorem drop_none {l : List entT.El} {i : Nat} (h : l[i]? = none) : l.drop i = [] := List.drop_eq_nil_of_le (List.getElem?_eq_none_iff.1 h)
theorem mrg_first {a b : List entT.El} (ha : ascS a) (hb : ascS b) (k : ByteArray) : ∀ (n i j : Nat), (a.length - i) + (b.length - j) ≤ n → firstK (mrgL [a, b] n [(i : Int), (j : Int)]).1 k = firstK (a.drop i ++ b.drop j) k
  | 0, i, j, h => by
    rw [List.drop_eq_nil_of_le (by omega : a.length ≤ i), List.drop_eq_nil_of_le (by omega : b.length ≤ j)]
    rfl
  | n + 1, i, j, h => by
    have h0 : hdE [a, b] [(i : Int), (j : Int)] 0 = a[i]? := rfl
    have h1 : hdE [a, b] [(i : Int), (j : Int)] 1 = b[j]? := rfl
    have hL : ∀ x : entT.El, a[i]? = some x → bst [a, b] [(i : Int), (j : Int)] 2 = some 0 → firstK (mrgL [a, b] (n + 1) [(i : Int), (j : Int)]).1 k = firstK (a.drop i ++ b.drop j) k := by
      intro x hx hf
      have hlt := (List.getElem?_eq_some_iff.1 hx).1
      rw [mrg_step (f := 0) hf (h0.trans hx) rfl, drop_some hx, firstK_cons, List.cons_append, firstK_cons]
      rw [show ([(i : Int), (j : Int)].set 0 ((i : Int) + 1)) = [((i + 1 : Nat) : Int), (j : Int)] from rfl, mrg_first ha hb k n (i + 1) j (by omega)]
    have hR : ∀ y : entT.El, b[j]? = some y → (∀ z ∈ a.drop i, z.1 ≠ y.1) → bst [a, b] [(i : Int), (j : Int)] 2 = some 1 → firstK (mrgL [a, b] (n + 1) [(i : Int), (j : Int)]).1 k = firstK (a.drop i ++ b.drop j) k := by
      intro y hy hno hf
      have hlt := (List.getElem?_eq_some_iff.1 hy).1
      rw [mrg_step (f := 1) hf (h1.trans hy) rfl, drop_some hy, firstK_cons]
      rw [show ([(i : Int), (j : Int)].set 1 ((j : Int) + 1)) = [(i : Int), ((j + 1 : Nat) : Int)] from rfl, mrg_first ha hb k n i (j + 1) (by omega), firstK_append, firstK_append, firstK_cons]
      by_cases hk : y.1 = k
      · rw [if_pos hk, if_pos hk, firstK_none.2 (fun z hz => by rw [← hk]; exact hno z hz)]; rfl
      · rw [if_neg hk, if_neg hk]
    have hbst : bst [a, b] [(i : Int), (j : Int)] 2 = match b[j]?, a[i]? with
      | none, none => none
      | none, some _ => some 0
      | some _, none => some 1
      | some y, some x => if sLt y.1 x.1 = true then some 1 else some 0 := by
      rw [bst, bst, bst, h1, h0]
      cases hx : a[i]? with
      | none => cases hy : b[j]? <;> rfl
      | some x =>
        cases hy : b[j]? with
        | none => rfl
        | some y => simp only [h0, hx]
    cases hx : a[i]? with
    | none =>
      cases hy : b[j]? with
      | none =>
        rw [mrg_end (by rw [show [a, b].length = 2 from rfl, hbst, hx, hy]), drop_none hx, drop_none hy]
        rfl
      | some y =>
        refine hR y hy (by rw [drop_none hx]; simp) ?_
        rw [hbst, hx, hy]
    | some x =>
      cases hy : b[j]? with
      | none =>
        refine hL x hx ?_
        rw [hbst, hx, hy]
      | some y =>
        by_cases hlt : sLt y.1 x.1 = true
        · refine hR y hy (fun z hz e => ?_) (by rw [hbst, hx, hy]; exact if_pos hlt)
          rw [drop_some hx] at hz
          rcases List.mem_cons.1 hz with rfl | hz
          · rw [e, sLt_irrefl] at hlt; cases hlt
          · obtain ⟨m, hm⟩ := List.mem_iff_getElem?.1 hz
            rw [List.getElem?_drop] at hm
            have h2 := sLt_trans hlt (asc_rel ha (by omega : i < i + 1 + m) hx hm)
            rw [e, sLt_irrefl] at h2; cases h2
        · exact hL x hx (by rw [hbst, hx, hy]; exact if_neg hlt)
theorem mrgA_first {a b : List entT.El} (ha : ascS a) (hb : ascS b) (k : ByteArray) : firstK (mrgA [a, b]).1 k = firstK (a ++ b) k := by
  have := mrg_first ha hb k ([a, b].flatten.length + 1) 0 0 (by simp)
  exact this
/-! ### What Filter keeps -/
def fltO (bo : Bool) (o : Option entT.El) : Option entT.El := o.filter (fun x => !(bo && x.2.2.1))
theorem flt_first {bo : Bool} (k : ByteArray) : ∀ (l : List entT.El) (so : Bool) (last : ByteArray), l.Pairwise (fun x y => sLt y.1 x.1 = false) → (so = true → ∀ x ∈ l, sLt x.1 last = false) → firstK (fltGo bo so last l) k = if so = true ∧ k = last then none else fltO bo (firstK l k)
  | [], so, last, _, _ => by
    show none = _
    split <;> rfl
  | x :: l, so, last, hp, hs => by
    have hp' := List.pairwise_cons.1 hp
    have ih := flt_first (bo := bo) k l true x.1 hp'.2 (fun _ y hy => hp'.1 y hy)
    simp only [true_and] at ih
    rw [fltGo, firstK_append, ih, firstK_cons]
    by_cases hd : so = true ∧ x.1 = last
    · have hst : stepK so last bo x.1 x.2.2.1 = false := by
        unfold stepK; rw [hd.1, sEq_iff.2 hd.2]; rfl
      rw [hst, if_neg (by decide)]
      show (none : Option entT.El).or _ = _
      rw [Option.none_or]
      by_cases hk : k = x.1
      · rw [if_pos hk, if_pos ⟨hd.1, hk.trans hd.2⟩]
      · rw [if_neg hk, if_neg (fun e => hk (e.2.trans hd.2.symm)), if_neg (fun e => hk e.symm)]
    · have hst : stepK so last bo x.1 x.2.2.1 = !(bo && x.2.2.1) := by
        unfold stepK
        cases hso : so with
        | false => simp
        | true =>
          have : sEq x.1 last = false := sEq_no.2 (fun e => hd ⟨hso, e⟩)
          rw [this]; simp
      rw [hst]
      by_cases hk : x.1 = k
      · rw [if_pos hk.symm, if_neg (show ¬ (so = true ∧ k = last) from fun e => hd ⟨e.1, hk.trans e.2⟩), if_pos hk]
        unfold fltO
        rw [Option.or_none]
        cases hb : !(bo && x.2.2.1) with
        | true => rw [if_pos rfl, firstK_one, if_pos hk, Option.filter_some, if_pos hb]
        | false => rw [if_neg (by decide), Option.filter_some, if_neg (by rw [hb]; decide)]; rfl
      · rw [if_neg (show ¬ k = x.1 from fun e => hk e.symm), if_neg hk]
        have hone : firstK (if (!(bo && x.2.2.1)) = true then [x] else []) k = none := by
          split
          · rw [firstK_one, if_neg hk]
          · rfl
        rw [hone, Option.none_or]
        by_cases hkl : so = true ∧ k = last
        · rw [if_pos hkl]
          have h1 := hs hkl.1 x (by simp)
          have h2 : sLt last x.1 = true := sLt_of h1 (fun e => hd ⟨hkl.1, e⟩)
          rw [firstK_none.2 (fun z hz e => ?_)]
          · rfl
          · have h3 := hp'.1 z hz
            rw [e, hkl.2, h2] at h3; cases h3
        · rw [if_neg hkl]
theorem live_first (k : ByteArray) : ∀ {l : List entT.El}, ascS l → firstK (liveL l) k = fltO true (firstK l k)
  | [], _ => rfl
  | x :: l, ha => by
    have ih := live_first k (ascS_tail ha)
    rw [firstK_cons]
    unfold liveL at ih ⊢
    rw [List.filter_cons]
    by_cases hk : x.1 = k
    · rw [if_pos hk]
      cases hd : x.2.2.1 with
      | false =>
        rw [if_pos (by rfl), firstK_cons, if_pos hk]
        unfold fltO
        rw [Option.filter_some, if_pos (by rw [hd]; rfl)]
      | true =>
        rw [if_neg (by decide), ih]
        unfold fltO
        rw [Option.filter_some, if_neg (by rw [hd]; decide), firstK_none.2 (fun z hz e => ?_)]
        · rfl
        · obtain ⟨m, hm⟩ := List.mem_iff_getElem?.1 hz
          have := ascS_head ha hm
          rw [hk, e, sLt_irrefl] at this; cases this
    · rw [if_neg hk]
      cases x.2.2.1
      · rw [if_pos (by rfl), firstK_cons, if_neg hk, ih]
      · rw [if_neg (by decide), ih]
theorem valE_flt (bo : Bool) (o : Option entT.El) : valE (fltO bo o) = valE o := by
  cases o with
  | none => rfl
  | some x =>
    unfold fltO
    rw [Option.filter_some]
    by_cases h : (!(bo && x.2.2.1)) = true
    · rw [if_pos h]
    · rw [if_neg h]
      cases hb : bo <;> rw [hb] at h
      · exact absurd rfl h
      · have : x.2.2.1 = true := by simpa using h
        simp [valE, this]
theorem fltO_false (o : Option entT.El) : fltO false o = o := by
  cases o with
  | none => rfl
  | some x => rfl
/-! ### The map is the same -/
theorem map_ext {l m : List entT.El} (h : ∀ k, getM l k = getM m k) : mapL l = mapL m :=
  asc_ext (mapL_asc l) (mapL_asc m) (fun p => by rw [mapL_mem, mapL_mem, h])
/-- A part of a list is put in place of another with the same first entries, but for the dead if nothing is behind it. -/
theorem map_part {P A B Q : List entT.El} {bo : Bool} (h : ∀ k, firstK B k = fltO bo (firstK A k)) (hq : bo = true → Q = []) : mapL (P ++ (B ++ Q)) = mapL (P ++ (A ++ Q)) := by
  refine map_ext fun k => ?_
  unfold getM
  rw [firstK_append, firstK_append, firstK_append, firstK_append, h]
  cases firstK P k with
  | some x => rfl
  | none =>
    rw [Option.none_or, Option.none_or]
    cases hb : bo with
    | false => rw [fltO_false]
    | true =>
      rw [hq hb]
      show valE ((fltO true (firstK A k)).or none) = valE ((firstK A k).or none)
      rw [Option.or_none, Option.or_none, valE_flt]
theorem allE_app (b : List entT.El) (r s : List runT.El) : allE b (r ++ s) = allE b r ++ (s.map (fun x => x.2.1)).flatten := by
  show (b :: (r ++ s).map (fun x => x.2.1)).flatten = (b :: r.map (fun x => x.2.1)).flatten ++ _
  rw [List.map_append, List.flatten_cons, List.flatten_cons, List.flatten_append, List.append_assoc]
/-- The run that is put in, if there is anything in it. -/
def oneR (id : Int) (l : List entT.El) : List runT.El := if l = [] then [] else [(id, l, ())]
theorem oneR_flat (id : Int) (l : List entT.El) : ((oneR id l).map (fun x => x.2.1)).flatten = l := by
  unfold oneR
  split
  · rename_i h; rw [h]; rfl
  · simp
theorem all_buf (b : List entT.El) (rs : List runT.El) (id : Int) : allE [] ((id, b, ()) :: rs) = allE b rs := rfl
theorem all_merge {b : List entT.El} {rs : List runT.El} {i : Nat} {x y : runT.El} (hx : rs[i]? = some x) (hy : rs[i + 1]? = some y) (h1 : ascS x.2.1) (h2 : ascS y.2.1) (id : Int) : mapL (allE b (rs.take i ++ (oneR id (fltGo (decide (i + 2 = rs.length)) false ⟨#[]⟩ (mrgA [x.2.1, y.2.1]).1) ++ rs.drop (i + 2)))) = mapL (allE b rs) := by
  have hi := (List.getElem?_eq_some_iff.1 hx).1
  have hi2 := (List.getElem?_eq_some_iff.1 hy).1
  have hrs : allE b rs = allE b (rs.take i) ++ ((x.2.1 ++ y.2.1) ++ ((rs.drop (i + 2)).map (fun x => x.2.1)).flatten) := by
    conv => lhs; rw [← List.take_append_drop i rs, List.drop_eq_getElem_cons hi, (List.getElem?_eq_some_iff.1 hx).2, List.drop_eq_getElem_cons hi2, (List.getElem?_eq_some_iff.1 hy).2]
    rw [allE_app]
    simp [List.append_assoc]
  rw [allE_app, List.map_append, List.flatten_append, oneR_flat, hrs]
  refine map_part (bo := decide (i + 2 = rs.length)) (fun k => ?_) (fun h => ?_)
  · have hu : (mrgA [x.2.1, y.2.1]).1.Pairwise (fun x y => sLt y.1 x.1 = false) := mrg_up (by simp [h1, h2]) _ _
    rw [flt_first k _ _ _ hu (by simp), if_neg (by simp), ← mrgA_first h1 h2]
  · rw [List.drop_eq_nil_of_le (by have := of_decide_eq_true h; omega)]; rfl
theorem all_live {b : List entT.El} {rs : List runT.El} {n : Nat} {x : runT.El} (hn : rs.length = n + 1) (hx : rs[n]? = some x) (h1 : ascS x.2.1) (id : Int) : mapL (allE b (rs.take n ++ oneR id (liveL x.2.1))) = mapL (allE b rs) := by
  have hi := (List.getElem?_eq_some_iff.1 hx).1
  have hrs : allE b rs = allE b (rs.take n) ++ (x.2.1 ++ []) := by
    conv => lhs; rw [← List.take_append_drop n rs, List.drop_eq_getElem_cons hi, (List.getElem?_eq_some_iff.1 hx).2, List.drop_eq_nil_of_le (by omega)]
    rw [allE_app]
    simp
  rw [allE_app, oneR_flat, hrs, ← List.append_nil (liveL x.2.1)]
  exact map_part (bo := true) (fun k => live_first k h1) (fun _ => rfl)
end Go.Proofs.Ytekkeajcmibbaaa
namespace Go.Proofs.Ytekkeajcmibbaaa
open Av Bk

theorem vc_ids {b : List entT.El} {rs : List runT.El} (h : (vcL b rs).2 = 0) : ∀ r ∈ rs, 1 ≤ r.1 ∧ r.1 ≤ 1000000 := by
  have key : ∀ (rs pre : List runT.El), (vcGo pre rs).2 = 0 → ∀ r ∈ rs, 1 ≤ r.1 ∧ r.1 ≤ 1000000 := by
    intro rs
    induction rs with
    | nil => intro _ _ r hr; cases hr
    | cons x l ih =>
      intro pre h
      rw [vcGo] at h
      split at h
      · rename_i he; exact absurd h he
      · rename_i he
        split at h
        · cases h
        · intro r hr
          rcases List.mem_cons.1 hr with rfl | hr
          · have he : (rcL r).2 = 0 := by simpa using he
            unfold rcL at he
            split at he
            · cases he
            · rename_i hh
              have h3 : ¬ r.1 < 1 := fun e => hh (.inl e)
              have h4 : ¬ (1000000 : Int) < r.1 := fun e => hh (.inr e)
              exact ⟨Int.not_lt.1 h3, Int.not_lt.1 h4⟩
          · exact ih _ h r hr
  unfold vcL at h
  split at h
  · cases h
  · split at h
    · rename_i he; exact absurd h he
    · split at h
      · cases h
      · exact key _ _ h
theorem take_id {b : List entT.El} {rs : List runT.El} {id : Nat} (h : (vcL b rs).2 = 0) (ht : rs.any (fun r => r.1 == (id : Int)) = true) : id ≤ 1000000 := by
  obtain ⟨r, hr, he⟩ := List.any_eq_true.1 ht
  have h1 := vc_ids h r hr
  have h2 : r.1 = (id : Int) := by simpa using he
  have h3 : (id : Int) ≤ 1000000 := h2 ▸ h1.2
  omega
/-- A loop that leaves memory as it is. -/
theorem loop_same {ms : List Nat} {body : (Tr → Hp → Prop) → Tr → Hp → Prop} {f : Tr} {h : Hp} {H : Hp} (nz : List NZ) (cs : List Nat) (J : List AV → Prop) (μ : List AV → Nat) (hh : normK nz f h fun f h => (J (cs.map f.get) ∧ h = H) ∧
    ∀ vs h', vs.length = cs.length → (J vs ∧ h' = H) →
      eraseK f ms fun f0 => setsK f0 cs vs fun f1 => body (fun f2 h2 => backP ms cs f0 h.length (fun vs h' => J vs ∧ h' = H) (fun vs _ => μ vs) (μ vs) f2 h2) f1 h') : loopP ms body f h :=
  loop_inv nz cs (fun vs h' => J vs ∧ h' = H) (fun vs _ => μ vs) hh
theorem lst_ini {t : Ty} {A W : List t.El} (h : A = W) : [AV.lst t A, AV.int .i64 0] = [AV.lst t W, AV.int .i64 ((0 : Nat) : Int)] := by rw [h]; rfl
/-- A slot is turned to a list that is known by another name. -/
theorem norm_w {n : Nat} {t : Ty} {f : Tr} {h : Hp} {K : Tr → Hp → Prop} {A W : List t.El} {H : Hp} (h1 : normK [.lst n t] f h fun f' h' => f' = f.set n (.lst t A) ∧ h' = H) (h2 : A = W) (h3 : K (f.set n (.lst t W)) H) : normK [.lst n t] f h K := by
  subst h2
  rw [normK_cons] at h1 ⊢
  simp only [normK1] at h1 ⊢
  split at h1
  · rename_i hg
    rw [Tr.setK_eq] at h1
    obtain ⟨e1, e2⟩ := h1
    simp only [Tr.setK_eq]
    rw [e1, e2]; exact h3
  · rename_i hg
    rw [Tr.setK_eq] at h1
    obtain ⟨e1, e2⟩ := h1
    simp only [Tr.setK_eq]
    rw [e1, e2]; exact h3
  · rename_i hg
    split at h1
    · rename_i ho
      obtain ⟨hp, hk⟩ := h1
      rw [Tr.setK_eq, putK_eq] at hk
      obtain ⟨e1, e2⟩ := hk
      simp only [Tr.setK_eq, putK_eq]
      refine need_in hp ?_
      rw [e1, e2]; exact h3
    · exact h1.elim
  · rename_i hg
    split at h1
    · rename_i ho
      obtain ⟨hp, hk⟩ := h1
      rw [Tr.setK_eq, putK_eq] at hk
      obtain ⟨e1, e2⟩ := hk
      simp only [Tr.setK_eq, putK_eq]
      refine need_in hp ?_
      rw [e1, e2]; exact h3
    · exact h1.elim
  · exact h1.elim
set_option maxRecDepth 100000 in
theorem fnOk_lMv : FnOk Try.prog 7 Try.f7 := ⟨by rfl, by kernel_rfl, by
  show okCode _ _ = true ∧ drawsOk _ = true
  exact ⟨by kernel_rfl, by kernel_rfl⟩⟩
noncomputable def lMv_C : Cx := ⟨tb, [], [(12, spAwake), (11, spFar), (17, spPart), (28, spAll13), (29, spTaken), (30, spLive), (31, spVC), (21, spSameP)]⟩
theorem lMv_D : SpecsOk Try.prog lMv_C.specs := .cons awake_ok (.cons far_ok (.cons lkPart_ok (.cons rfAll13_ok (.cons lwTaken_ok (.cons rfLive_ok (.cons ref25C_ok (.cons same05_ok .nil)))))))
theorem lMv_F : FnsOk Try.prog lMv_C.fns := FnsOk.nil
abbrev lMv_N : Nat := 0
abbrev lMv_T : List Ty := [viewT, .int .u8]
abbrev lMv_FN := fnOk_lMv
set_option maxRecDepth 100000 in
set_option maxHeartbeats 8000000 in
theorem lMv' (b : List entT.El) (rs : List runT.El) (at0 : Int) (hat : 0 ≤ at0) (hat2 : at0 ≤ 255) : bodyA lMv_C (callN lMv_C lMv_N) Try.f7 [.agg [.lst entT b, .lst runT rs], .int .u8 at0] [] (fun v _ => v = .bool true) := by
  by_cases hv : (vcL b rs).2 = 0
  · have hgd := vcL_zero hv
    have h1 := part_all hv
    have q2 : (partR b rs ⟨#[]⟩ ⟨#[]⟩ false).2 = 0 := by rw [h1]
    have q1 : (partR b rs ⟨#[]⟩ ⟨#[]⟩ false).1 = mapL (allE b rs) := by rw [h1]
    have hlb := hgd.lb
    have hlr := hgd.lr
    have hn : (rs.length : Int) = 0 ∨ (rs.length : Int) = 1 ∨ ((1 : Int) < rs.length ∧ (0 : Int) < rs.length) := by omega
    have last : (0 : Int) < rs.length → ∃ (zi : Int) (zl : List entT.El) (W3 : List viewT.El), rs[((rs.length : Int) - 1).toNat]? = some (zi, zl, ()) ∧ (clL zl).2 = 0 ∧ (((0 : Int) < (liveL zl).length ∧ W3 = [(b, rs.take ((rs.length : Int) - 1).toNat ++ [(zi, liveL zl, ())], ())]) ∨ (¬ (0 : Int) < (liveL zl).length ∧ W3 = [(b, rs.take ((rs.length : Int) - 1).toNat, ())])) ∧ ∀ w ∈ W3, mapL (allE w.1 w.2.1) = mapL (allE b rs) := by
      intro hpos
      obtain ⟨⟨zi, zl, zu⟩, hz⟩ : ∃ z, rs[((rs.length : Int) - 1).toNat]? = some z := ⟨_, List.getElem?_eq_getElem (by omega)⟩
      have gz := hgd.gr _ (List.mem_of_getElem? hz)
      have hall := all_live (b := b) (n := ((rs.length : Int) - 1).toNat) (by omega) hz (clL_zero gz).2.2 zi
      refine ⟨zi, zl, [(b, rs.take ((rs.length : Int) - 1).toNat ++ oneR zi (liveL zl), ())], hz, gz, ?_, by simpa using hall⟩
      unfold oneR
      cases hl : liveL zl with
      | nil => exact .inr ⟨by simp, by simp⟩
      | cons y l => exact .inl ⟨by simp, by simp⟩
    have first : (1 : Int) < rs.length → ∃ (xi : Int) (xl : List entT.El) (yi : Int) (yl : List entT.El) (W1 : List viewT.El), rs[(at0 % ((rs.length : Int) - 1)).toNat]? = some (xi, xl, ()) ∧ rs[(at0 % ((rs.length : Int) - 1) + 1).toNat]? = some (yi, yl, ()) ∧ ((∀ l ∈ ([xl, yl] : List (List entT.El)), (clL l).2 = 0) ∧ 0 < [xl, yl].length ∧ [xl, yl].length ≤ 3) ∧ (((0 : Int) < (fltGo (at0 % ((rs.length : Int) - 1) + 2 == (rs.length : Int)) false ⟨#[]⟩ (mrgA [xl, yl]).1).length ∧ W1 = [(b, rs.take (at0 % ((rs.length : Int) - 1)).toNat ++ ([(xi, fltGo (at0 % ((rs.length : Int) - 1) + 2 == (rs.length : Int)) false ⟨#[]⟩ (mrgA [xl, yl]).1, ())] ++ rs.drop (at0 % ((rs.length : Int) - 1) + 2).toNat), ())]) ∨ (¬ (0 : Int) < (fltGo (at0 % ((rs.length : Int) - 1) + 2 == (rs.length : Int)) false ⟨#[]⟩ (mrgA [xl, yl]).1).length ∧ W1 = [(b, rs.take (at0 % ((rs.length : Int) - 1)).toNat ++ rs.drop (at0 % ((rs.length : Int) - 1) + 2).toNat, ())])) ∧ ∀ w ∈ W1, mapL (allE w.1 w.2.1) = mapL (allE b rs) := by
      intro hpos
      have e0 : 0 ≤ at0 % ((rs.length : Int) - 1) := Int.emod_nonneg _ (by omega)
      have e1 : at0 % ((rs.length : Int) - 1) < (rs.length : Int) - 1 := Int.emod_lt_of_pos _ (by omega)
      generalize at0 % ((rs.length : Int) - 1) = e at e0 e1 ⊢
      obtain ⟨k, rfl⟩ : ∃ k : Nat, e = (k : Int) := ⟨e.toNat, by omega⟩
      obtain ⟨⟨xi, xl, xu⟩, hx⟩ : ∃ x, rs[k]? = some x := ⟨_, List.getElem?_eq_getElem (by omega)⟩
      obtain ⟨⟨yi, yl, yu⟩, hy⟩ : ∃ y, rs[k + 1]? = some y := ⟨_, List.getElem?_eq_getElem (by omega)⟩
      have gx := hgd.gr _ (List.mem_of_getElem? hx)
      have gy := hgd.gr _ (List.mem_of_getElem? hy)
      have hall := all_merge (b := b) hx hy (clL_zero gx).2.2 (clL_zero gy).2.2 xi
      have hbo : ((k : Int) + 2 == (rs.length : Int)) = decide (k + 2 = rs.length) := by
        rw [Bool.eq_iff_iff]; simp; omega
      rw [hbo, show ((k : Int)).toNat = k from rfl, show ((k : Int) + 1).toNat = k + 1 from rfl, show ((k : Int) + 2).toNat = k + 2 from rfl]
      refine ⟨xi, xl, yi, yl, [(b, rs.take k ++ (oneR xi (fltGo (decide (k + 2 = rs.length)) false ⟨#[]⟩ (mrgA [xl, yl]).1) ++ rs.drop (k + 2)), ())], hx, hy, ⟨by simp only [List.mem_cons, List.not_mem_nil, or_false, forall_eq_or_imp, forall_eq]; exact ⟨gx, gy⟩, by simp, by simp⟩, ?_, by simpa using hall⟩
      unfold oneR
      cases hl : fltGo (decide (k + 2 = rs.length)) false ⟨#[]⟩ (mrgA [xl, yl]).1 with
      | nil => exact .inr ⟨by simp, by simp⟩
      | cons y l => exact .inl ⟨by simp, by simp⟩
    have e0 : (1 : Int) < rs.length → 0 ≤ at0 % ((rs.length : Int) - 1) := fun _ => Int.emod_nonneg _ (by omega)
    have e1 : (1 : Int) < rs.length → at0 % ((rs.length : Int) - 1) < (rs.length : Int) - 1 := fun _ => Int.emod_lt_of_pos _ (by omega)
    by_cases hb : 0 < (b.length : Int)
    · rcases hn with hn | hn | ⟨hn, hn0⟩
      rotate_left
      · obtain ⟨zi, zl, W3, hz, gz, hW3, HW3⟩ := last (by omega)
        obtain ⟨W1, hW1⟩ : ∃ W : List viewT.El, W = [] := ⟨_, rfl⟩
        have HW1 : ∀ w ∈ W1, mapL (allE w.1 w.2.1) = mapL (allE b rs) := by rw [hW1]; simp
        rcases hW3 with ⟨lz, hW3⟩ | ⟨lz, hW3⟩
        all_goals
          conv => whnf
          repeat' first
            | (refine idx_kn (by assumption) ?_; conv => whnf)
            | (refine idx_ki (by assumption) (by omega) ?_; conv => whnf)
            | (refine br_true (by first | with_reducible exact rfl | assumption | decide) ?_; conv => whnf)
            | (refine br_false (by first | with_reducible exact rfl | assumption | decide) ?_; conv => whnf)
            | ((with_reducible refine br_kt (by assumption) ?_); conv => whnf)
            | ((with_reducible refine br_kf (by assumption) ?_); conv => whnf)
            | ((with_reducible refine br_nt (by assumption) ?_); conv => whnf)
            | ((with_reducible refine br_nf (by assumption) ?_); conv => whnf)
            | ((with_reducible refine br_et (by assumption) ?_); conv => whnf)
            | ((with_reducible refine br_ef (by assumption) ?_); conv => whnf)
            | ((with_reducible refine br_dec (fun h => ?_) (fun h => ?_)) <;> first | (exfalso; omega) | conv => whnf)
            | ((with_reducible refine br_ndec (fun h => ?_) (fun h => ?_)) <;> first | (exfalso; omega) | conv => whnf)
            | ((with_reducible refine br_ne (fun h => ?_) (fun h => ?_)) <;> first | (exfalso; omega) | conv => whnf)
            | ((with_reducible refine br_eq (fun h => ?_) (fun h => ?_)) <;> first | (exfalso; omega) | conv => whnf)
            | (refine br_intro (fun h => ?_) (fun h => ?_) <;> conv => whnf)
            | (refine need_in (by first | exact trivial | assumption | exact ⟨rfl, Nat.le_refl _⟩ | exact ⟨rfl, rfl⟩ | (simp only [inR]; omega) | omega | (simp only [roomP, true_and, and_true, List.length_take, List.length_drop, List.length_append, List.length_cons, List.length_nil, List.length_set, List.length_replicate]; omega) | (refine ⟨by first | exact trivial | rfl, by first | exact Nat.le_refl _ | omega | (simp; omega), ?_⟩; change roomP _ _ 1; simp only [roomP]; omega) | (change roomP _ _ 1; simp only [roomP]; omega) | (simp; omega) | (simp [inR]; omega) | (simp [inR]; done) | decide | (simp; done)) ?_; conv => whnf)
            | (refine idx_nat (by omega) (fun x hx => ?_); conv => whnf)
            | (refine frz_auto ?_; conv => whnf)
            | (refine draw_plain ?_; conv => whnf)
            | (refine idx_intro (by omega) (by omega) (fun x hx => ?_); conv => whnf)
            | (refine idx_intro (by first | omega | (simp; omega) | (simp; done)) (by first | omega | (simp; omega) | (simp; done)) (fun x hx => ?_); conv => whnf)
            | fail
          apply loop_same [] [14] (fun vs => ∃ id : Nat, vs = [.int .i64 (id : Int)] ∧ 1 ≤ id ∧ id ≤ 1000001) (fun vs => match vs with | [.int _ k] => 1000001 - k.toNat | _ => 0)
          conv => whnf
          refine ⟨⟨⟨1, rfl, by omega, by omega⟩, rfl⟩, ?_⟩
          rintro vs h' - ⟨⟨id, rfl, hi1, hi2⟩, rfl⟩
          have hPt : rs.length ≤ 1000000000 := by omega
          cases hta : rs.any (fun r => r.1 == (id : Int)) with
          | true =>
            have hlt := take_id hv hta
            conv => whnf
            repeat' first
              | (refine idx_kn (by assumption) ?_; conv => whnf)
              | (refine idx_ki (by assumption) (by omega) ?_; conv => whnf)
              | (refine br_true (by first | with_reducible exact rfl | assumption | decide) ?_; conv => whnf)
              | (refine br_false (by first | with_reducible exact rfl | assumption | decide) ?_; conv => whnf)
              | ((with_reducible refine br_kt (by assumption) ?_); conv => whnf)
              | ((with_reducible refine br_kf (by assumption) ?_); conv => whnf)
              | ((with_reducible refine br_nt (by assumption) ?_); conv => whnf)
              | ((with_reducible refine br_nf (by assumption) ?_); conv => whnf)
              | ((with_reducible refine br_et (by assumption) ?_); conv => whnf)
              | ((with_reducible refine br_ef (by assumption) ?_); conv => whnf)
              | ((with_reducible refine br_dec (fun h => ?_) (fun h => ?_)) <;> first | (exfalso; omega) | conv => whnf)
              | ((with_reducible refine br_ndec (fun h => ?_) (fun h => ?_)) <;> first | (exfalso; omega) | conv => whnf)
              | ((with_reducible refine br_ne (fun h => ?_) (fun h => ?_)) <;> first | (exfalso; omega) | conv => whnf)
              | ((with_reducible refine br_eq (fun h => ?_) (fun h => ?_)) <;> first | (exfalso; omega) | conv => whnf)
              | (refine br_intro (fun h => ?_) (fun h => ?_) <;> conv => whnf)
              | (refine need_in (by first | exact trivial | assumption | exact ⟨rfl, Nat.le_refl _⟩ | exact ⟨rfl, rfl⟩ | (simp only [inR]; omega) | omega | (simp only [roomP, true_and, and_true, List.length_take, List.length_drop, List.length_append, List.length_cons, List.length_nil, List.length_set, List.length_replicate]; omega) | (refine ⟨by first | exact trivial | rfl, by first | exact Nat.le_refl _ | omega | (simp; omega), ?_⟩; change roomP _ _ 1; simp only [roomP]; omega) | (change roomP _ _ 1; simp only [roomP]; omega) | (simp; omega) | (simp [inR]; omega) | (simp [inR]; done) | decide | (simp; done)) ?_; conv => whnf)
              | (refine idx_nat (by omega) (fun x hx => ?_); conv => whnf)
              | (refine frz_auto ?_; conv => whnf)
              | (refine draw_plain ?_; conv => whnf)
              | (refine idx_intro (by omega) (by omega) (fun x hx => ?_); conv => whnf)
              | (refine idx_intro (by first | omega | (simp; omega) | (simp; done)) (by first | omega | (simp; omega) | (simp; done)) (fun x hx => ?_); conv => whnf)
              | fail
            refine back_intro (by conv => whnf) rfl ⟨⟨id + 1, rfl, by omega, by omega⟩, rfl⟩ ?_
            show 1000001 - ((id : Int) + 1).toNat < 1000001 - (id : Int).toNat
            omega
          | false =>
            conv => whnf
            repeat' first
              | (refine idx_kn (by assumption) ?_; conv => whnf)
              | (refine idx_ki (by assumption) (by omega) ?_; conv => whnf)
              | (refine br_true (by first | with_reducible exact rfl | assumption | decide) ?_; conv => whnf)
              | (refine br_false (by first | with_reducible exact rfl | assumption | decide) ?_; conv => whnf)
              | ((with_reducible refine br_kt (by assumption) ?_); conv => whnf)
              | ((with_reducible refine br_kf (by assumption) ?_); conv => whnf)
              | ((with_reducible refine br_nt (by assumption) ?_); conv => whnf)
              | ((with_reducible refine br_nf (by assumption) ?_); conv => whnf)
              | ((with_reducible refine br_et (by assumption) ?_); conv => whnf)
              | ((with_reducible refine br_ef (by assumption) ?_); conv => whnf)
              | ((with_reducible refine br_dec (fun h => ?_) (fun h => ?_)) <;> first | (exfalso; omega) | conv => whnf)
              | ((with_reducible refine br_ndec (fun h => ?_) (fun h => ?_)) <;> first | (exfalso; omega) | conv => whnf)
              | ((with_reducible refine br_ne (fun h => ?_) (fun h => ?_)) <;> first | (exfalso; omega) | conv => whnf)
              | ((with_reducible refine br_eq (fun h => ?_) (fun h => ?_)) <;> first | (exfalso; omega) | conv => whnf)
              | (refine br_intro (fun h => ?_) (fun h => ?_) <;> conv => whnf)
              | (refine need_in (by first | exact trivial | assumption | exact ⟨rfl, Nat.le_refl _⟩ | exact ⟨rfl, rfl⟩ | (simp only [inR]; omega) | omega | (simp only [roomP, true_and, and_true, List.length_take, List.length_drop, List.length_append, List.length_cons, List.length_nil, List.length_set, List.length_replicate]; omega) | (refine ⟨by first | exact trivial | rfl, by first | exact Nat.le_refl _ | omega | (simp; omega), ?_⟩; change roomP _ _ 1; simp only [roomP]; omega) | (change roomP _ _ 1; simp only [roomP]; omega) | (simp; omega) | (simp [inR]; omega) | (simp [inR]; done) | decide | (simp; done)) ?_; conv => whnf)
              | (refine idx_nat (by omega) (fun x hx => ?_); conv => whnf)
              | (refine frz_auto ?_; conv => whnf)
              | (refine draw_plain ?_; conv => whnf)
              | (refine idx_intro (by omega) (by omega) (fun x hx => ?_); conv => whnf)
              | (refine idx_intro (by first | omega | (simp; omega) | (simp; done)) (by first | omega | (simp; omega) | (simp; done)) (fun x hx => ?_); conv => whnf)
              | fail
            obtain ⟨W, hW⟩ : ∃ W : List viewT.El, W = W1 ++ ([([], ((id : Int), b, ()) :: rs, ())] ++ W3) := ⟨_, rfl⟩
            have HW : ∀ w ∈ W, (vcL w.1 w.2.1).2 = 0 → mapL (allE w.1 w.2.1) = mapL (allE b rs) := by
              intro w hw hvw
              rw [hW] at hw
              rcases List.mem_append.1 hw with hw | hw
              · exact HW1 w hw
              · rcases List.mem_append.1 hw with hw | hw
                · rw [List.mem_singleton] at hw
                  rw [hw]; exact congrArg mapL (all_buf b rs id)
                · exact HW3 w hw
            have hWl : W.length ≤ 3 := by rw [hW, hW1, hW3]; simp
            apply loop_same [.lst 8 viewT] [18] (fun vs => ∃ i : Nat, vs = [.int .i64 (i : Int)] ∧ i ≤ W.length) (fun vs => match vs with | [.int _ k] => W.length - k.toNat | _ => 0)
            apply norm_w (W := W)
            · conv => whnf
              repeat' first
                | (refine idx_kn (by assumption) ?_; conv => whnf)
                | (refine idx_ki (by assumption) (by omega) ?_; conv => whnf)
                | (refine br_true (by first | with_reducible exact rfl | assumption | decide) ?_; conv => whnf)
                | (refine br_false (by first | with_reducible exact rfl | assumption | decide) ?_; conv => whnf)
                | ((with_reducible refine br_kt (by assumption) ?_); conv => whnf)
                | ((with_reducible refine br_kf (by assumption) ?_); conv => whnf)
                | ((with_reducible refine br_nt (by assumption) ?_); conv => whnf)
                | ((with_reducible refine br_nf (by assumption) ?_); conv => whnf)
                | ((with_reducible refine br_et (by assumption) ?_); conv => whnf)
                | ((with_reducible refine br_ef (by assumption) ?_); conv => whnf)
                | ((with_reducible refine br_dec (fun h => ?_) (fun h => ?_)) <;> first | (exfalso; omega) | conv => whnf)
                | ((with_reducible refine br_ndec (fun h => ?_) (fun h => ?_)) <;> first | (exfalso; omega) | conv => whnf)
                | ((with_reducible refine br_ne (fun h => ?_) (fun h => ?_)) <;> first | (exfalso; omega) | conv => whnf)
                | ((with_reducible refine br_eq (fun h => ?_) (fun h => ?_)) <;> first | (exfalso; omega) | conv => whnf)
                | (refine br_intro (fun h => ?_) (fun h => ?_) <;> conv => whnf)
                | (refine need_in (by first | exact trivial | assumption | exact ⟨rfl, Nat.le_refl _⟩ | exact ⟨rfl, rfl⟩ | (simp only [inR]; omega) | omega | (simp only [roomP, true_and, and_true, List.length_take, List.length_drop, List.length_append, List.length_cons, List.length_nil, List.length_set, List.length_replicate]; omega) | (refine ⟨by first | exact trivial | rfl, by first | exact Nat.le_refl _ | omega | (simp; omega), ?_⟩; change roomP _ _ 1; simp only [roomP]; omega) | (change roomP _ _ 1; simp only [roomP]; omega) | (simp; omega) | (simp [inR]; omega) | (simp [inR]; done) | decide | (simp; done)) ?_; conv => whnf)
                | (refine idx_nat (by omega) (fun x hx => ?_); conv => whnf)
                | (refine frz_auto ?_; conv => whnf)
                | (refine draw_plain ?_; conv => whnf)
                | (refine idx_intro (by omega) (by omega) (fun x hx => ?_); conv => whnf)
                | (refine idx_intro (by first | omega | (simp; omega) | (simp; done)) (by first | omega | (simp; omega) | (simp; done)) (fun x hx => ?_); conv => whnf)
                | fail
              exact ⟨rfl, rfl⟩
            · rw [hW, hW1, hW3]
              simp [cast_self]
              try simp (disch := (simp only [List.length_append, List.length_take, List.length_drop, List.length_cons, List.length_nil]; omega)) only [List.take_of_length_le, List.cons_append, List.nil_append, List.append_assoc, and_self, true_and]
            refine ⟨⟨⟨0, rfl, by omega⟩, rfl⟩, ?_⟩
            rintro vs h' - ⟨⟨i, rfl, hil0⟩, rfl⟩
            by_cases hil : i < W.length
            · obtain ⟨w, hw⟩ : ∃ w, W[i]? = some w := ⟨_, List.getElem?_eq_getElem hil⟩
              have hgw := HW w (List.mem_of_getElem? hw)
              obtain ⟨wb, wr, wu⟩ := w
              by_cases hvw : (vcL wb wr).2 = 0
              · have hpw := part_all hvw
                have hmw := hgw hvw
                have t1 : (partR wb wr ⟨#[]⟩ ⟨#[]⟩ false).2 = 0 := by rw [hpw]
                have t2 : sameL pairT (partR wb wr ⟨#[]⟩ ⟨#[]⟩ false).1 (partR b rs ⟨#[]⟩ ⟨#[]⟩ false).1 = true := by rw [hpw, h1]; exact sameP_iff.2 hmw
                have t3 : (!sameL pairT (partR wb wr ⟨#[]⟩ ⟨#[]⟩ false).1 (partR b rs ⟨#[]⟩ ⟨#[]⟩ false).1) = false := by rw [t2]; rfl
                have t4 : (partR wb wr ⟨#[]⟩ ⟨#[]⟩ false).1.length ≤ 4611686018427387904 := by rw [hpw]; have := mapL_len (allE wb wr); have := (all_len (vcL_zero hvw)).2; show (mapL (allE wb wr)).length ≤ _; omega
                conv => whnf
                repeat' first
                  | (refine idx_kn (by assumption) ?_; conv => whnf)
                  | (refine idx_ki (by assumption) (by omega) ?_; conv => whnf)
                  | (refine br_true (by first | with_reducible exact rfl | assumption | decide) ?_; conv => whnf)
                  | (refine br_false (by first | with_reducible exact rfl | assumption | decide) ?_; conv => whnf)
                  | ((with_reducible refine br_kt (by assumption) ?_); conv => whnf)
                  | ((with_reducible refine br_kf (by assumption) ?_); conv => whnf)
                  | ((with_reducible refine br_nt (by assumption) ?_); conv => whnf)
                  | ((with_reducible refine br_nf (by assumption) ?_); conv => whnf)
                  | ((with_reducible refine br_et (by assumption) ?_); conv => whnf)
                  | ((with_reducible refine br_ef (by assumption) ?_); conv => whnf)
                  | ((with_reducible refine br_dec (fun h => ?_) (fun h => ?_)) <;> first | (exfalso; omega) | conv => whnf)
                  | ((with_reducible refine br_ndec (fun h => ?_) (fun h => ?_)) <;> first | (exfalso; omega) | conv => whnf)
                  | ((with_reducible refine br_ne (fun h => ?_) (fun h => ?_)) <;> first | (exfalso; omega) | conv => whnf)
                  | ((with_reducible refine br_eq (fun h => ?_) (fun h => ?_)) <;> first | (exfalso; omega) | conv => whnf)
                  | (refine br_intro (fun h => ?_) (fun h => ?_) <;> conv => whnf)
                  | (refine need_in (by first | exact trivial | assumption | exact ⟨rfl, Nat.le_refl _⟩ | exact ⟨rfl, rfl⟩ | (simp only [inR]; omega) | omega | (simp only [roomP, true_and, and_true, List.length_take, List.length_drop, List.length_append, List.length_cons, List.length_nil, List.length_set, List.length_replicate]; omega) | (refine ⟨by first | exact trivial | rfl, by first | exact Nat.le_refl _ | omega | (simp; omega), ?_⟩; change roomP _ _ 1; simp only [roomP]; omega) | (change roomP _ _ 1; simp only [roomP]; omega) | (simp; omega) | (simp [inR]; omega) | (simp [inR]; done) | decide | (simp; done)) ?_; conv => whnf)
                  | (refine idx_nat (by omega) (fun x hx => ?_); conv => whnf)
                  | (refine frz_auto ?_; conv => whnf)
                  | (refine draw_plain ?_; conv => whnf)
                  | (refine idx_intro (by omega) (by omega) (fun x hx => ?_); conv => whnf)
                  | (refine idx_intro (by first | omega | (simp; omega) | (simp; done)) (by first | omega | (simp; omega) | (simp; done)) (fun x hx => ?_); conv => whnf)
                  | fail
                refine back_intro (by conv => whnf) rfl ⟨⟨i + 1, rfl, by omega⟩, rfl⟩ ?_
                show W.length - ((i : Int) + 1).toNat < W.length - (i : Int).toNat
                omega
              · conv => whnf
                repeat' first
                  | (refine idx_kn (by assumption) ?_; conv => whnf)
                  | (refine idx_ki (by assumption) (by omega) ?_; conv => whnf)
                  | (refine br_true (by first | with_reducible exact rfl | assumption | decide) ?_; conv => whnf)
                  | (refine br_false (by first | with_reducible exact rfl | assumption | decide) ?_; conv => whnf)
                  | ((with_reducible refine br_kt (by assumption) ?_); conv => whnf)
                  | ((with_reducible refine br_kf (by assumption) ?_); conv => whnf)
                  | ((with_reducible refine br_nt (by assumption) ?_); conv => whnf)
                  | ((with_reducible refine br_nf (by assumption) ?_); conv => whnf)
                  | ((with_reducible refine br_et (by assumption) ?_); conv => whnf)
                  | ((with_reducible refine br_ef (by assumption) ?_); conv => whnf)
                  | ((with_reducible refine br_dec (fun h => ?_) (fun h => ?_)) <;> first | (exfalso; omega) | conv => whnf)
                  | ((with_reducible refine br_ndec (fun h => ?_) (fun h => ?_)) <;> first | (exfalso; omega) | conv => whnf)
                  | ((with_reducible refine br_ne (fun h => ?_) (fun h => ?_)) <;> first | (exfalso; omega) | conv => whnf)
                  | ((with_reducible refine br_eq (fun h => ?_) (fun h => ?_)) <;> first | (exfalso; omega) | conv => whnf)
                  | (refine br_intro (fun h => ?_) (fun h => ?_) <;> conv => whnf)
                  | (refine need_in (by first | exact trivial | assumption | exact ⟨rfl, Nat.le_refl _⟩ | exact ⟨rfl, rfl⟩ | (simp only [inR]; omega) | omega | (simp only [roomP, true_and, and_true, List.length_take, List.length_drop, List.length_append, List.length_cons, List.length_nil, List.length_set, List.length_replicate]; omega) | (refine ⟨by first | exact trivial | rfl, by first | exact Nat.le_refl _ | omega | (simp; omega), ?_⟩; change roomP _ _ 1; simp only [roomP]; omega) | (change roomP _ _ 1; simp only [roomP]; omega) | (simp; omega) | (simp [inR]; omega) | (simp [inR]; done) | decide | (simp; done)) ?_; conv => whnf)
                  | (refine idx_nat (by omega) (fun x hx => ?_); conv => whnf)
                  | (refine frz_auto ?_; conv => whnf)
                  | (refine draw_plain ?_; conv => whnf)
                  | (refine idx_intro (by omega) (by omega) (fun x hx => ?_); conv => whnf)
                  | (refine idx_intro (by first | omega | (simp; omega) | (simp; done)) (by first | omega | (simp; omega) | (simp; done)) (fun x hx => ?_); conv => whnf)
                  | fail
                refine back_intro (by conv => whnf) rfl ⟨⟨i + 1, rfl, by omega⟩, rfl⟩ ?_
                show W.length - ((i : Int) + 1).toNat < W.length - (i : Int).toNat
                omega
            · conv => whnf
              repeat' first
                | (refine idx_kn (by assumption) ?_; conv => whnf)
                | (refine idx_ki (by assumption) (by omega) ?_; conv => whnf)
                | (refine br_true (by first | with_reducible exact rfl | assumption | decide) ?_; conv => whnf)
                | (refine br_false (by first | with_reducible exact rfl | assumption | decide) ?_; conv => whnf)
                | ((with_reducible refine br_kt (by assumption) ?_); conv => whnf)
                | ((with_reducible refine br_kf (by assumption) ?_); conv => whnf)
                | ((with_reducible refine br_nt (by assumption) ?_); conv => whnf)
                | ((with_reducible refine br_nf (by assumption) ?_); conv => whnf)
                | ((with_reducible refine br_et (by assumption) ?_); conv => whnf)
                | ((with_reducible refine br_ef (by assumption) ?_); conv => whnf)
                | ((with_reducible refine br_dec (fun h => ?_) (fun h => ?_)) <;> first | (exfalso; omega) | conv => whnf)
                | ((with_reducible refine br_ndec (fun h => ?_) (fun h => ?_)) <;> first | (exfalso; omega) | conv => whnf)
                | ((with_reducible refine br_ne (fun h => ?_) (fun h => ?_)) <;> first | (exfalso; omega) | conv => whnf)
                | ((with_reducible refine br_eq (fun h => ?_) (fun h => ?_)) <;> first | (exfalso; omega) | conv => whnf)
                | (refine br_intro (fun h => ?_) (fun h => ?_) <;> conv => whnf)
                | (refine need_in (by first | exact trivial | assumption | exact ⟨rfl, Nat.le_refl _⟩ | exact ⟨rfl, rfl⟩ | (simp only [inR]; omega) | omega | (simp only [roomP, true_and, and_true, List.length_take, List.length_drop, List.length_append, List.length_cons, List.length_nil, List.length_set, List.length_replicate]; omega) | (refine ⟨by first | exact trivial | rfl, by first | exact Nat.le_refl _ | omega | (simp; omega), ?_⟩; change roomP _ _ 1; simp only [roomP]; omega) | (change roomP _ _ 1; simp only [roomP]; omega) | (simp; omega) | (simp [inR]; omega) | (simp [inR]; done) | decide | (simp; done)) ?_; conv => whnf)
                | (refine idx_nat (by omega) (fun x hx => ?_); conv => whnf)
                | (refine frz_auto ?_; conv => whnf)
                | (refine draw_plain ?_; conv => whnf)
                | (refine idx_intro (by omega) (by omega) (fun x hx => ?_); conv => whnf)
                | (refine idx_intro (by first | omega | (simp; omega) | (simp; done)) (by first | omega | (simp; omega) | (simp; done)) (fun x hx => ?_); conv => whnf)
                | fail
      · obtain ⟨zi, zl, W3, hz, gz, hW3, HW3⟩ := last (by omega)
        obtain ⟨xi, xl, yi, yl, W1, hx, hy, hP13, hW1, HW1⟩ := first hn
        replace e0 := e0 hn
        replace e1 := e1 hn
        rcases hW3 with ⟨lz, hW3⟩ | ⟨lz, hW3⟩ <;> rcases hW1 with ⟨lx, hW1⟩ | ⟨lx, hW1⟩
        all_goals
          conv => whnf
          repeat' first
            | (refine idx_kn (by assumption) ?_; conv => whnf)
            | (refine idx_ki (by assumption) (by omega) ?_; conv => whnf)
            | (refine br_true (by first | with_reducible exact rfl | assumption | decide) ?_; conv => whnf)
            | (refine br_false (by first | with_reducible exact rfl | assumption | decide) ?_; conv => whnf)
            | ((with_reducible refine br_kt (by assumption) ?_); conv => whnf)
            | ((with_reducible refine br_kf (by assumption) ?_); conv => whnf)
            | ((with_reducible refine br_nt (by assumption) ?_); conv => whnf)
            | ((with_reducible refine br_nf (by assumption) ?_); conv => whnf)
            | ((with_reducible refine br_et (by assumption) ?_); conv => whnf)
            | ((with_reducible refine br_ef (by assumption) ?_); conv => whnf)
            | ((with_reducible refine br_dec (fun h => ?_) (fun h => ?_)) <;> first | (exfalso; omega) | conv => whnf)
            | ((with_reducible refine br_ndec (fun h => ?_) (fun h => ?_)) <;> first | (exfalso; omega) | conv => whnf)
            | ((with_reducible refine br_ne (fun h => ?_) (fun h => ?_)) <;> first | (exfalso; omega) | conv => whnf)
            | ((with_reducible refine br_eq (fun h => ?_) (fun h => ?_)) <;> first | (exfalso; omega) | conv => whnf)
            | (refine br_intro (fun h => ?_) (fun h => ?_) <;> conv => whnf)
            | (refine need_in (by first | exact trivial | assumption | exact ⟨rfl, Nat.le_refl _⟩ | exact ⟨rfl, rfl⟩ | (simp only [inR]; omega) | omega | (simp only [roomP, true_and, and_true, List.length_take, List.length_drop, List.length_append, List.length_cons, List.length_nil, List.length_set, List.length_replicate]; omega) | (refine ⟨by first | exact trivial | rfl, by first | exact Nat.le_refl _ | omega | (simp; omega), ?_⟩; change roomP _ _ 1; simp only [roomP]; omega) | (change roomP _ _ 1; simp only [roomP]; omega) | (simp; omega) | (simp [inR]; omega) | (simp [inR]; done) | decide | (simp; done)) ?_; conv => whnf)
            | (refine idx_nat (by omega) (fun x hx => ?_); conv => whnf)
            | (refine frz_auto ?_; conv => whnf)
            | (refine draw_plain ?_; conv => whnf)
            | (refine idx_intro (by omega) (by omega) (fun x hx => ?_); conv => whnf)
            | (refine idx_intro (by first | omega | (simp; omega) | (simp; done)) (by first | omega | (simp; omega) | (simp; done)) (fun x hx => ?_); conv => whnf)
            | fail
          apply loop_same [] [14] (fun vs => ∃ id : Nat, vs = [.int .i64 (id : Int)] ∧ 1 ≤ id ∧ id ≤ 1000001) (fun vs => match vs with | [.int _ k] => 1000001 - k.toNat | _ => 0)
          conv => whnf
          refine ⟨⟨⟨1, rfl, by omega, by omega⟩, rfl⟩, ?_⟩
          rintro vs h' - ⟨⟨id, rfl, hi1, hi2⟩, rfl⟩
          have hPt : rs.length ≤ 1000000000 := by omega
          cases hta : rs.any (fun r => r.1 == (id : Int)) with
          | true =>
            have hlt := take_id hv hta
            conv => whnf
            repeat' first
              | (refine idx_kn (by assumption) ?_; conv => whnf)
              | (refine idx_ki (by assumption) (by omega) ?_; conv => whnf)
              | (refine br_true (by first | with_reducible exact rfl | assumption | decide) ?_; conv => whnf)
              | (refine br_false (by first | with_reducible exact rfl | assumption | decide) ?_; conv => whnf)
              | ((with_reducible refine br_kt (by assumption) ?_); conv => whnf)
              | ((with_reducible refine br_kf (by assumption) ?_); conv => whnf)
              | ((with_reducible refine br_nt (by assumption) ?_); conv => whnf)
              | ((with_reducible refine br_nf (by assumption) ?_); conv => whnf)
              | ((with_reducible refine br_et (by assumption) ?_); conv => whnf)
              | ((with_reducible refine br_ef (by assumption) ?_); conv => whnf)
              | ((with_reducible refine br_dec (fun h => ?_) (fun h => ?_)) <;> first | (exfalso; omega) | conv => whnf)
              | ((with_reducible refine br_ndec (fun h => ?_) (fun h => ?_)) <;> first | (exfalso; omega) | conv => whnf)
              | ((with_reducible refine br_ne (fun h => ?_) (fun h => ?_)) <;> first | (exfalso; omega) | conv => whnf)
              | ((with_reducible refine br_eq (fun h => ?_) (fun h => ?_)) <;> first | (exfalso; omega) | conv => whnf)
              | (refine br_intro (fun h => ?_) (fun h => ?_) <;> conv => whnf)
              | (refine need_in (by first | exact trivial | assumption | exact ⟨rfl, Nat.le_refl _⟩ | exact ⟨rfl, rfl⟩ | (simp only [inR]; omega) | omega | (simp only [roomP, true_and, and_true, List.length_take, List.length_drop, List.length_append, List.length_cons, List.length_nil, List.length_set, List.length_replicate]; omega) | (refine ⟨by first | exact trivial | rfl, by first | exact Nat.le_refl _ | omega | (simp; omega), ?_⟩; change roomP _ _ 1; simp only [roomP]; omega) | (change roomP _ _ 1; simp only [roomP]; omega) | (simp; omega) | (simp [inR]; omega) | (simp [inR]; done) | decide | (simp; done)) ?_; conv => whnf)
              | (refine idx_nat (by omega) (fun x hx => ?_); conv => whnf)
              | (refine frz_auto ?_; conv => whnf)
              | (refine draw_plain ?_; conv => whnf)
              | (refine idx_intro (by omega) (by omega) (fun x hx => ?_); conv => whnf)
              | (refine idx_intro (by first | omega | (simp; omega) | (simp; done)) (by first | omega | (simp; omega) | (simp; done)) (fun x hx => ?_); conv => whnf)
              | fail
            refine back_intro (by conv => whnf) rfl ⟨⟨id + 1, rfl, by omega, by omega⟩, rfl⟩ ?_
            show 1000001 - ((id : Int) + 1).toNat < 1000001 - (id : Int).toNat
            omega
          | false =>
            conv => whnf
            repeat' first
              | (refine idx_kn (by assumption) ?_; conv => whnf)
              | (refine idx_ki (by assumption) (by omega) ?_; conv => whnf)
              | (refine br_true (by first | with_reducible exact rfl | assumption | decide) ?_; conv => whnf)
              | (refine br_false (by first | with_reducible exact rfl | assumption | decide) ?_; conv => whnf)
              | ((with_reducible refine br_kt (by assumption) ?_); conv => whnf)
              | ((with_reducible refine br_kf (by assumption) ?_); conv => whnf)
              | ((with_reducible refine br_nt (by assumption) ?_); conv => whnf)
              | ((with_reducible refine br_nf (by assumption) ?_); conv => whnf)
              | ((with_reducible refine br_et (by assumption) ?_); conv => whnf)
              | ((with_reducible refine br_ef (by assumption) ?_); conv => whnf)
              | ((with_reducible refine br_dec (fun h => ?_) (fun h => ?_)) <;> first | (exfalso; omega) | conv => whnf)
              | ((with_reducible refine br_ndec (fun h => ?_) (fun h => ?_)) <;> first | (exfalso; omega) | conv => whnf)
              | ((with_reducible refine br_ne (fun h => ?_) (fun h => ?_)) <;> first | (exfalso; omega) | conv => whnf)
              | ((with_reducible refine br_eq (fun h => ?_) (fun h => ?_)) <;> first | (exfalso; omega) | conv => whnf)
              | (refine br_intro (fun h => ?_) (fun h => ?_) <;> conv => whnf)
              | (refine need_in (by first | exact trivial | assumption | exact ⟨rfl, Nat.le_refl _⟩ | exact ⟨rfl, rfl⟩ | (simp only [inR]; omega) | omega | (simp only [roomP, true_and, and_true, List.length_take, List.length_drop, List.length_append, List.length_cons, List.length_nil, List.length_set, List.length_replicate]; omega) | (refine ⟨by first | exact trivial | rfl, by first | exact Nat.le_refl _ | omega | (simp; omega), ?_⟩; change roomP _ _ 1; simp only [roomP]; omega) | (change roomP _ _ 1; simp only [roomP]; omega) | (simp; omega) | (simp [inR]; omega) | (simp [inR]; done) | decide | (simp; done)) ?_; conv => whnf)
              | (refine idx_nat (by omega) (fun x hx => ?_); conv => whnf)
              | (refine frz_auto ?_; conv => whnf)
              | (refine draw_plain ?_; conv => whnf)
              | (refine idx_intro (by omega) (by omega) (fun x hx => ?_); conv => whnf)
              | (refine idx_intro (by first | omega | (simp; omega) | (simp; done)) (by first | omega | (simp; omega) | (simp; done)) (fun x hx => ?_); conv => whnf)
              | fail
            obtain ⟨W, hW⟩ : ∃ W : List viewT.El, W = W1 ++ ([([], ((id : Int), b, ()) :: rs, ())] ++ W3) := ⟨_, rfl⟩
            have HW : ∀ w ∈ W, (vcL w.1 w.2.1).2 = 0 → mapL (allE w.1 w.2.1) = mapL (allE b rs) := by
              intro w hw hvw
              rw [hW] at hw
              rcases List.mem_append.1 hw with hw | hw
              · exact HW1 w hw
              · rcases List.mem_append.1 hw with hw | hw
                · rw [List.mem_singleton] at hw
                  rw [hw]; exact congrArg mapL (all_buf b rs id)
                · exact HW3 w hw
            have hWl : W.length ≤ 3 := by rw [hW, hW1, hW3]; simp
            apply loop_same [.lst 8 viewT] [18] (fun vs => ∃ i : Nat, vs = [.int .i64 (i : Int)] ∧ i ≤ W.length) (fun vs => match vs with | [.int _ k] => W.length - k.toNat | _ => 0)
            apply norm_w (W := W)
            · conv => whnf
              repeat' first
                | (refine idx_kn (by assumption) ?_; conv => whnf)
                | (refine idx_ki (by assumption) (by omega) ?_; conv => whnf)
                | (refine br_true (by first | with_reducible exact rfl | assumption | decide) ?_; conv => whnf)
                | (refine br_false (by first | with_reducible exact rfl | assumption | decide) ?_; conv => whnf)
                | ((with_reducible refine br_kt (by assumption) ?_); conv => whnf)
                | ((with_reducible refine br_kf (by assumption) ?_); conv => whnf)
                | ((with_reducible refine br_nt (by assumption) ?_); conv => whnf)
                | ((with_reducible refine br_nf (by assumption) ?_); conv => whnf)
                | ((with_reducible refine br_et (by assumption) ?_); conv => whnf)
                | ((with_reducible refine br_ef (by assumption) ?_); conv => whnf)
                | ((with_reducible refine br_dec (fun h => ?_) (fun h => ?_)) <;> first | (exfalso; omega) | conv => whnf)
                | ((with_reducible refine br_ndec (fun h => ?_) (fun h => ?_)) <;> first | (exfalso; omega) | conv => whnf)
                | ((with_reducible refine br_ne (fun h => ?_) (fun h => ?_)) <;> first | (exfalso; omega) | conv => whnf)
                | ((with_reducible refine br_eq (fun h => ?_) (fun h => ?_)) <;> first | (exfalso; omega) | conv => whnf)
                | (refine br_intro (fun h => ?_) (fun h => ?_) <;> conv => whnf)
                | (refine need_in (by first | exact trivial | assumption | exact ⟨rfl, Nat.le_refl _⟩ | exact ⟨rfl, rfl⟩ | (simp only [inR]; omega) | omega | (simp only [roomP, true_and, and_true, List.length_take, List.length_drop, List.length_append, List.length_cons, List.length_nil, List.length_set, List.length_replicate]; omega) | (refine ⟨by first | exact trivial | rfl, by first | exact Nat.le_refl _ | omega | (simp; omega), ?_⟩; change roomP _ _ 1; simp only [roomP]; omega) | (change roomP _ _ 1; simp only [roomP]; omega) | (simp; omega) | (simp [inR]; omega) | (simp [inR]; done) | decide | (simp; done)) ?_; conv => whnf)
                | (refine idx_nat (by omega) (fun x hx => ?_); conv => whnf)
                | (refine frz_auto ?_; conv => whnf)
                | (refine draw_plain ?_; conv => whnf)
                | (refine idx_intro (by omega) (by omega) (fun x hx => ?_); conv => whnf)
                | (refine idx_intro (by first | omega | (simp; omega) | (simp; done)) (by first | omega | (simp; omega) | (simp; done)) (fun x hx => ?_); conv => whnf)
                | fail
              exact ⟨rfl, rfl⟩
            · rw [hW, hW1, hW3]
              simp [cast_self]
              try simp (disch := (simp only [List.length_append, List.length_take, List.length_drop, List.length_cons, List.length_nil]; omega)) only [List.take_of_length_le, List.cons_append, List.nil_append, List.append_assoc, and_self, true_and]
            refine ⟨⟨⟨0, rfl, by omega⟩, rfl⟩, ?_⟩
            rintro vs h' - ⟨⟨i, rfl, hil0⟩, rfl⟩
            by_cases hil : i < W.length
            · obtain ⟨w, hw⟩ : ∃ w, W[i]? = some w := ⟨_, List.getElem?_eq_getElem hil⟩
              have hgw := HW w (List.mem_of_getElem? hw)
              obtain ⟨wb, wr, wu⟩ := w
              by_cases hvw : (vcL wb wr).2 = 0
              · have hpw := part_all hvw
                have hmw := hgw hvw
                have t1 : (partR wb wr ⟨#[]⟩ ⟨#[]⟩ false).2 = 0 := by rw [hpw]
                have t2 : sameL pairT (partR wb wr ⟨#[]⟩ ⟨#[]⟩ false).1 (partR b rs ⟨#[]⟩ ⟨#[]⟩ false).1 = true := by rw [hpw, h1]; exact sameP_iff.2 hmw
                have t3 : (!sameL pairT (partR wb wr ⟨#[]⟩ ⟨#[]⟩ false).1 (partR b rs ⟨#[]⟩ ⟨#[]⟩ false).1) = false := by rw [t2]; rfl
                have t4 : (partR wb wr ⟨#[]⟩ ⟨#[]⟩ false).1.length ≤ 4611686018427387904 := by rw [hpw]; have := mapL_len (allE wb wr); have := (all_len (vcL_zero hvw)).2; show (mapL (allE wb wr)).length ≤ _; omega
                conv => whnf
                repeat' first
                  | (refine idx_kn (by assumption) ?_; conv => whnf)
                  | (refine idx_ki (by assumption) (by omega) ?_; conv => whnf)
                  | (refine br_true (by first | with_reducible exact rfl | assumption | decide) ?_; conv => whnf)
                  | (refine br_false (by first | with_reducible exact rfl | assumption | decide) ?_; conv => whnf)
                  | ((with_reducible refine br_kt (by assumption) ?_); conv => whnf)
                  | ((with_reducible refine br_kf (by assumption) ?_); conv => whnf)
                  | ((with_reducible refine br_nt (by assumption) ?_); conv => whnf)
                  | ((with_reducible refine br_nf (by assumption) ?_); conv => whnf)
                  | ((with_reducible refine br_et (by assumption) ?_); conv => whnf)
                  | ((with_reducible refine br_ef (by assumption) ?_); conv => whnf)
                  | ((with_reducible refine br_dec (fun h => ?_) (fun h => ?_)) <;> first | (exfalso; omega) | conv => whnf)
                  | ((with_reducible refine br_ndec (fun h => ?_) (fun h => ?_)) <;> first | (exfalso; omega) | conv => whnf)
                  | ((with_reducible refine br_ne (fun h => ?_) (fun h => ?_)) <;> first | (exfalso; omega) | conv => whnf)
                  | ((with_reducible refine br_eq (fun h => ?_) (fun h => ?_)) <;> first | (exfalso; omega) | conv => whnf)
                  | (refine br_intro (fun h => ?_) (fun h => ?_) <;> conv => whnf)
                  | (refine need_in (by first | exact trivial | assumption | exact ⟨rfl, Nat.le_refl _⟩ | exact ⟨rfl, rfl⟩ | (simp only [inR]; omega) | omega | (simp only [roomP, true_and, and_true, List.length_take, List.length_drop, List.length_append, List.length_cons, List.length_nil, List.length_set, List.length_replicate]; omega) | (refine ⟨by first | exact trivial | rfl, by first | exact Nat.le_refl _ | omega | (simp; omega), ?_⟩; change roomP _ _ 1; simp only [roomP]; omega) | (change roomP _ _ 1; simp only [roomP]; omega) | (simp; omega) | (simp [inR]; omega) | (simp [inR]; done) | decide | (simp; done)) ?_; conv => whnf)
                  | (refine idx_nat (by omega) (fun x hx => ?_); conv => whnf)
                  | (refine frz_auto ?_; conv => whnf)
                  | (refine draw_plain ?_; conv => whnf)
                  | (refine idx_intro (by omega) (by omega) (fun x hx => ?_); conv => whnf)
                  | (refine idx_intro (by first | omega | (simp; omega) | (simp; done)) (by first | omega | (simp; omega) | (simp; done)) (fun x hx => ?_); conv => whnf)
                  | fail
                refine back_intro (by conv => whnf) rfl ⟨⟨i + 1, rfl, by omega⟩, rfl⟩ ?_
                show W.length - ((i : Int) + 1).toNat < W.length - (i : Int).toNat
                omega
              · conv => whnf
                repeat' first
                  | (refine idx_kn (by assumption) ?_; conv => whnf)
                  | (refine idx_ki (by assumption) (by omega) ?_; conv => whnf)
                  | (refine br_true (by first | with_reducible exact rfl | assumption | decide) ?_; conv => whnf)
                  | (refine br_false (by first | with_reducible exact rfl | assumption | decide) ?_; conv => whnf)
                  | ((with_reducible refine br_kt (by assumption) ?_); conv => whnf)
                  | ((with_reducible refine br_kf (by assumption) ?_); conv => whnf)
                  | ((with_reducible refine br_nt (by assumption) ?_); conv => whnf)
                  | ((with_reducible refine br_nf (by assumption) ?_); conv => whnf)
                  | ((with_reducible refine br_et (by assumption) ?_); conv => whnf)
                  | ((with_reducible refine br_ef (by assumption) ?_); conv => whnf)
                  | ((with_reducible refine br_dec (fun h => ?_) (fun h => ?_)) <;> first | (exfalso; omega) | conv => whnf)
                  | ((with_reducible refine br_ndec (fun h => ?_) (fun h => ?_)) <;> first | (exfalso; omega) | conv => whnf)
                  | ((with_reducible refine br_ne (fun h => ?_) (fun h => ?_)) <;> first | (exfalso; omega) | conv => whnf)
                  | ((with_reducible refine br_eq (fun h => ?_) (fun h => ?_)) <;> first | (exfalso; omega) | conv => whnf)
                  | (refine br_intro (fun h => ?_) (fun h => ?_) <;> conv => whnf)
                  | (refine need_in (by first | exact trivial | assumption | exact ⟨rfl, Nat.le_refl _⟩ | exact ⟨rfl, rfl⟩ | (simp only [inR]; omega) | omega | (simp only [roomP, true_and, and_true, List.length_take, List.length_drop, List.length_append, List.length_cons, List.length_nil, List.length_set, List.length_replicate]; omega) | (refine ⟨by first | exact trivial | rfl, by first | exact Nat.le_refl _ | omega | (simp; omega), ?_⟩; change roomP _ _ 1; simp only [roomP]; omega) | (change roomP _ _ 1; simp only [roomP]; omega) | (simp; omega) | (simp [inR]; omega) | (simp [inR]; done) | decide | (simp; done)) ?_; conv => whnf)
                  | (refine idx_nat (by omega) (fun x hx => ?_); conv => whnf)
                  | (refine frz_auto ?_; conv => whnf)
                  | (refine draw_plain ?_; conv => whnf)
                  | (refine idx_intro (by omega) (by omega) (fun x hx => ?_); conv => whnf)
                  | (refine idx_intro (by first | omega | (simp; omega) | (simp; done)) (by first | omega | (simp; omega) | (simp; done)) (fun x hx => ?_); conv => whnf)
                  | fail
                refine back_intro (by conv => whnf) rfl ⟨⟨i + 1, rfl, by omega⟩, rfl⟩ ?_
                show W.length - ((i : Int) + 1).toNat < W.length - (i : Int).toNat
                omega
            · conv => whnf
              repeat' first
                | (refine idx_kn (by assumption) ?_; conv => whnf)
                | (refine idx_ki (by assumption) (by omega) ?_; conv => whnf)
                | (refine br_true (by first | with_reducible exact rfl | assumption | decide) ?_; conv => whnf)
                | (refine br_false (by first | with_reducible exact rfl | assumption | decide) ?_; conv => whnf)
                | ((with_reducible refine br_kt (by assumption) ?_); conv => whnf)
                | ((with_reducible refine br_kf (by assumption) ?_); conv => whnf)
                | ((with_reducible refine br_nt (by assumption) ?_); conv => whnf)
                | ((with_reducible refine br_nf (by assumption) ?_); conv => whnf)
                | ((with_reducible refine br_et (by assumption) ?_); conv => whnf)
                | ((with_reducible refine br_ef (by assumption) ?_); conv => whnf)
                | ((with_reducible refine br_dec (fun h => ?_) (fun h => ?_)) <;> first | (exfalso; omega) | conv => whnf)
                | ((with_reducible refine br_ndec (fun h => ?_) (fun h => ?_)) <;> first | (exfalso; omega) | conv => whnf)
                | ((with_reducible refine br_ne (fun h => ?_) (fun h => ?_)) <;> first | (exfalso; omega) | conv => whnf)
                | ((with_reducible refine br_eq (fun h => ?_) (fun h => ?_)) <;> first | (exfalso; omega) | conv => whnf)
                | (refine br_intro (fun h => ?_) (fun h => ?_) <;> conv => whnf)
                | (refine need_in (by first | exact trivial | assumption | exact ⟨rfl, Nat.le_refl _⟩ | exact ⟨rfl, rfl⟩ | (simp only [inR]; omega) | omega | (simp only [roomP, true_and, and_true, List.length_take, List.length_drop, List.length_append, List.length_cons, List.length_nil, List.length_set, List.length_replicate]; omega) | (refine ⟨by first | exact trivial | rfl, by first | exact Nat.le_refl _ | omega | (simp; omega), ?_⟩; change roomP _ _ 1; simp only [roomP]; omega) | (change roomP _ _ 1; simp only [roomP]; omega) | (simp; omega) | (simp [inR]; omega) | (simp [inR]; done) | decide | (simp; done)) ?_; conv => whnf)
                | (refine idx_nat (by omega) (fun x hx => ?_); conv => whnf)
                | (refine frz_auto ?_; conv => whnf)
                | (refine draw_plain ?_; conv => whnf)
                | (refine idx_intro (by omega) (by omega) (fun x hx => ?_); conv => whnf)
                | (refine idx_intro (by first | omega | (simp; omega) | (simp; done)) (by first | omega | (simp; omega) | (simp; done)) (fun x hx => ?_); conv => whnf)
                | fail
      · obtain ⟨W1, hW1⟩ : ∃ W : List viewT.El, W = [] := ⟨_, rfl⟩
        obtain ⟨W3, hW3⟩ : ∃ W : List viewT.El, W = [] := ⟨_, rfl⟩
        have HW1 : ∀ w ∈ W1, mapL (allE w.1 w.2.1) = mapL (allE b rs) := by rw [hW1]; simp
        have HW3 : ∀ w ∈ W3, mapL (allE w.1 w.2.1) = mapL (allE b rs) := by rw [hW3]; simp
        conv => whnf
        repeat' first
          | (refine idx_kn (by assumption) ?_; conv => whnf)
          | (refine idx_ki (by assumption) (by omega) ?_; conv => whnf)
          | (refine br_true (by first | with_reducible exact rfl | assumption | decide) ?_; conv => whnf)
          | (refine br_false (by first | with_reducible exact rfl | assumption | decide) ?_; conv => whnf)
          | ((with_reducible refine br_kt (by assumption) ?_); conv => whnf)
          | ((with_reducible refine br_kf (by assumption) ?_); conv => whnf)
          | ((with_reducible refine br_nt (by assumption) ?_); conv => whnf)
          | ((with_reducible refine br_nf (by assumption) ?_); conv => whnf)
          | ((with_reducible refine br_et (by assumption) ?_); conv => whnf)
          | ((with_reducible refine br_ef (by assumption) ?_); conv => whnf)
          | ((with_reducible refine br_dec (fun h => ?_) (fun h => ?_)) <;> first | (exfalso; omega) | conv => whnf)
          | ((with_reducible refine br_ndec (fun h => ?_) (fun h => ?_)) <;> first | (exfalso; omega) | conv => whnf)
          | ((with_reducible refine br_ne (fun h => ?_) (fun h => ?_)) <;> first | (exfalso; omega) | conv => whnf)
          | ((with_reducible refine br_eq (fun h => ?_) (fun h => ?_)) <;> first | (exfalso; omega) | conv => whnf)
          | (refine br_intro (fun h => ?_) (fun h => ?_) <;> conv => whnf)
          | (refine need_in (by first | exact trivial | assumption | exact ⟨rfl, Nat.le_refl _⟩ | exact ⟨rfl, rfl⟩ | (simp only [inR]; omega) | omega | (simp only [roomP, true_and, and_true, List.length_take, List.length_drop, List.length_append, List.length_cons, List.length_nil, List.length_set, List.length_replicate]; omega) | (refine ⟨by first | exact trivial | rfl, by first | exact Nat.le_refl _ | omega | (simp; omega), ?_⟩; change roomP _ _ 1; simp only [roomP]; omega) | (change roomP _ _ 1; simp only [roomP]; omega) | (simp; omega) | (simp [inR]; omega) | (simp [inR]; done) | decide | (simp; done)) ?_; conv => whnf)
          | (refine idx_nat (by omega) (fun x hx => ?_); conv => whnf)
          | (refine frz_auto ?_; conv => whnf)
          | (refine draw_plain ?_; conv => whnf)
          | (refine idx_intro (by omega) (by omega) (fun x hx => ?_); conv => whnf)
          | (refine idx_intro (by first | omega | (simp; omega) | (simp; done)) (by first | omega | (simp; omega) | (simp; done)) (fun x hx => ?_); conv => whnf)
          | fail
        apply loop_same [] [14] (fun vs => ∃ id : Nat, vs = [.int .i64 (id : Int)] ∧ 1 ≤ id ∧ id ≤ 1000001) (fun vs => match vs with | [.int _ k] => 1000001 - k.toNat | _ => 0)
        conv => whnf
        refine ⟨⟨⟨1, rfl, by omega, by omega⟩, rfl⟩, ?_⟩
        rintro vs h' - ⟨⟨id, rfl, hi1, hi2⟩, rfl⟩
        have hPt : rs.length ≤ 1000000000 := by omega
        cases hta : rs.any (fun r => r.1 == (id : Int)) with
        | true =>
          have hlt := take_id hv hta
          conv => whnf
          repeat' first
            | (refine idx_kn (by assumption) ?_; conv => whnf)
            | (refine idx_ki (by assumption) (by omega) ?_; conv => whnf)
            | (refine br_true (by first | with_reducible exact rfl | assumption | decide) ?_; conv => whnf)
            | (refine br_false (by first | with_reducible exact rfl | assumption | decide) ?_; conv => whnf)
            | ((with_reducible refine br_kt (by assumption) ?_); conv => whnf)
            | ((with_reducible refine br_kf (by assumption) ?_); conv => whnf)
            | ((with_reducible refine br_nt (by assumption) ?_); conv => whnf)
            | ((with_reducible refine br_nf (by assumption) ?_); conv => whnf)
            | ((with_reducible refine br_et (by assumption) ?_); conv => whnf)
            | ((with_reducible refine br_ef (by assumption) ?_); conv => whnf)
            | ((with_reducible refine br_dec (fun h => ?_) (fun h => ?_)) <;> first | (exfalso; omega) | conv => whnf)
            | ((with_reducible refine br_ndec (fun h => ?_) (fun h => ?_)) <;> first | (exfalso; omega) | conv => whnf)
            | ((with_reducible refine br_ne (fun h => ?_) (fun h => ?_)) <;> first | (exfalso; omega) | conv => whnf)
            | ((with_reducible refine br_eq (fun h => ?_) (fun h => ?_)) <;> first | (exfalso; omega) | conv => whnf)
            | (refine br_intro (fun h => ?_) (fun h => ?_) <;> conv => whnf)
            | (refine need_in (by first | exact trivial | assumption | exact ⟨rfl, Nat.le_refl _⟩ | exact ⟨rfl, rfl⟩ | (simp only [inR]; omega) | omega | (simp only [roomP, true_and, and_true, List.length_take, List.length_drop, List.length_append, List.length_cons, List.length_nil, List.length_set, List.length_replicate]; omega) | (refine ⟨by first | exact trivial | rfl, by first | exact Nat.le_refl _ | omega | (simp; omega), ?_⟩; change roomP _ _ 1; simp only [roomP]; omega) | (change roomP _ _ 1; simp only [roomP]; omega) | (simp; omega) | (simp [inR]; omega) | (simp [inR]; done) | decide | (simp; done)) ?_; conv => whnf)
            | (refine idx_nat (by omega) (fun x hx => ?_); conv => whnf)
            | (refine frz_auto ?_; conv => whnf)
            | (refine draw_plain ?_; conv => whnf)
            | (refine idx_intro (by omega) (by omega) (fun x hx => ?_); conv => whnf)
            | (refine idx_intro (by first | omega | (simp; omega) | (simp; done)) (by first | omega | (simp; omega) | (simp; done)) (fun x hx => ?_); conv => whnf)
            | fail
          refine back_intro (by conv => whnf) rfl ⟨⟨id + 1, rfl, by omega, by omega⟩, rfl⟩ ?_
          show 1000001 - ((id : Int) + 1).toNat < 1000001 - (id : Int).toNat
          omega
        | false =>
          conv => whnf
          repeat' first
            | (refine idx_kn (by assumption) ?_; conv => whnf)
            | (refine idx_ki (by assumption) (by omega) ?_; conv => whnf)
            | (refine br_true (by first | with_reducible exact rfl | assumption | decide) ?_; conv => whnf)
            | (refine br_false (by first | with_reducible exact rfl | assumption | decide) ?_; conv => whnf)
            | ((with_reducible refine br_kt (by assumption) ?_); conv => whnf)
            | ((with_reducible refine br_kf (by assumption) ?_); conv => whnf)
            | ((with_reducible refine br_nt (by assumption) ?_); conv => whnf)
            | ((with_reducible refine br_nf (by assumption) ?_); conv => whnf)
            | ((with_reducible refine br_et (by assumption) ?_); conv => whnf)
            | ((with_reducible refine br_ef (by assumption) ?_); conv => whnf)
            | ((with_reducible refine br_dec (fun h => ?_) (fun h => ?_)) <;> first | (exfalso; omega) | conv => whnf)
            | ((with_reducible refine br_ndec (fun h => ?_) (fun h => ?_)) <;> first | (exfalso; omega) | conv => whnf)
            | ((with_reducible refine br_ne (fun h => ?_) (fun h => ?_)) <;> first | (exfalso; omega) | conv => whnf)
            | ((with_reducible refine br_eq (fun h => ?_) (fun h => ?_)) <;> first | (exfalso; omega) | conv => whnf)
            | (refine br_intro (fun h => ?_) (fun h => ?_) <;> conv => whnf)
            | (refine need_in (by first | exact trivial | assumption | exact ⟨rfl, Nat.le_refl _⟩ | exact ⟨rfl, rfl⟩ | (simp only [inR]; omega) | omega | (simp only [roomP, true_and, and_true, List.length_take, List.length_drop, List.length_append, List.length_cons, List.length_nil, List.length_set, List.length_replicate]; omega) | (refine ⟨by first | exact trivial | rfl, by first | exact Nat.le_refl _ | omega | (simp; omega), ?_⟩; change roomP _ _ 1; simp only [roomP]; omega) | (change roomP _ _ 1; simp only [roomP]; omega) | (simp; omega) | (simp [inR]; omega) | (simp [inR]; done) | decide | (simp; done)) ?_; conv => whnf)
            | (refine idx_nat (by omega) (fun x hx => ?_); conv => whnf)
            | (refine frz_auto ?_; conv => whnf)
            | (refine draw_plain ?_; conv => whnf)
            | (refine idx_intro (by omega) (by omega) (fun x hx => ?_); conv => whnf)
            | (refine idx_intro (by first | omega | (simp; omega) | (simp; done)) (by first | omega | (simp; omega) | (simp; done)) (fun x hx => ?_); conv => whnf)
            | fail
          obtain ⟨W, hW⟩ : ∃ W : List viewT.El, W = W1 ++ ([([], ((id : Int), b, ()) :: rs, ())] ++ W3) := ⟨_, rfl⟩
          have HW : ∀ w ∈ W, (vcL w.1 w.2.1).2 = 0 → mapL (allE w.1 w.2.1) = mapL (allE b rs) := by
            intro w hw hvw
            rw [hW] at hw
            rcases List.mem_append.1 hw with hw | hw
            · exact HW1 w hw
            · rcases List.mem_append.1 hw with hw | hw
              · rw [List.mem_singleton] at hw
                rw [hw]; exact congrArg mapL (all_buf b rs id)
              · exact HW3 w hw
          have hWl : W.length ≤ 3 := by rw [hW, hW1, hW3]; simp
          apply loop_same [.lst 8 viewT] [18] (fun vs => ∃ i : Nat, vs = [.int .i64 (i : Int)] ∧ i ≤ W.length) (fun vs => match vs with | [.int _ k] => W.length - k.toNat | _ => 0)
          apply norm_w (W := W)
          · conv => whnf
            repeat' first
              | (refine idx_kn (by assumption) ?_; conv => whnf)
              | (refine idx_ki (by assumption) (by omega) ?_; conv => whnf)
              | (refine br_true (by first | with_reducible exact rfl | assumption | decide) ?_; conv => whnf)
              | (refine br_false (by first | with_reducible exact rfl | assumption | decide) ?_; conv => whnf)
              | ((with_reducible refine br_kt (by assumption) ?_); conv => whnf)
              | ((with_reducible refine br_kf (by assumption) ?_); conv => whnf)
              | ((with_reducible refine br_nt (by assumption) ?_); conv => whnf)
              | ((with_reducible refine br_nf (by assumption) ?_); conv => whnf)
              | ((with_reducible refine br_et (by assumption) ?_); conv => whnf)
              | ((with_reducible refine br_ef (by assumption) ?_); conv => whnf)
              | ((with_reducible refine br_dec (fun h => ?_) (fun h => ?_)) <;> first | (exfalso; omega) | conv => whnf)
              | ((with_reducible refine br_ndec (fun h => ?_) (fun h => ?_)) <;> first | (exfalso; omega) | conv => whnf)
              | ((with_reducible refine br_ne (fun h => ?_) (fun h => ?_)) <;> first | (exfalso; omega) | conv => whnf)
              | ((with_reducible refine br_eq (fun h => ?_) (fun h => ?_)) <;> first | (exfalso; omega) | conv => whnf)
              | (refine br_intro (fun h => ?_) (fun h => ?_) <;> conv => whnf)
              | (refine need_in (by first | exact trivial | assumption | exact ⟨rfl, Nat.le_refl _⟩ | exact ⟨rfl, rfl⟩ | (simp only [inR]; omega) | omega | (simp only [roomP, true_and, and_true, List.length_take, List.length_drop, List.length_append, List.length_cons, List.length_nil, List.length_set, List.length_replicate]; omega) | (refine ⟨by first | exact trivial | rfl, by first | exact Nat.le_refl _ | omega | (simp; omega), ?_⟩; change roomP _ _ 1; simp only [roomP]; omega) | (change roomP _ _ 1; simp only [roomP]; omega) | (simp; omega) | (simp [inR]; omega) | (simp [inR]; done) | decide | (simp; done)) ?_; conv => whnf)
              | (refine idx_nat (by omega) (fun x hx => ?_); conv => whnf)
              | (refine frz_auto ?_; conv => whnf)
              | (refine draw_plain ?_; conv => whnf)
              | (refine idx_intro (by omega) (by omega) (fun x hx => ?_); conv => whnf)
              | (refine idx_intro (by first | omega | (simp; omega) | (simp; done)) (by first | omega | (simp; omega) | (simp; done)) (fun x hx => ?_); conv => whnf)
              | fail
            exact ⟨rfl, rfl⟩
          · rw [hW, hW1, hW3]
            simp [cast_self]
            try simp (disch := (simp only [List.length_append, List.length_take, List.length_drop, List.length_cons, List.length_nil]; omega)) only [List.take_of_length_le, List.cons_append, List.nil_append, List.append_assoc, and_self, true_and]
          refine ⟨⟨⟨0, rfl, by omega⟩, rfl⟩, ?_⟩
          rintro vs h' - ⟨⟨i, rfl, hil0⟩, rfl⟩
          by_cases hil : i < W.length
          · obtain ⟨w, hw⟩ : ∃ w, W[i]? = some w := ⟨_, List.getElem?_eq_getElem hil⟩
            have hgw := HW w (List.mem_of_getElem? hw)
            obtain ⟨wb, wr, wu⟩ := w
            by_cases hvw : (vcL wb wr).2 = 0
            · have hpw := part_all hvw
              have hmw := hgw hvw
              have t1 : (partR wb wr ⟨#[]⟩ ⟨#[]⟩ false).2 = 0 := by rw [hpw]
              have t2 : sameL pairT (partR wb wr ⟨#[]⟩ ⟨#[]⟩ false).1 (partR b rs ⟨#[]⟩ ⟨#[]⟩ false).1 = true := by rw [hpw, h1]; exact sameP_iff.2 hmw
              have t3 : (!sameL pairT (partR wb wr ⟨#[]⟩ ⟨#[]⟩ false).1 (partR b rs ⟨#[]⟩ ⟨#[]⟩ false).1) = false := by rw [t2]; rfl
              have t4 : (partR wb wr ⟨#[]⟩ ⟨#[]⟩ false).1.length ≤ 4611686018427387904 := by rw [hpw]; have := mapL_len (allE wb wr); have := (all_len (vcL_zero hvw)).2; show (mapL (allE wb wr)).length ≤ _; omega
              conv => whnf
              repeat' first
                | (refine idx_kn (by assumption) ?_; conv => whnf)
                | (refine idx_ki (by assumption) (by omega) ?_; conv => whnf)
                | (refine br_true (by first | with_reducible exact rfl | assumption | decide) ?_; conv => whnf)
                | (refine br_false (by first | with_reducible exact rfl | assumption | decide) ?_; conv => whnf)
                | ((with_reducible refine br_kt (by assumption) ?_); conv => whnf)
                | ((with_reducible refine br_kf (by assumption) ?_); conv => whnf)
                | ((with_reducible refine br_nt (by assumption) ?_); conv => whnf)
                | ((with_reducible refine br_nf (by assumption) ?_); conv => whnf)
                | ((with_reducible refine br_et (by assumption) ?_); conv => whnf)
                | ((with_reducible refine br_ef (by assumption) ?_); conv => whnf)
                | ((with_reducible refine br_dec (fun h => ?_) (fun h => ?_)) <;> first | (exfalso; omega) | conv => whnf)
                | ((with_reducible refine br_ndec (fun h => ?_) (fun h => ?_)) <;> first | (exfalso; omega) | conv => whnf)
                | ((with_reducible refine br_ne (fun h => ?_) (fun h => ?_)) <;> first | (exfalso; omega) | conv => whnf)
                | ((with_reducible refine br_eq (fun h => ?_) (fun h => ?_)) <;> first | (exfalso; omega) | conv => whnf)
                | (refine br_intro (fun h => ?_) (fun h => ?_) <;> conv => whnf)
                | (refine need_in (by first | exact trivial | assumption | exact ⟨rfl, Nat.le_refl _⟩ | exact ⟨rfl, rfl⟩ | (simp only [inR]; omega) | omega | (simp only [roomP, true_and, and_true, List.length_take, List.length_drop, List.length_append, List.length_cons, List.length_nil, List.length_set, List.length_replicate]; omega) | (refine ⟨by first | exact trivial | rfl, by first | exact Nat.le_refl _ | omega | (simp; omega), ?_⟩; change roomP _ _ 1; simp only [roomP]; omega) | (change roomP _ _ 1; simp only [roomP]; omega) | (simp; omega) | (simp [inR]; omega) | (simp [inR]; done) | decide | (simp; done)) ?_; conv => whnf)
                | (refine idx_nat (by omega) (fun x hx => ?_); conv => whnf)
                | (refine frz_auto ?_; conv => whnf)
                | (refine draw_plain ?_; conv => whnf)
                | (refine idx_intro (by omega) (by omega) (fun x hx => ?_); conv => whnf)
                | (refine idx_intro (by first | omega | (simp; omega) | (simp; done)) (by first | omega | (simp; omega) | (simp; done)) (fun x hx => ?_); conv => whnf)
                | fail
              refine back_intro (by conv => whnf) rfl ⟨⟨i + 1, rfl, by omega⟩, rfl⟩ ?_
              show W.length - ((i : Int) + 1).toNat < W.length - (i : Int).toNat
              omega
            · conv => whnf
              repeat' first
                | (refine idx_kn (by assumption) ?_; conv => whnf)
                | (refine idx_ki (by assumption) (by omega) ?_; conv => whnf)
                | (refine br_true (by first | with_reducible exact rfl | assumption | decide) ?_; conv => whnf)
                | (refine br_false (by first | with_reducible exact rfl | assumption | decide) ?_; conv => whnf)
                | ((with_reducible refine br_kt (by assumption) ?_); conv => whnf)
                | ((with_reducible refine br_kf (by assumption) ?_); conv => whnf)
                | ((with_reducible refine br_nt (by assumption) ?_); conv => whnf)
                | ((with_reducible refine br_nf (by assumption) ?_); conv => whnf)
                | ((with_reducible refine br_et (by assumption) ?_); conv => whnf)
                | ((with_reducible refine br_ef (by assumption) ?_); conv => whnf)
                | ((with_reducible refine br_dec (fun h => ?_) (fun h => ?_)) <;> first | (exfalso; omega) | conv => whnf)
                | ((with_reducible refine br_ndec (fun h => ?_) (fun h => ?_)) <;> first | (exfalso; omega) | conv => whnf)
                | ((with_reducible refine br_ne (fun h => ?_) (fun h => ?_)) <;> first | (exfalso; omega) | conv => whnf)
                | ((with_reducible refine br_eq (fun h => ?_) (fun h => ?_)) <;> first | (exfalso; omega) | conv => whnf)
                | (refine br_intro (fun h => ?_) (fun h => ?_) <;> conv => whnf)
                | (refine need_in (by first | exact trivial | assumption | exact ⟨rfl, Nat.le_refl _⟩ | exact ⟨rfl, rfl⟩ | (simp only [inR]; omega) | omega | (simp only [roomP, true_and, and_true, List.length_take, List.length_drop, List.length_append, List.length_cons, List.length_nil, List.length_set, List.length_replicate]; omega) | (refine ⟨by first | exact trivial | rfl, by first | exact Nat.le_refl _ | omega | (simp; omega), ?_⟩; change roomP _ _ 1; simp only [roomP]; omega) | (change roomP _ _ 1; simp only [roomP]; omega) | (simp; omega) | (simp [inR]; omega) | (simp [inR]; done) | decide | (simp; done)) ?_; conv => whnf)
                | (refine idx_nat (by omega) (fun x hx => ?_); conv => whnf)
                | (refine frz_auto ?_; conv => whnf)
                | (refine draw_plain ?_; conv => whnf)
                | (refine idx_intro (by omega) (by omega) (fun x hx => ?_); conv => whnf)
                | (refine idx_intro (by first | omega | (simp; omega) | (simp; done)) (by first | omega | (simp; omega) | (simp; done)) (fun x hx => ?_); conv => whnf)
                | fail
              refine back_intro (by conv => whnf) rfl ⟨⟨i + 1, rfl, by omega⟩, rfl⟩ ?_
              show W.length - ((i : Int) + 1).toNat < W.length - (i : Int).toNat
              omega
          · conv => whnf
            repeat' first
              | (refine idx_kn (by assumption) ?_; conv => whnf)
              | (refine idx_ki (by assumption) (by omega) ?_; conv => whnf)
              | (refine br_true (by first | with_reducible exact rfl | assumption | decide) ?_; conv => whnf)
              | (refine br_false (by first | with_reducible exact rfl | assumption | decide) ?_; conv => whnf)
              | ((with_reducible refine br_kt (by assumption) ?_); conv => whnf)
              | ((with_reducible refine br_kf (by assumption) ?_); conv => whnf)
              | ((with_reducible refine br_nt (by assumption) ?_); conv => whnf)
              | ((with_reducible refine br_nf (by assumption) ?_); conv => whnf)
              | ((with_reducible refine br_et (by assumption) ?_); conv => whnf)
              | ((with_reducible refine br_ef (by assumption) ?_); conv => whnf)
              | ((with_reducible refine br_dec (fun h => ?_) (fun h => ?_)) <;> first | (exfalso; omega) | conv => whnf)
              | ((with_reducible refine br_ndec (fun h => ?_) (fun h => ?_)) <;> first | (exfalso; omega) | conv => whnf)
              | ((with_reducible refine br_ne (fun h => ?_) (fun h => ?_)) <;> first | (exfalso; omega) | conv => whnf)
              | ((with_reducible refine br_eq (fun h => ?_) (fun h => ?_)) <;> first | (exfalso; omega) | conv => whnf)
              | (refine br_intro (fun h => ?_) (fun h => ?_) <;> conv => whnf)
              | (refine need_in (by first | exact trivial | assumption | exact ⟨rfl, Nat.le_refl _⟩ | exact ⟨rfl, rfl⟩ | (simp only [inR]; omega) | omega | (simp only [roomP, true_and, and_true, List.length_take, List.length_drop, List.length_append, List.length_cons, List.length_nil, List.length_set, List.length_replicate]; omega) | (refine ⟨by first | exact trivial | rfl, by first | exact Nat.le_refl _ | omega | (simp; omega), ?_⟩; change roomP _ _ 1; simp only [roomP]; omega) | (change roomP _ _ 1; simp only [roomP]; omega) | (simp; omega) | (simp [inR]; omega) | (simp [inR]; done) | decide | (simp; done)) ?_; conv => whnf)
              | (refine idx_nat (by omega) (fun x hx => ?_); conv => whnf)
              | (refine frz_auto ?_; conv => whnf)
              | (refine draw_plain ?_; conv => whnf)
              | (refine idx_intro (by omega) (by omega) (fun x hx => ?_); conv => whnf)
              | (refine idx_intro (by first | omega | (simp; omega) | (simp; done)) (by first | omega | (simp; omega) | (simp; done)) (fun x hx => ?_); conv => whnf)
              | fail
    · rcases hn with hn | hn | ⟨hn, hn0⟩
      rotate_left
      · obtain ⟨zi, zl, W3, hz, gz, hW3, HW3⟩ := last (by omega)
        obtain ⟨W1, hW1⟩ : ∃ W : List viewT.El, W = [] := ⟨_, rfl⟩
        have HW1 : ∀ w ∈ W1, mapL (allE w.1 w.2.1) = mapL (allE b rs) := by rw [hW1]; simp
        rcases hW3 with ⟨lz, hW3⟩ | ⟨lz, hW3⟩
        all_goals
          conv => whnf
          repeat' first
            | (refine idx_kn (by assumption) ?_; conv => whnf)
            | (refine idx_ki (by assumption) (by omega) ?_; conv => whnf)
            | (refine br_true (by first | with_reducible exact rfl | assumption | decide) ?_; conv => whnf)
            | (refine br_false (by first | with_reducible exact rfl | assumption | decide) ?_; conv => whnf)
            | ((with_reducible refine br_kt (by assumption) ?_); conv => whnf)
            | ((with_reducible refine br_kf (by assumption) ?_); conv => whnf)
            | ((with_reducible refine br_nt (by assumption) ?_); conv => whnf)
            | ((with_reducible refine br_nf (by assumption) ?_); conv => whnf)
            | ((with_reducible refine br_et (by assumption) ?_); conv => whnf)
            | ((with_reducible refine br_ef (by assumption) ?_); conv => whnf)
            | ((with_reducible refine br_dec (fun h => ?_) (fun h => ?_)) <;> first | (exfalso; omega) | conv => whnf)
            | ((with_reducible refine br_ndec (fun h => ?_) (fun h => ?_)) <;> first | (exfalso; omega) | conv => whnf)
            | ((with_reducible refine br_ne (fun h => ?_) (fun h => ?_)) <;> first | (exfalso; omega) | conv => whnf)
            | ((with_reducible refine br_eq (fun h => ?_) (fun h => ?_)) <;> first | (exfalso; omega) | conv => whnf)
            | (refine br_intro (fun h => ?_) (fun h => ?_) <;> conv => whnf)
            | (refine need_in (by first | exact trivial | assumption | exact ⟨rfl, Nat.le_refl _⟩ | exact ⟨rfl, rfl⟩ | (simp only [inR]; omega) | omega | (simp only [roomP, true_and, and_true, List.length_take, List.length_drop, List.length_append, List.length_cons, List.length_nil, List.length_set, List.length_replicate]; omega) | (refine ⟨by first | exact trivial | rfl, by first | exact Nat.le_refl _ | omega | (simp; omega), ?_⟩; change roomP _ _ 1; simp only [roomP]; omega) | (change roomP _ _ 1; simp only [roomP]; omega) | (simp; omega) | (simp [inR]; omega) | (simp [inR]; done) | decide | (simp; done)) ?_; conv => whnf)
            | (refine idx_nat (by omega) (fun x hx => ?_); conv => whnf)
            | (refine frz_auto ?_; conv => whnf)
            | (refine draw_plain ?_; conv => whnf)
            | (refine idx_intro (by omega) (by omega) (fun x hx => ?_); conv => whnf)
            | (refine idx_intro (by first | omega | (simp; omega) | (simp; done)) (by first | omega | (simp; omega) | (simp; done)) (fun x hx => ?_); conv => whnf)
            | fail
          obtain ⟨W, hW⟩ : ∃ W : List viewT.El, W = W1 ++ W3 := ⟨_, rfl⟩
          have HW : ∀ w ∈ W, (vcL w.1 w.2.1).2 = 0 → mapL (allE w.1 w.2.1) = mapL (allE b rs) := by
            intro w hw hvw
            rw [hW] at hw
            rcases List.mem_append.1 hw with hw | hw
            · exact HW1 w hw
            · exact HW3 w hw
          have hWl : W.length ≤ 3 := by rw [hW, hW1, hW3]; simp
          apply loop_same [.lst 8 viewT] [18] (fun vs => ∃ i : Nat, vs = [.int .i64 (i : Int)] ∧ i ≤ W.length) (fun vs => match vs with | [.int _ k] => W.length - k.toNat | _ => 0)
          apply norm_w (W := W)
          · conv => whnf
            repeat' first
              | (refine idx_kn (by assumption) ?_; conv => whnf)
              | (refine idx_ki (by assumption) (by omega) ?_; conv => whnf)
              | (refine br_true (by first | with_reducible exact rfl | assumption | decide) ?_; conv => whnf)
              | (refine br_false (by first | with_reducible exact rfl | assumption | decide) ?_; conv => whnf)
              | ((with_reducible refine br_kt (by assumption) ?_); conv => whnf)
              | ((with_reducible refine br_kf (by assumption) ?_); conv => whnf)
              | ((with_reducible refine br_nt (by assumption) ?_); conv => whnf)
              | ((with_reducible refine br_nf (by assumption) ?_); conv => whnf)
              | ((with_reducible refine br_et (by assumption) ?_); conv => whnf)
              | ((with_reducible refine br_ef (by assumption) ?_); conv => whnf)
              | ((with_reducible refine br_dec (fun h => ?_) (fun h => ?_)) <;> first | (exfalso; omega) | conv => whnf)
              | ((with_reducible refine br_ndec (fun h => ?_) (fun h => ?_)) <;> first | (exfalso; omega) | conv => whnf)
              | ((with_reducible refine br_ne (fun h => ?_) (fun h => ?_)) <;> first | (exfalso; omega) | conv => whnf)
              | ((with_reducible refine br_eq (fun h => ?_) (fun h => ?_)) <;> first | (exfalso; omega) | conv => whnf)
              | (refine br_intro (fun h => ?_) (fun h => ?_) <;> conv => whnf)
              | (refine need_in (by first | exact trivial | assumption | exact ⟨rfl, Nat.le_refl _⟩ | exact ⟨rfl, rfl⟩ | (simp only [inR]; omega) | omega | (simp only [roomP, true_and, and_true, List.length_take, List.length_drop, List.length_append, List.length_cons, List.length_nil, List.length_set, List.length_replicate]; omega) | (refine ⟨by first | exact trivial | rfl, by first | exact Nat.le_refl _ | omega | (simp; omega), ?_⟩; change roomP _ _ 1; simp only [roomP]; omega) | (change roomP _ _ 1; simp only [roomP]; omega) | (simp; omega) | (simp [inR]; omega) | (simp [inR]; done) | decide | (simp; done)) ?_; conv => whnf)
              | (refine idx_nat (by omega) (fun x hx => ?_); conv => whnf)
              | (refine frz_auto ?_; conv => whnf)
              | (refine draw_plain ?_; conv => whnf)
              | (refine idx_intro (by omega) (by omega) (fun x hx => ?_); conv => whnf)
              | (refine idx_intro (by first | omega | (simp; omega) | (simp; done)) (by first | omega | (simp; omega) | (simp; done)) (fun x hx => ?_); conv => whnf)
              | fail
            exact ⟨rfl, rfl⟩
          · rw [hW, hW1, hW3]
            simp [cast_self]
            try simp (disch := (simp only [List.length_append, List.length_take, List.length_drop, List.length_cons, List.length_nil]; omega)) only [List.take_of_length_le, List.cons_append, List.nil_append, List.append_assoc, and_self, true_and]
          refine ⟨⟨⟨0, rfl, by omega⟩, rfl⟩, ?_⟩
          rintro vs h' - ⟨⟨i, rfl, hil0⟩, rfl⟩
          by_cases hil : i < W.length
          · obtain ⟨w, hw⟩ : ∃ w, W[i]? = some w := ⟨_, List.getElem?_eq_getElem hil⟩
            have hgw := HW w (List.mem_of_getElem? hw)
            obtain ⟨wb, wr, wu⟩ := w
            by_cases hvw : (vcL wb wr).2 = 0
            · have hpw := part_all hvw
              have hmw := hgw hvw
              have t1 : (partR wb wr ⟨#[]⟩ ⟨#[]⟩ false).2 = 0 := by rw [hpw]
              have t2 : sameL pairT (partR wb wr ⟨#[]⟩ ⟨#[]⟩ false).1 (partR b rs ⟨#[]⟩ ⟨#[]⟩ false).1 = true := by rw [hpw, h1]; exact sameP_iff.2 hmw
              have t3 : (!sameL pairT (partR wb wr ⟨#[]⟩ ⟨#[]⟩ false).1 (partR b rs ⟨#[]⟩ ⟨#[]⟩ false).1) = false := by rw [t2]; rfl
              have t4 : (partR wb wr ⟨#[]⟩ ⟨#[]⟩ false).1.length ≤ 4611686018427387904 := by rw [hpw]; have := mapL_len (allE wb wr); have := (all_len (vcL_zero hvw)).2; show (mapL (allE wb wr)).length ≤ _; omega
              conv => whnf
              repeat' first
                | (refine idx_kn (by assumption) ?_; conv => whnf)
                | (refine idx_ki (by assumption) (by omega) ?_; conv => whnf)
                | (refine br_true (by first | with_reducible exact rfl | assumption | decide) ?_; conv => whnf)
                | (refine br_false (by first | with_reducible exact rfl | assumption | decide) ?_; conv => whnf)
                | ((with_reducible refine br_kt (by assumption) ?_); conv => whnf)
                | ((with_reducible refine br_kf (by assumption) ?_); conv => whnf)
                | ((with_reducible refine br_nt (by assumption) ?_); conv => whnf)
                | ((with_reducible refine br_nf (by assumption) ?_); conv => whnf)
                | ((with_reducible refine br_et (by assumption) ?_); conv => whnf)
                | ((with_reducible refine br_ef (by assumption) ?_); conv => whnf)
                | ((with_reducible refine br_dec (fun h => ?_) (fun h => ?_)) <;> first | (exfalso; omega) | conv => whnf)
                | ((with_reducible refine br_ndec (fun h => ?_) (fun h => ?_)) <;> first | (exfalso; omega) | conv => whnf)
                | ((with_reducible refine br_ne (fun h => ?_) (fun h => ?_)) <;> first | (exfalso; omega) | conv => whnf)
                | ((with_reducible refine br_eq (fun h => ?_) (fun h => ?_)) <;> first | (exfalso; omega) | conv => whnf)
                | (refine br_intro (fun h => ?_) (fun h => ?_) <;> conv => whnf)
                | (refine need_in (by first | exact trivial | assumption | exact ⟨rfl, Nat.le_refl _⟩ | exact ⟨rfl, rfl⟩ | (simp only [inR]; omega) | omega | (simp only [roomP, true_and, and_true, List.length_take, List.length_drop, List.length_append, List.length_cons, List.length_nil, List.length_set, List.length_replicate]; omega) | (refine ⟨by first | exact trivial | rfl, by first | exact Nat.le_refl _ | omega | (simp; omega), ?_⟩; change roomP _ _ 1; simp only [roomP]; omega) | (change roomP _ _ 1; simp only [roomP]; omega) | (simp; omega) | (simp [inR]; omega) | (simp [inR]; done) | decide | (simp; done)) ?_; conv => whnf)
                | (refine idx_nat (by omega) (fun x hx => ?_); conv => whnf)
                | (refine frz_auto ?_; conv => whnf)
                | (refine draw_plain ?_; conv => whnf)
                | (refine idx_intro (by omega) (by omega) (fun x hx => ?_); conv => whnf)
                | (refine idx_intro (by first | omega | (simp; omega) | (simp; done)) (by first | omega | (simp; omega) | (simp; done)) (fun x hx => ?_); conv => whnf)
                | fail
              refine back_intro (by conv => whnf) rfl ⟨⟨i + 1, rfl, by omega⟩, rfl⟩ ?_
              show W.length - ((i : Int) + 1).toNat < W.length - (i : Int).toNat
              omega
            · conv => whnf
              repeat' first
                | (refine idx_kn (by assumption) ?_; conv => whnf)
                | (refine idx_ki (by assumption) (by omega) ?_; conv => whnf)
                | (refine br_true (by first | with_reducible exact rfl | assumption | decide) ?_; conv => whnf)
                | (refine br_false (by first | with_reducible exact rfl | assumption | decide) ?_; conv => whnf)
                | ((with_reducible refine br_kt (by assumption) ?_); conv => whnf)
                | ((with_reducible refine br_kf (by assumption) ?_); conv => whnf)
                | ((with_reducible refine br_nt (by assumption) ?_); conv => whnf)
                | ((with_reducible refine br_nf (by assumption) ?_); conv => whnf)
                | ((with_reducible refine br_et (by assumption) ?_); conv => whnf)
                | ((with_reducible refine br_ef (by assumption) ?_); conv => whnf)
                | ((with_reducible refine br_dec (fun h => ?_) (fun h => ?_)) <;> first | (exfalso; omega) | conv => whnf)
                | ((with_reducible refine br_ndec (fun h => ?_) (fun h => ?_)) <;> first | (exfalso; omega) | conv => whnf)
                | ((with_reducible refine br_ne (fun h => ?_) (fun h => ?_)) <;> first | (exfalso; omega) | conv => whnf)
                | ((with_reducible refine br_eq (fun h => ?_) (fun h => ?_)) <;> first | (exfalso; omega) | conv => whnf)
                | (refine br_intro (fun h => ?_) (fun h => ?_) <;> conv => whnf)
                | (refine need_in (by first | exact trivial | assumption | exact ⟨rfl, Nat.le_refl _⟩ | exact ⟨rfl, rfl⟩ | (simp only [inR]; omega) | omega | (simp only [roomP, true_and, and_true, List.length_take, List.length_drop, List.length_append, List.length_cons, List.length_nil, List.length_set, List.length_replicate]; omega) | (refine ⟨by first | exact trivial | rfl, by first | exact Nat.le_refl _ | omega | (simp; omega), ?_⟩; change roomP _ _ 1; simp only [roomP]; omega) | (change roomP _ _ 1; simp only [roomP]; omega) | (simp; omega) | (simp [inR]; omega) | (simp [inR]; done) | decide | (simp; done)) ?_; conv => whnf)
                | (refine idx_nat (by omega) (fun x hx => ?_); conv => whnf)
                | (refine frz_auto ?_; conv => whnf)
                | (refine draw_plain ?_; conv => whnf)
                | (refine idx_intro (by omega) (by omega) (fun x hx => ?_); conv => whnf)
                | (refine idx_intro (by first | omega | (simp; omega) | (simp; done)) (by first | omega | (simp; omega) | (simp; done)) (fun x hx => ?_); conv => whnf)
                | fail
              refine back_intro (by conv => whnf) rfl ⟨⟨i + 1, rfl, by omega⟩, rfl⟩ ?_
              show W.length - ((i : Int) + 1).toNat < W.length - (i : Int).toNat
              omega
          · conv => whnf
            repeat' first
              | (refine idx_kn (by assumption) ?_; conv => whnf)
              | (refine idx_ki (by assumption) (by omega) ?_; conv => whnf)
              | (refine br_true (by first | with_reducible exact rfl | assumption | decide) ?_; conv => whnf)
              | (refine br_false (by first | with_reducible exact rfl | assumption | decide) ?_; conv => whnf)
              | ((with_reducible refine br_kt (by assumption) ?_); conv => whnf)
              | ((with_reducible refine br_kf (by assumption) ?_); conv => whnf)
              | ((with_reducible refine br_nt (by assumption) ?_); conv => whnf)
              | ((with_reducible refine br_nf (by assumption) ?_); conv => whnf)
              | ((with_reducible refine br_et (by assumption) ?_); conv => whnf)
              | ((with_reducible refine br_ef (by assumption) ?_); conv => whnf)
              | ((with_reducible refine br_dec (fun h => ?_) (fun h => ?_)) <;> first | (exfalso; omega) | conv => whnf)
              | ((with_reducible refine br_ndec (fun h => ?_) (fun h => ?_)) <;> first | (exfalso; omega) | conv => whnf)
              | ((with_reducible refine br_ne (fun h => ?_) (fun h => ?_)) <;> first | (exfalso; omega) | conv => whnf)
              | ((with_reducible refine br_eq (fun h => ?_) (fun h => ?_)) <;> first | (exfalso; omega) | conv => whnf)
              | (refine br_intro (fun h => ?_) (fun h => ?_) <;> conv => whnf)
              | (refine need_in (by first | exact trivial | assumption | exact ⟨rfl, Nat.le_refl _⟩ | exact ⟨rfl, rfl⟩ | (simp only [inR]; omega) | omega | (simp only [roomP, true_and, and_true, List.length_take, List.length_drop, List.length_append, List.length_cons, List.length_nil, List.length_set, List.length_replicate]; omega) | (refine ⟨by first | exact trivial | rfl, by first | exact Nat.le_refl _ | omega | (simp; omega), ?_⟩; change roomP _ _ 1; simp only [roomP]; omega) | (change roomP _ _ 1; simp only [roomP]; omega) | (simp; omega) | (simp [inR]; omega) | (simp [inR]; done) | decide | (simp; done)) ?_; conv => whnf)
              | (refine idx_nat (by omega) (fun x hx => ?_); conv => whnf)
              | (refine frz_auto ?_; conv => whnf)
              | (refine draw_plain ?_; conv => whnf)
              | (refine idx_intro (by omega) (by omega) (fun x hx => ?_); conv => whnf)
              | (refine idx_intro (by first | omega | (simp; omega) | (simp; done)) (by first | omega | (simp; omega) | (simp; done)) (fun x hx => ?_); conv => whnf)
              | fail
      · obtain ⟨zi, zl, W3, hz, gz, hW3, HW3⟩ := last (by omega)
        obtain ⟨xi, xl, yi, yl, W1, hx, hy, hP13, hW1, HW1⟩ := first hn
        replace e0 := e0 hn
        replace e1 := e1 hn
        rcases hW3 with ⟨lz, hW3⟩ | ⟨lz, hW3⟩ <;> rcases hW1 with ⟨lx, hW1⟩ | ⟨lx, hW1⟩
        all_goals
          conv => whnf
          repeat' first
            | (refine idx_kn (by assumption) ?_; conv => whnf)
            | (refine idx_ki (by assumption) (by omega) ?_; conv => whnf)
            | (refine br_true (by first | with_reducible exact rfl | assumption | decide) ?_; conv => whnf)
            | (refine br_false (by first | with_reducible exact rfl | assumption | decide) ?_; conv => whnf)
            | ((with_reducible refine br_kt (by assumption) ?_); conv => whnf)
            | ((with_reducible refine br_kf (by assumption) ?_); conv => whnf)
            | ((with_reducible refine br_nt (by assumption) ?_); conv => whnf)
            | ((with_reducible refine br_nf (by assumption) ?_); conv => whnf)
            | ((with_reducible refine br_et (by assumption) ?_); conv => whnf)
            | ((with_reducible refine br_ef (by assumption) ?_); conv => whnf)
            | ((with_reducible refine br_dec (fun h => ?_) (fun h => ?_)) <;> first | (exfalso; omega) | conv => whnf)
            | ((with_reducible refine br_ndec (fun h => ?_) (fun h => ?_)) <;> first | (exfalso; omega) | conv => whnf)
            | ((with_reducible refine br_ne (fun h => ?_) (fun h => ?_)) <;> first | (exfalso; omega) | conv => whnf)
            | ((with_reducible refine br_eq (fun h => ?_) (fun h => ?_)) <;> first | (exfalso; omega) | conv => whnf)
            | (refine br_intro (fun h => ?_) (fun h => ?_) <;> conv => whnf)
            | (refine need_in (by first | exact trivial | assumption | exact ⟨rfl, Nat.le_refl _⟩ | exact ⟨rfl, rfl⟩ | (simp only [inR]; omega) | omega | (simp only [roomP, true_and, and_true, List.length_take, List.length_drop, List.length_append, List.length_cons, List.length_nil, List.length_set, List.length_replicate]; omega) | (refine ⟨by first | exact trivial | rfl, by first | exact Nat.le_refl _ | omega | (simp; omega), ?_⟩; change roomP _ _ 1; simp only [roomP]; omega) | (change roomP _ _ 1; simp only [roomP]; omega) | (simp; omega) | (simp [inR]; omega) | (simp [inR]; done) | decide | (simp; done)) ?_; conv => whnf)
            | (refine idx_nat (by omega) (fun x hx => ?_); conv => whnf)
            | (refine frz_auto ?_; conv => whnf)
            | (refine draw_plain ?_; conv => whnf)
            | (refine idx_intro (by omega) (by omega) (fun x hx => ?_); conv => whnf)
            | (refine idx_intro (by first | omega | (simp; omega) | (simp; done)) (by first | omega | (simp; omega) | (simp; done)) (fun x hx => ?_); conv => whnf)
            | fail
          obtain ⟨W, hW⟩ : ∃ W : List viewT.El, W = W1 ++ W3 := ⟨_, rfl⟩
          have HW : ∀ w ∈ W, (vcL w.1 w.2.1).2 = 0 → mapL (allE w.1 w.2.1) = mapL (allE b rs) := by
            intro w hw hvw
            rw [hW] at hw
            rcases List.mem_append.1 hw with hw | hw
            · exact HW1 w hw
            · exact HW3 w hw
          have hWl : W.length ≤ 3 := by rw [hW, hW1, hW3]; simp
          apply loop_same [.lst 8 viewT] [18] (fun vs => ∃ i : Nat, vs = [.int .i64 (i : Int)] ∧ i ≤ W.length) (fun vs => match vs with | [.int _ k] => W.length - k.toNat | _ => 0)
          apply norm_w (W := W)
          · conv => whnf
            repeat' first
              | (refine idx_kn (by assumption) ?_; conv => whnf)
              | (refine idx_ki (by assumption) (by omega) ?_; conv => whnf)
              | (refine br_true (by first | with_reducible exact rfl | assumption | decide) ?_; conv => whnf)
              | (refine br_false (by first | with_reducible exact rfl | assumption | decide) ?_; conv => whnf)
              | ((with_reducible refine br_kt (by assumption) ?_); conv => whnf)
              | ((with_reducible refine br_kf (by assumption) ?_); conv => whnf)
              | ((with_reducible refine br_nt (by assumption) ?_); conv => whnf)
              | ((with_reducible refine br_nf (by assumption) ?_); conv => whnf)
              | ((with_reducible refine br_et (by assumption) ?_); conv => whnf)
              | ((with_reducible refine br_ef (by assumption) ?_); conv => whnf)
              | ((with_reducible refine br_dec (fun h => ?_) (fun h => ?_)) <;> first | (exfalso; omega) | conv => whnf)
              | ((with_reducible refine br_ndec (fun h => ?_) (fun h => ?_)) <;> first | (exfalso; omega) | conv => whnf)
              | ((with_reducible refine br_ne (fun h => ?_) (fun h => ?_)) <;> first | (exfalso; omega) | conv => whnf)
              | ((with_reducible refine br_eq (fun h => ?_) (fun h => ?_)) <;> first | (exfalso; omega) | conv => whnf)
              | (refine br_intro (fun h => ?_) (fun h => ?_) <;> conv => whnf)
              | (refine need_in (by first | exact trivial | assumption | exact ⟨rfl, Nat.le_refl _⟩ | exact ⟨rfl, rfl⟩ | (simp only [inR]; omega) | omega | (simp only [roomP, true_and, and_true, List.length_take, List.length_drop, List.length_append, List.length_cons, List.length_nil, List.length_set, List.length_replicate]; omega) | (refine ⟨by first | exact trivial | rfl, by first | exact Nat.le_refl _ | omega | (simp; omega), ?_⟩; change roomP _ _ 1; simp only [roomP]; omega) | (change roomP _ _ 1; simp only [roomP]; omega) | (simp; omega) | (simp [inR]; omega) | (simp [inR]; done) | decide | (simp; done)) ?_; conv => whnf)
              | (refine idx_nat (by omega) (fun x hx => ?_); conv => whnf)
              | (refine frz_auto ?_; conv => whnf)
              | (refine draw_plain ?_; conv => whnf)
              | (refine idx_intro (by omega) (by omega) (fun x hx => ?_); conv => whnf)
              | (refine idx_intro (by first | omega | (simp; omega) | (simp; done)) (by first | omega | (simp; omega) | (simp; done)) (fun x hx => ?_); conv => whnf)
              | fail
            exact ⟨rfl, rfl⟩
          · rw [hW, hW1, hW3]
            simp [cast_self]
            try simp (disch := (simp only [List.length_append, List.length_take, List.length_drop, List.length_cons, List.length_nil]; omega)) only [List.take_of_length_le, List.cons_append, List.nil_append, List.append_assoc, and_self, true_and]
          refine ⟨⟨⟨0, rfl, by omega⟩, rfl⟩, ?_⟩
          rintro vs h' - ⟨⟨i, rfl, hil0⟩, rfl⟩
          by_cases hil : i < W.length
          · obtain ⟨w, hw⟩ : ∃ w, W[i]? = some w := ⟨_, List.getElem?_eq_getElem hil⟩
            have hgw := HW w (List.mem_of_getElem? hw)
            obtain ⟨wb, wr, wu⟩ := w
            by_cases hvw : (vcL wb wr).2 = 0
            · have hpw := part_all hvw
              have hmw := hgw hvw
              have t1 : (partR wb wr ⟨#[]⟩ ⟨#[]⟩ false).2 = 0 := by rw [hpw]
              have t2 : sameL pairT (partR wb wr ⟨#[]⟩ ⟨#[]⟩ false).1 (partR b rs ⟨#[]⟩ ⟨#[]⟩ false).1 = true := by rw [hpw, h1]; exact sameP_iff.2 hmw
              have t3 : (!sameL pairT (partR wb wr ⟨#[]⟩ ⟨#[]⟩ false).1 (partR b rs ⟨#[]⟩ ⟨#[]⟩ false).1) = false := by rw [t2]; rfl
              have t4 : (partR wb wr ⟨#[]⟩ ⟨#[]⟩ false).1.length ≤ 4611686018427387904 := by rw [hpw]; have := mapL_len (allE wb wr); have := (all_len (vcL_zero hvw)).2; show (mapL (allE wb wr)).length ≤ _; omega
              conv => whnf
              repeat' first
                | (refine idx_kn (by assumption) ?_; conv => whnf)
                | (refine idx_ki (by assumption) (by omega) ?_; conv => whnf)
                | (refine br_true (by first | with_reducible exact rfl | assumption | decide) ?_; conv => whnf)
                | (refine br_false (by first | with_reducible exact rfl | assumption | decide) ?_; conv => whnf)
                | ((with_reducible refine br_kt (by assumption) ?_); conv => whnf)
                | ((with_reducible refine br_kf (by assumption) ?_); conv => whnf)
                | ((with_reducible refine br_nt (by assumption) ?_); conv => whnf)
                | ((with_reducible refine br_nf (by assumption) ?_); conv => whnf)
                | ((with_reducible refine br_et (by assumption) ?_); conv => whnf)
                | ((with_reducible refine br_ef (by assumption) ?_); conv => whnf)
                | ((with_reducible refine br_dec (fun h => ?_) (fun h => ?_)) <;> first | (exfalso; omega) | conv => whnf)
                | ((with_reducible refine br_ndec (fun h => ?_) (fun h => ?_)) <;> first | (exfalso; omega) | conv => whnf)
                | ((with_reducible refine br_ne (fun h => ?_) (fun h => ?_)) <;> first | (exfalso; omega) | conv => whnf)
                | ((with_reducible refine br_eq (fun h => ?_) (fun h => ?_)) <;> first | (exfalso; omega) | conv => whnf)
                | (refine br_intro (fun h => ?_) (fun h => ?_) <;> conv => whnf)
                | (refine need_in (by first | exact trivial | assumption | exact ⟨rfl, Nat.le_refl _⟩ | exact ⟨rfl, rfl⟩ | (simp only [inR]; omega) | omega | (simp only [roomP, true_and, and_true, List.length_take, List.length_drop, List.length_append, List.length_cons, List.length_nil, List.length_set, List.length_replicate]; omega) | (refine ⟨by first | exact trivial | rfl, by first | exact Nat.le_refl _ | omega | (simp; omega), ?_⟩; change roomP _ _ 1; simp only [roomP]; omega) | (change roomP _ _ 1; simp only [roomP]; omega) | (simp; omega) | (simp [inR]; omega) | (simp [inR]; done) | decide | (simp; done)) ?_; conv => whnf)
                | (refine idx_nat (by omega) (fun x hx => ?_); conv => whnf)
                | (refine frz_auto ?_; conv => whnf)
                | (refine draw_plain ?_; conv => whnf)
                | (refine idx_intro (by omega) (by omega) (fun x hx => ?_); conv => whnf)
                | (refine idx_intro (by first | omega | (simp; omega) | (simp; done)) (by first | omega | (simp; omega) | (simp; done)) (fun x hx => ?_); conv => whnf)
                | fail
              refine back_intro (by conv => whnf) rfl ⟨⟨i + 1, rfl, by omega⟩, rfl⟩ ?_
              show W.length - ((i : Int) + 1).toNat < W.length - (i : Int).toNat
              omega
            · conv => whnf
              repeat' first
                | (refine idx_kn (by assumption) ?_; conv => whnf)
                | (refine idx_ki (by assumption) (by omega) ?_; conv => whnf)
                | (refine br_true (by first | with_reducible exact rfl | assumption | decide) ?_; conv => whnf)
                | (refine br_false (by first | with_reducible exact rfl | assumption | decide) ?_; conv => whnf)
                | ((with_reducible refine br_kt (by assumption) ?_); conv => whnf)
                | ((with_reducible refine br_kf (by assumption) ?_); conv => whnf)
                | ((with_reducible refine br_nt (by assumption) ?_); conv => whnf)
                | ((with_reducible refine br_nf (by assumption) ?_); conv => whnf)
                | ((with_reducible refine br_et (by assumption) ?_); conv => whnf)
                | ((with_reducible refine br_ef (by assumption) ?_); conv => whnf)
                | ((with_reducible refine br_dec (fun h => ?_) (fun h => ?_)) <;> first | (exfalso; omega) | conv => whnf)
                | ((with_reducible refine br_ndec (fun h => ?_) (fun h => ?_)) <;> first | (exfalso; omega) | conv => whnf)
                | ((with_reducible refine br_ne (fun h => ?_) (fun h => ?_)) <;> first | (exfalso; omega) | conv => whnf)
                | ((with_reducible refine br_eq (fun h => ?_) (fun h => ?_)) <;> first | (exfalso; omega) | conv => whnf)
                | (refine br_intro (fun h => ?_) (fun h => ?_) <;> conv => whnf)
                | (refine need_in (by first | exact trivial | assumption | exact ⟨rfl, Nat.le_refl _⟩ | exact ⟨rfl, rfl⟩ | (simp only [inR]; omega) | omega | (simp only [roomP, true_and, and_true, List.length_take, List.length_drop, List.length_append, List.length_cons, List.length_nil, List.length_set, List.length_replicate]; omega) | (refine ⟨by first | exact trivial | rfl, by first | exact Nat.le_refl _ | omega | (simp; omega), ?_⟩; change roomP _ _ 1; simp only [roomP]; omega) | (change roomP _ _ 1; simp only [roomP]; omega) | (simp; omega) | (simp [inR]; omega) | (simp [inR]; done) | decide | (simp; done)) ?_; conv => whnf)
                | (refine idx_nat (by omega) (fun x hx => ?_); conv => whnf)
                | (refine frz_auto ?_; conv => whnf)
                | (refine draw_plain ?_; conv => whnf)
                | (refine idx_intro (by omega) (by omega) (fun x hx => ?_); conv => whnf)
                | (refine idx_intro (by first | omega | (simp; omega) | (simp; done)) (by first | omega | (simp; omega) | (simp; done)) (fun x hx => ?_); conv => whnf)
                | fail
              refine back_intro (by conv => whnf) rfl ⟨⟨i + 1, rfl, by omega⟩, rfl⟩ ?_
              show W.length - ((i : Int) + 1).toNat < W.length - (i : Int).toNat
              omega
          · conv => whnf
            repeat' first
              | (refine idx_kn (by assumption) ?_; conv => whnf)
              | (refine idx_ki (by assumption) (by omega) ?_; conv => whnf)
              | (refine br_true (by first | with_reducible exact rfl | assumption | decide) ?_; conv => whnf)
              | (refine br_false (by first | with_reducible exact rfl | assumption | decide) ?_; conv => whnf)
              | ((with_reducible refine br_kt (by assumption) ?_); conv => whnf)
              | ((with_reducible refine br_kf (by assumption) ?_); conv => whnf)
              | ((with_reducible refine br_nt (by assumption) ?_); conv => whnf)
              | ((with_reducible refine br_nf (by assumption) ?_); conv => whnf)
              | ((with_reducible refine br_et (by assumption) ?_); conv => whnf)
              | ((with_reducible refine br_ef (by assumption) ?_); conv => whnf)
              | ((with_reducible refine br_dec (fun h => ?_) (fun h => ?_)) <;> first | (exfalso; omega) | conv => whnf)
              | ((with_reducible refine br_ndec (fun h => ?_) (fun h => ?_)) <;> first | (exfalso; omega) | conv => whnf)
              | ((with_reducible refine br_ne (fun h => ?_) (fun h => ?_)) <;> first | (exfalso; omega) | conv => whnf)
              | ((with_reducible refine br_eq (fun h => ?_) (fun h => ?_)) <;> first | (exfalso; omega) | conv => whnf)
              | (refine br_intro (fun h => ?_) (fun h => ?_) <;> conv => whnf)
              | (refine need_in (by first | exact trivial | assumption | exact ⟨rfl, Nat.le_refl _⟩ | exact ⟨rfl, rfl⟩ | (simp only [inR]; omega) | omega | (simp only [roomP, true_and, and_true, List.length_take, List.length_drop, List.length_append, List.length_cons, List.length_nil, List.length_set, List.length_replicate]; omega) | (refine ⟨by first | exact trivial | rfl, by first | exact Nat.le_refl _ | omega | (simp; omega), ?_⟩; change roomP _ _ 1; simp only [roomP]; omega) | (change roomP _ _ 1; simp only [roomP]; omega) | (simp; omega) | (simp [inR]; omega) | (simp [inR]; done) | decide | (simp; done)) ?_; conv => whnf)
              | (refine idx_nat (by omega) (fun x hx => ?_); conv => whnf)
              | (refine frz_auto ?_; conv => whnf)
              | (refine draw_plain ?_; conv => whnf)
              | (refine idx_intro (by omega) (by omega) (fun x hx => ?_); conv => whnf)
              | (refine idx_intro (by first | omega | (simp; omega) | (simp; done)) (by first | omega | (simp; omega) | (simp; done)) (fun x hx => ?_); conv => whnf)
              | fail
      · obtain ⟨W1, hW1⟩ : ∃ W : List viewT.El, W = [] := ⟨_, rfl⟩
        obtain ⟨W3, hW3⟩ : ∃ W : List viewT.El, W = [] := ⟨_, rfl⟩
        have HW1 : ∀ w ∈ W1, mapL (allE w.1 w.2.1) = mapL (allE b rs) := by rw [hW1]; simp
        have HW3 : ∀ w ∈ W3, mapL (allE w.1 w.2.1) = mapL (allE b rs) := by rw [hW3]; simp
        conv => whnf
        repeat' first
          | (refine idx_kn (by assumption) ?_; conv => whnf)
          | (refine idx_ki (by assumption) (by omega) ?_; conv => whnf)
          | (refine br_true (by first | with_reducible exact rfl | assumption | decide) ?_; conv => whnf)
          | (refine br_false (by first | with_reducible exact rfl | assumption | decide) ?_; conv => whnf)
          | ((with_reducible refine br_kt (by assumption) ?_); conv => whnf)
          | ((with_reducible refine br_kf (by assumption) ?_); conv => whnf)
          | ((with_reducible refine br_nt (by assumption) ?_); conv => whnf)
          | ((with_reducible refine br_nf (by assumption) ?_); conv => whnf)
          | ((with_reducible refine br_et (by assumption) ?_); conv => whnf)
          | ((with_reducible refine br_ef (by assumption) ?_); conv => whnf)
          | ((with_reducible refine br_dec (fun h => ?_) (fun h => ?_)) <;> first | (exfalso; omega) | conv => whnf)
          | ((with_reducible refine br_ndec (fun h => ?_) (fun h => ?_)) <;> first | (exfalso; omega) | conv => whnf)
          | ((with_reducible refine br_ne (fun h => ?_) (fun h => ?_)) <;> first | (exfalso; omega) | conv => whnf)
          | ((with_reducible refine br_eq (fun h => ?_) (fun h => ?_)) <;> first | (exfalso; omega) | conv => whnf)
          | (refine br_intro (fun h => ?_) (fun h => ?_) <;> conv => whnf)
          | (refine need_in (by first | exact trivial | assumption | exact ⟨rfl, Nat.le_refl _⟩ | exact ⟨rfl, rfl⟩ | (simp only [inR]; omega) | omega | (simp only [roomP, true_and, and_true, List.length_take, List.length_drop, List.length_append, List.length_cons, List.length_nil, List.length_set, List.length_replicate]; omega) | (refine ⟨by first | exact trivial | rfl, by first | exact Nat.le_refl _ | omega | (simp; omega), ?_⟩; change roomP _ _ 1; simp only [roomP]; omega) | (change roomP _ _ 1; simp only [roomP]; omega) | (simp; omega) | (simp [inR]; omega) | (simp [inR]; done) | decide | (simp; done)) ?_; conv => whnf)
          | (refine idx_nat (by omega) (fun x hx => ?_); conv => whnf)
          | (refine frz_auto ?_; conv => whnf)
          | (refine draw_plain ?_; conv => whnf)
          | (refine idx_intro (by omega) (by omega) (fun x hx => ?_); conv => whnf)
          | (refine idx_intro (by first | omega | (simp; omega) | (simp; done)) (by first | omega | (simp; omega) | (simp; done)) (fun x hx => ?_); conv => whnf)
          | fail
        obtain ⟨W, hW⟩ : ∃ W : List viewT.El, W = W1 ++ W3 := ⟨_, rfl⟩
        have HW : ∀ w ∈ W, (vcL w.1 w.2.1).2 = 0 → mapL (allE w.1 w.2.1) = mapL (allE b rs) := by
          intro w hw hvw
          rw [hW] at hw
          rcases List.mem_append.1 hw with hw | hw
          · exact HW1 w hw
          · exact HW3 w hw
        have hWl : W.length ≤ 3 := by rw [hW, hW1, hW3]; simp
        apply loop_same [.lst 8 viewT] [18] (fun vs => ∃ i : Nat, vs = [.int .i64 (i : Int)] ∧ i ≤ W.length) (fun vs => match vs with | [.int _ k] => W.length - k.toNat | _ => 0)
        apply norm_w (W := W)
        · conv => whnf
          repeat' first
            | (refine idx_kn (by assumption) ?_; conv => whnf)
            | (refine idx_ki (by assumption) (by omega) ?_; conv => whnf)
            | (refine br_true (by first | with_reducible exact rfl | assumption | decide) ?_; conv => whnf)
            | (refine br_false (by first | with_reducible exact rfl | assumption | decide) ?_; conv => whnf)
            | ((with_reducible refine br_kt (by assumption) ?_); conv => whnf)
            | ((with_reducible refine br_kf (by assumption) ?_); conv => whnf)
            | ((with_reducible refine br_nt (by assumption) ?_); conv => whnf)
            | ((with_reducible refine br_nf (by assumption) ?_); conv => whnf)
            | ((with_reducible refine br_et (by assumption) ?_); conv => whnf)
            | ((with_reducible refine br_ef (by assumption) ?_); conv => whnf)
            | ((with_reducible refine br_dec (fun h => ?_) (fun h => ?_)) <;> first | (exfalso; omega) | conv => whnf)
            | ((with_reducible refine br_ndec (fun h => ?_) (fun h => ?_)) <;> first | (exfalso; omega) | conv => whnf)
            | ((with_reducible refine br_ne (fun h => ?_) (fun h => ?_)) <;> first | (exfalso; omega) | conv => whnf)
            | ((with_reducible refine br_eq (fun h => ?_) (fun h => ?_)) <;> first | (exfalso; omega) | conv => whnf)
            | (refine br_intro (fun h => ?_) (fun h => ?_) <;> conv => whnf)
            | (refine need_in (by first | exact trivial | assumption | exact ⟨rfl, Nat.le_refl _⟩ | exact ⟨rfl, rfl⟩ | (simp only [inR]; omega) | omega | (simp only [roomP, true_and, and_true, List.length_take, List.length_drop, List.length_append, List.length_cons, List.length_nil, List.length_set, List.length_replicate]; omega) | (refine ⟨by first | exact trivial | rfl, by first | exact Nat.le_refl _ | omega | (simp; omega), ?_⟩; change roomP _ _ 1; simp only [roomP]; omega) | (change roomP _ _ 1; simp only [roomP]; omega) | (simp; omega) | (simp [inR]; omega) | (simp [inR]; done) | decide | (simp; done)) ?_; conv => whnf)
            | (refine idx_nat (by omega) (fun x hx => ?_); conv => whnf)
            | (refine frz_auto ?_; conv => whnf)
            | (refine draw_plain ?_; conv => whnf)
            | (refine idx_intro (by omega) (by omega) (fun x hx => ?_); conv => whnf)
            | (refine idx_intro (by first | omega | (simp; omega) | (simp; done)) (by first | omega | (simp; omega) | (simp; done)) (fun x hx => ?_); conv => whnf)
            | fail
          exact ⟨rfl, rfl⟩
        · rw [hW, hW1, hW3]
          simp [cast_self]
          try simp (disch := (simp only [List.length_append, List.length_take, List.length_drop, List.length_cons, List.length_nil]; omega)) only [List.take_of_length_le, List.cons_append, List.nil_append, List.append_assoc, and_self, true_and]
        refine ⟨⟨⟨0, rfl, by omega⟩, rfl⟩, ?_⟩
        rintro vs h' - ⟨⟨i, rfl, hil0⟩, rfl⟩
        by_cases hil : i < W.length
        · obtain ⟨w, hw⟩ : ∃ w, W[i]? = some w := ⟨_, List.getElem?_eq_getElem hil⟩
          have hgw := HW w (List.mem_of_getElem? hw)
          obtain ⟨wb, wr, wu⟩ := w
          by_cases hvw : (vcL wb wr).2 = 0
          · have hpw := part_all hvw
            have hmw := hgw hvw
            have t1 : (partR wb wr ⟨#[]⟩ ⟨#[]⟩ false).2 = 0 := by rw [hpw]
            have t2 : sameL pairT (partR wb wr ⟨#[]⟩ ⟨#[]⟩ false).1 (partR b rs ⟨#[]⟩ ⟨#[]⟩ false).1 = true := by rw [hpw, h1]; exact sameP_iff.2 hmw
            have t3 : (!sameL pairT (partR wb wr ⟨#[]⟩ ⟨#[]⟩ false).1 (partR b rs ⟨#[]⟩ ⟨#[]⟩ false).1) = false := by rw [t2]; rfl
            have t4 : (partR wb wr ⟨#[]⟩ ⟨#[]⟩ false).1.length ≤ 4611686018427387904 := by rw [hpw]; have := mapL_len (allE wb wr); have := (all_len (vcL_zero hvw)).2; show (mapL (allE wb wr)).length ≤ _; omega
            conv => whnf
            repeat' first
              | (refine idx_kn (by assumption) ?_; conv => whnf)
              | (refine idx_ki (by assumption) (by omega) ?_; conv => whnf)
              | (refine br_true (by first | with_reducible exact rfl | assumption | decide) ?_; conv => whnf)
              | (refine br_false (by first | with_reducible exact rfl | assumption | decide) ?_; conv => whnf)
              | ((with_reducible refine br_kt (by assumption) ?_); conv => whnf)
              | ((with_reducible refine br_kf (by assumption) ?_); conv => whnf)
              | ((with_reducible refine br_nt (by assumption) ?_); conv => whnf)
              | ((with_reducible refine br_nf (by assumption) ?_); conv => whnf)
              | ((with_reducible refine br_et (by assumption) ?_); conv => whnf)
              | ((with_reducible refine br_ef (by assumption) ?_); conv => whnf)
              | ((with_reducible refine br_dec (fun h => ?_) (fun h => ?_)) <;> first | (exfalso; omega) | conv => whnf)
              | ((with_reducible refine br_ndec (fun h => ?_) (fun h => ?_)) <;> first | (exfalso; omega) | conv => whnf)
              | ((with_reducible refine br_ne (fun h => ?_) (fun h => ?_)) <;> first | (exfalso; omega) | conv => whnf)
              | ((with_reducible refine br_eq (fun h => ?_) (fun h => ?_)) <;> first | (exfalso; omega) | conv => whnf)
              | (refine br_intro (fun h => ?_) (fun h => ?_) <;> conv => whnf)
              | (refine need_in (by first | exact trivial | assumption | exact ⟨rfl, Nat.le_refl _⟩ | exact ⟨rfl, rfl⟩ | (simp only [inR]; omega) | omega | (simp only [roomP, true_and, and_true, List.length_take, List.length_drop, List.length_append, List.length_cons, List.length_nil, List.length_set, List.length_replicate]; omega) | (refine ⟨by first | exact trivial | rfl, by first | exact Nat.le_refl _ | omega | (simp; omega), ?_⟩; change roomP _ _ 1; simp only [roomP]; omega) | (change roomP _ _ 1; simp only [roomP]; omega) | (simp; omega) | (simp [inR]; omega) | (simp [inR]; done) | decide | (simp; done)) ?_; conv => whnf)
              | (refine idx_nat (by omega) (fun x hx => ?_); conv => whnf)
              | (refine frz_auto ?_; conv => whnf)
              | (refine draw_plain ?_; conv => whnf)
              | (refine idx_intro (by omega) (by omega) (fun x hx => ?_); conv => whnf)
              | (refine idx_intro (by first | omega | (simp; omega) | (simp; done)) (by first | omega | (simp; omega) | (simp; done)) (fun x hx => ?_); conv => whnf)
              | fail
            refine back_intro (by conv => whnf) rfl ⟨⟨i + 1, rfl, by omega⟩, rfl⟩ ?_
            show W.length - ((i : Int) + 1).toNat < W.length - (i : Int).toNat
            omega
          · conv => whnf
            repeat' first
              | (refine idx_kn (by assumption) ?_; conv => whnf)
              | (refine idx_ki (by assumption) (by omega) ?_; conv => whnf)
              | (refine br_true (by first | with_reducible exact rfl | assumption | decide) ?_; conv => whnf)
              | (refine br_false (by first | with_reducible exact rfl | assumption | decide) ?_; conv => whnf)
              | ((with_reducible refine br_kt (by assumption) ?_); conv => whnf)
              | ((with_reducible refine br_kf (by assumption) ?_); conv => whnf)
              | ((with_reducible refine br_nt (by assumption) ?_); conv => whnf)
              | ((with_reducible refine br_nf (by assumption) ?_); conv => whnf)
              | ((with_reducible refine br_et (by assumption) ?_); conv => whnf)
              | ((with_reducible refine br_ef (by assumption) ?_); conv => whnf)
              | ((with_reducible refine br_dec (fun h => ?_) (fun h => ?_)) <;> first | (exfalso; omega) | conv => whnf)
              | ((with_reducible refine br_ndec (fun h => ?_) (fun h => ?_)) <;> first | (exfalso; omega) | conv => whnf)
              | ((with_reducible refine br_ne (fun h => ?_) (fun h => ?_)) <;> first | (exfalso; omega) | conv => whnf)
              | ((with_reducible refine br_eq (fun h => ?_) (fun h => ?_)) <;> first | (exfalso; omega) | conv => whnf)
              | (refine br_intro (fun h => ?_) (fun h => ?_) <;> conv => whnf)
              | (refine need_in (by first | exact trivial | assumption | exact ⟨rfl, Nat.le_refl _⟩ | exact ⟨rfl, rfl⟩ | (simp only [inR]; omega) | omega | (simp only [roomP, true_and, and_true, List.length_take, List.length_drop, List.length_append, List.length_cons, List.length_nil, List.length_set, List.length_replicate]; omega) | (refine ⟨by first | exact trivial | rfl, by first | exact Nat.le_refl _ | omega | (simp; omega), ?_⟩; change roomP _ _ 1; simp only [roomP]; omega) | (change roomP _ _ 1; simp only [roomP]; omega) | (simp; omega) | (simp [inR]; omega) | (simp [inR]; done) | decide | (simp; done)) ?_; conv => whnf)
              | (refine idx_nat (by omega) (fun x hx => ?_); conv => whnf)
              | (refine frz_auto ?_; conv => whnf)
              | (refine draw_plain ?_; conv => whnf)
              | (refine idx_intro (by omega) (by omega) (fun x hx => ?_); conv => whnf)
              | (refine idx_intro (by first | omega | (simp; omega) | (simp; done)) (by first | omega | (simp; omega) | (simp; done)) (fun x hx => ?_); conv => whnf)
              | fail
            refine back_intro (by conv => whnf) rfl ⟨⟨i + 1, rfl, by omega⟩, rfl⟩ ?_
            show W.length - ((i : Int) + 1).toNat < W.length - (i : Int).toNat
            omega
        · conv => whnf
          repeat' first
            | (refine idx_kn (by assumption) ?_; conv => whnf)
            | (refine idx_ki (by assumption) (by omega) ?_; conv => whnf)
            | (refine br_true (by first | with_reducible exact rfl | assumption | decide) ?_; conv => whnf)
            | (refine br_false (by first | with_reducible exact rfl | assumption | decide) ?_; conv => whnf)
            | ((with_reducible refine br_kt (by assumption) ?_); conv => whnf)
            | ((with_reducible refine br_kf (by assumption) ?_); conv => whnf)
            | ((with_reducible refine br_nt (by assumption) ?_); conv => whnf)
            | ((with_reducible refine br_nf (by assumption) ?_); conv => whnf)
            | ((with_reducible refine br_et (by assumption) ?_); conv => whnf)
            | ((with_reducible refine br_ef (by assumption) ?_); conv => whnf)
            | ((with_reducible refine br_dec (fun h => ?_) (fun h => ?_)) <;> first | (exfalso; omega) | conv => whnf)
            | ((with_reducible refine br_ndec (fun h => ?_) (fun h => ?_)) <;> first | (exfalso; omega) | conv => whnf)
            | ((with_reducible refine br_ne (fun h => ?_) (fun h => ?_)) <;> first | (exfalso; omega) | conv => whnf)
            | ((with_reducible refine br_eq (fun h => ?_) (fun h => ?_)) <;> first | (exfalso; omega) | conv => whnf)
            | (refine br_intro (fun h => ?_) (fun h => ?_) <;> conv => whnf)
            | (refine need_in (by first | exact trivial | assumption | exact ⟨rfl, Nat.le_refl _⟩ | exact ⟨rfl, rfl⟩ | (simp only [inR]; omega) | omega | (simp only [roomP, true_and, and_true, List.length_take, List.length_drop, List.length_append, List.length_cons, List.length_nil, List.length_set, List.length_replicate]; omega) | (refine ⟨by first | exact trivial | rfl, by first | exact Nat.le_refl _ | omega | (simp; omega), ?_⟩; change roomP _ _ 1; simp only [roomP]; omega) | (change roomP _ _ 1; simp only [roomP]; omega) | (simp; omega) | (simp [inR]; omega) | (simp [inR]; done) | decide | (simp; done)) ?_; conv => whnf)
            | (refine idx_nat (by omega) (fun x hx => ?_); conv => whnf)
            | (refine frz_auto ?_; conv => whnf)
            | (refine draw_plain ?_; conv => whnf)
            | (refine idx_intro (by omega) (by omega) (fun x hx => ?_); conv => whnf)
            | (refine idx_intro (by first | omega | (simp; omega) | (simp; done)) (by first | omega | (simp; omega) | (simp; done)) (fun x hx => ?_); conv => whnf)
            | fail
  · have hc : (partR b rs ⟨#[]⟩ ⟨#[]⟩ false).2 ≠ 0 := by unfold partR; rw [if_pos hv]; exact hv
    conv => whnf
    repeat' first
      | (refine idx_kn (by assumption) ?_; conv => whnf)
      | (refine idx_ki (by assumption) (by omega) ?_; conv => whnf)
      | (refine br_true (by first | with_reducible exact rfl | assumption | decide) ?_; conv => whnf)
      | (refine br_false (by first | with_reducible exact rfl | assumption | decide) ?_; conv => whnf)
      | ((with_reducible refine br_kt (by assumption) ?_); conv => whnf)
      | ((with_reducible refine br_kf (by assumption) ?_); conv => whnf)
      | ((with_reducible refine br_nt (by assumption) ?_); conv => whnf)
      | ((with_reducible refine br_nf (by assumption) ?_); conv => whnf)
      | ((with_reducible refine br_et (by assumption) ?_); conv => whnf)
      | ((with_reducible refine br_ef (by assumption) ?_); conv => whnf)
      | ((with_reducible refine br_dec (fun h => ?_) (fun h => ?_)) <;> first | (exfalso; omega) | conv => whnf)
      | ((with_reducible refine br_ndec (fun h => ?_) (fun h => ?_)) <;> first | (exfalso; omega) | conv => whnf)
      | ((with_reducible refine br_ne (fun h => ?_) (fun h => ?_)) <;> first | (exfalso; omega) | conv => whnf)
      | ((with_reducible refine br_eq (fun h => ?_) (fun h => ?_)) <;> first | (exfalso; omega) | conv => whnf)
      | (refine br_intro (fun h => ?_) (fun h => ?_) <;> conv => whnf)
      | (refine need_in (by first | exact trivial | assumption | exact ⟨rfl, Nat.le_refl _⟩ | exact ⟨rfl, rfl⟩ | (simp only [inR]; omega) | omega | (simp only [roomP, true_and, and_true, List.length_take, List.length_drop, List.length_append, List.length_cons, List.length_nil, List.length_set, List.length_replicate]; omega) | (refine ⟨by first | exact trivial | rfl, by first | exact Nat.le_refl _ | omega | (simp; omega), ?_⟩; change roomP _ _ 1; simp only [roomP]; omega) | (change roomP _ _ 1; simp only [roomP]; omega) | (simp; omega) | (simp [inR]; omega) | (simp [inR]; done) | decide | (simp; done)) ?_; conv => whnf)
      | (refine idx_nat (by omega) (fun x hx => ?_); conv => whnf)
      | (refine frz_auto ?_; conv => whnf)
      | (refine draw_plain ?_; conv => whnf)
      | (refine idx_intro (by omega) (by omega) (fun x hx => ?_); conv => whnf)
      | (refine idx_intro (by first | omega | (simp; omega) | (simp; done)) (by first | omega | (simp; omega) | (simp; done)) (fun x hx => ?_); conv => whnf)
      | fail
theorem lMv : ∀ es : Ty.Els lMv_T, tyOks lMv_T es → bodyA lMv_C (callN lMv_C lMv_N) Try.f7 (avTs lMv_T es) [] (fun v _ => v = .bool true) := by
  rintro ⟨⟨b, rs, _⟩, a, _⟩ h
  have h2 := h
  simp only [tyOks, tyOk] at h2
  exact lMv' b rs a h2.2.1.1 h2.2.1.2
end Go.Proofs.Ytekkeajcmibbaaa
