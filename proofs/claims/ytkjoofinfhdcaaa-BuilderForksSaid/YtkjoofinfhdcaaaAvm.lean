/-
  An abstract reading of values and memory: a region whose order is drawn does what is reckoned, whatever the order.
  An abstract reading of values and memory: a region whose order is drawn; code.
-/
import Derived.Test.YtkjoofinfhdcaaaAvk
namespace Av
open Go

/-- What is known when the operations S have run. -/
structure DInv (sg : Nat → Bool) (ops : Array Oper) (base : Nat) (G : Nat → Nat → AV) (H : Nat → Hp) (B : Nat → Option AObj) (prt : Prt) (N : Nat) (ds : List Deferred) (S : Nat → Bool) (s : St) (a : Act) : Prop where
  hp : s.h = (List.range (base + ops.size)).map fun id => FW (wH sg ops base G B id) (tau H prt id) ((H 0).getD id .dead) S ops.size
  fr : ∀ t, R s (LW (wF sg ops t) (fun i => G (i + 1) t) (G 0 t) S ops.size) (a.tmps.getD t undef)
  ok : Ok s
  size : a.tmps.size = N
  dfr : a.defers = ds
  cl : ∀ j o e, S j = true → ops[j]? = some o → e ∈ o.after.toList → Region.binds .any e = true → S e.on = true
  mkd : ∀ k c, k < ops.size → c < ops.size → S k = true → wH sg ops base G B (base + c) k = true → S c = true
section
variable {P : Program} {sg : Nat → Bool} {C : Cx} {ops : Array Oper} {base : Nat} {G : Nat → Nat → AV} {H : Nat → Hp} {V : Nat → AV} {B : Nat → Option AObj} {E : Nat → Bool} {prt : Prt} {N : Nat} {ds : List Deferred} {S : Nat → Bool} {s : St} {a : Act}
theorem DInv.get (I : DInv sg ops base G H B prt N ds S s a) {id : Nat} (hid : id < base + ops.size) : s.h[id]? = some (FW (wH sg ops base G B id) (tau H prt id) ((H 0).getD id .dead) S ops.size) := by
  rw [I.hp, List.getElem?_map, List.getElem?_range hid]
  rfl
theorem DInv.len (I : DInv sg ops base G H B prt N ds S s a) : s.h.length = base + ops.size := by rw [I.hp]; simp
theorem DInv.known (I : DInv sg ops base G H B prt N ds S s a) (T : Trc sg C ops base G H V B E) {c : Nat} (hc : c < ops.size) (hk : kn s.h (base + c) = true) : S c = true := by
  unfold kn at hk
  rw [I.get (by omega)] at hk
  have h0 : (H 0).getD (base + c) .dead = .resv := by rw [List.getD_eq_getElem?_getD, T.rsv c hc]; rfl
  have hne : FW (wH sg ops base G B (base + c)) (tau H prt (base + c)) ((H 0).getD (base + c) .dead) S ops.size ≠ (H 0).getD (base + c) .dead := by
    intro e
    rw [e, h0] at hk
    cases hk
  obtain ⟨k, h1, h2, h3⟩ := FW_some hne
  exact I.mkd k c h1 hc h3 h2
theorem wH_sg {id k : Nat} (h : wH sg ops base G B id k = true) : sg k = true := by
  unfold wH at h
  split at h
  · assumption
  · cases h
theorem wH_iff {id k : Nat} {o : Oper} (ho : ops[k]? = some o) (h : wH sg ops base G B id k = true) : ∃ ob, B k = some ob ∧ posR (base + k) (ev (G k)) o = id := by
  have hs := wH_sg h
  unfold wH at h
  rw [ho, hs] at h
  simp only [Bool.and_eq_true, decide_eq_true_eq] at h
  obtain ⟨ob, hb⟩ := Option.isSome_iff_exists.1 h.1
  exact ⟨ob, hb, h.2⟩
theorem wF_sg {t k : Nat} (h : wF sg ops t k = true) : sg k = true := by
  unfold wF at h
  split at h
  · assumption
  · cases h
theorem wF_iff {t k : Nat} {o : Oper} (ho : ops[k]? = some o) (h : wF sg ops t k = true) : o.dst = some t := by
  have hs := wF_sg h
  unfold wF at h
  rw [ho, hs] at h
  exact of_decide_eq_true h

theorem DInv.next (hT : TbOk P C.tb) (hD : SpecsOk P C.specs) (T : Trc sg C ops base G H V B E) {mc : Oper → Oper → Bool} (hcf : ∀ i j x o, ops[i]? = some x → ops[j]? = some o → i < j → confM mc ops x o = true → Bef ops i j) (hprt : PRok C ops sg base G H V B E prt) (hmc : MCok mc ops sg base G H B prt) (hN : ∀ o ∈ ops.toList, dstOk N o = true) (I : DInv sg ops base G H B prt N ds S s a) {j : Nat} {o : Oper} (ho : ops[j]? = some o) (hsj : sg j = true) (hj : S j = false)
    (hr : ∀ e ∈ o.after.toList, Region.binds .any e = true → S e.on = true) {K : Act → World → Prop} {Q : Exit → Act → World → Prop}
    (hK : ∀ s' a', Step s s' → DInv sg ops base G H B prt N ds (fun i => S i || decide (i = j)) s' a' → K a' s'.w) : wpOp P ops Q j K a s.w := by
  have hjlt := ops_lt ho
  have tk := T.tk j o ho hsj
  have hmem : o ∈ ops.toList := by
    obtain ⟨hl, he⟩ := Array.getElem?_eq_some_iff.1 ho
    rw [← he]
    exact Array.mem_toList_iff.2 (Array.getElem_mem hl)
  -- slots that the operation names stand as in the text
  have slot : ∀ t, t ∈ namesO ops o → LW (wF sg ops t) (fun i => G (i + 1) t) (G 0 t) S ops.size = G j t := by
    intro t ht
    rw [LW_text hj ops.size (by omega) (fun i hi hw => by
      obtain ⟨x, hx⟩ := ops_get hi
      exact ord I.cl hcf ho hj hr hx (conf_slot (wF_iff hx hw) ht)), ← T.fget t j (by omega)]
  have hfs : ∀ t, t ∈ namesO ops o → R s (G j t) (a.tmps.getD t undef) := fun t ht => by rw [← slot t ht]; exact I.fr t
  have opnd : ∀ x ∈ o.op.operands, ev (fun t => LW (wF sg ops t) (fun i => G (i + 1) t) (G 0 t) S ops.size) x = ev (G j) x := by
    intro x hx
    cases x with
    | tmp t =>
      refine slot t ?_
      unfold namesO
      refine List.mem_append_right _ (List.mem_append_left _ (List.mem_filterMap.2 ⟨.tmp t, Array.mem_toList_iff.2 hx, rfl⟩))
    | const v => rfl
    | func f => rfl
    | global g => rfl
  have hρ : ∀ x, R s (ev (fun t => LW (wF sg ops t) (fun i => G (i + 1) t) (G 0 t) S ops.size) x) (a.eval x) := by
    intro x
    cases x with
    | tmp t => exact I.fr t
    | const v => exact avOf_R s v
    | func f => simp only [ev, Act.eval, R, RL]; exact ⟨[], [], rfl, rfl, rfl⟩
    | global g => simp only [ev, R]
  obtain ⟨hcg, hpg⟩ := opRd_congr (C := C) (ops := ops) (h := maskH o (ev (G j)) (H j)) (nid := base + j) opnd
  -- memory that the operation looks at stands as in the text
  have memr : prt j = none → E j = true → ∀ (id : Nat) (ob : AObj), (maskH o (ev (G j)) (H j))[id]? = some ob → ob.alive = true → s.h[id]? = some ob := by
    intro hpn hEj id ob hm ha
    obtain ⟨hmt, hHj, ⟨x, hx0, hxi0⟩, _⟩ := maskH_get hm ha
    have hx := looks_sub hx0
    have hlow := idsM_low hx0 hxi0 (tk.raw hEj)
    have hidlt : id < base + ops.size := by rw [← T.lenk j (by omega)]; exact (List.getElem?_eq_some_iff.1 hHj).1
    have hkn : base ≤ id → kn s.h id = true := fun hge => by
      have := hρ x
      rw [opnd x hx] at this
      exact ids_kn _ _ id this (hlow.resolve_right (by omega))
    rw [I.get hidlt]
    have htext := T.hget hprt id j (by omega)
    rw [FW_text hj ops.size (by omega) (fun i hi hw => by
      obtain ⟨y, hy⟩ := ops_get hi
      obtain ⟨ob', hb', hp'⟩ := wH_iff hy hw
      rcases (T.tk i y hy (wH_sg hw)).posc hb' with h1 | ⟨h1, _⟩
      · constructor
        · intro _
          have : id = base + i := by omega
          subst this
          exact I.known T hi (hkn (by omega))
        · intro hji
          have : id = base + i := by omega
          subst this
          have := T.made j (by omega) i hi ob hHj ha
          omega
      · rcases hmc i j y o id (wH_sg hw) hy ho ⟨ob', hb'⟩ hp' h1 ⟨ob, hm, ha⟩ with h2 | ⟨_, _, _, h2, _⟩
        · exact ord I.cl hcf ho hj hr hy (conf_mem h1 hmt h2)
        · rw [hpn] at h2; cases h2), ← htext]
    rw [List.getD_eq_getElem?_getD, hHj]
    rfl
  -- a block that the operation turns is known
  have turned : ∀ (c : Nat) (ob : AObj), c < ops.size → B j = some ob → posR (base + j) (ev (G j)) o = base + c → c = j ∨ S c = true := by
    intro c ob hc hb hp
    rcases tk.posc hb with h1 | ⟨_, oo, _, _, x, hx0, hxi⟩
    · exact .inl (by omega)
    · have hx := looks_sub hx0
      refine .inr (I.known T hc ?_)
      have := hρ x
      rw [opnd x hx] at this
      rw [hp] at hxi
      exact ids_kn _ _ _ this hxi
  have hfree : Free s.h (base + j) := by
    refine .inr ?_
    rw [I.get (by omega), FW_none ops.size (fun i hi hw => by
      cases hSi : S i with
      | false => rfl
      | true => have := I.mkd i j hi hjlt hSi hw; rw [hj] at this; cases this), List.getD_eq_getElem?_getD, T.rsv j hjlt]
    rfl
  -- behind the operation
  have after : ∀ s' a' cv, Step s s' → Ok s' → R s' (V j) cv → s'.h = putO s.h (posR (base + j) (ev (G j)) o) ((B j).map fun _ => tau H prt (posR (base + j) (ev (G j)) o) j (FW (wH sg ops base G B (posR (base + j) (ev (G j)) o)) (tau H prt (posR (base + j) (ev (G j)) o)) ((H 0).getD (posR (base + j) (ev (G j)) o) .dead) S ops.size)) → a' = a.put o.dst cv → DInv sg ops base G H B prt N ds (fun i => S i || decide (i = j)) s' a' := by
    intro s' a' cv hst hok' hv hh ha'
    subst ha'
    have hcl : ∀ j' o' e, (S j' || decide (j' = j)) = true → ops[j']? = some o' → e ∈ o'.after.toList → Region.binds .any e = true → (S e.on || decide (e.on = j)) = true := by
      intro j' o' e hs' ho' he hb
      simp only [Bool.or_eq_true, decide_eq_true_eq] at hs' ⊢
      rcases hs' with h1 | rfl
      · exact .inl (I.cl j' o' e h1 ho' he hb)
      · rw [ho] at ho'; cases ho'
        exact .inl (hr e he hb)
    refine ⟨?_, ?_, hok', by rw [put_size]; exact I.size, by rw [put_defers]; exact I.dfr, hcl, ?_⟩
    · apply List.ext_getElem?
      intro id
      by_cases hid : id < base + ops.size
      · rw [List.getElem?_map, List.getElem?_range hid]
        simp only [Option.map_some]
        rw [FW_add hj ops.size hjlt (fun i hi hji hwi hwj => by
          obtain ⟨y, hy⟩ := ops_get hi
          obtain ⟨ob1, hb1, hp1⟩ := wH_iff ho hwj
          obtain ⟨ob2, hb2, hp2⟩ := wH_iff hy hwi
          rcases (T.tk i y hy (wH_sg hwi)).posc hb2 with h2 | ⟨h2, _⟩
          · exfalso
            rcases tk.posc hb1 with h1 | ⟨h1, oo, h3, h4, _⟩
            · omega
            · rw [hp1, ← hp2, h2] at h3
              have := T.made j (by omega) i hi oo h3 h4
              omega
          · rcases tk.seen hb1 with h1 | ⟨h1, oo, hs1, hs2⟩
            · left
              cases hSi : S i with
              | false => rfl
              | true =>
                have := I.mkd i j hi hjlt hSi (by rw [← h1, hp1]; exact hwi)
                rw [hj] at this; cases this
            · rcases hmc i j y o id (wH_sg hwi) hy ho ⟨ob2, hb2⟩ hp2 h2 ⟨oo, by rw [← hp1]; exact hs1, hs2⟩ with h3 | ⟨p, q, hpi, hqj, hd⟩
              · exact .inl ((ord I.cl hcf ho hj hr hy (conf_mem h2 (memW_T h1) h3)).2 hji)
              · right
                obtain ⟨_, _, pri⟩ := hprt i y p (wH_sg hwi) hy hpi ((T.tk i y hy (wH_sg hwi)).ran hb2)
                obtain ⟨_, _, prj⟩ := hprt j o q hsj ho hqj (tk.ran hb1)
                have hd : p.2.1 + p.2.2.2.length ≤ q.2.1 ∨ q.2.1 + q.2.2.2.length ≤ p.2.1 := by rw [pri.len, prj.len]; exact hd
                intro x
                unfold tau
                rw [hpi, hqj]
                cases x with
                | cells Tc cs =>
                  simp only
                  rw [ovr_comm cs (show q.2.1 + q.2.2.2.length ≤ p.2.1 ∨ p.2.1 + p.2.2.2.length ≤ q.2.1 by omega)]
                | _ => rfl)]
        rw [hh]
        cases hb : B j with
        | none =>
          have hw : wH sg ops base G B id j = false := by unfold wH; rw [ho, hsj]; simp [hb]
          rw [hw]
          exact I.get hid
        | some ob =>
          have hplt : posR (base + j) (ev (G j)) o < s.h.length := by rw [I.len]; exact T.plt ho hsj hb
          simp only [putO, Option.map_some]
          rw [put_get hplt]
          by_cases he : id = posR (base + j) (ev (G j)) o
          · have hw : wH sg ops base G B id j = true := by unfold wH; rw [ho, hsj]; simp [hb, he]
            rw [if_pos he, hw]
            simp only [cond_true, Option.some.injEq]
            rw [he]
          · have hw : wH sg ops base G B id j = false := by unfold wH; rw [ho, hsj]; simp only [hb, Option.isSome_some, Bool.true_and, decide_eq_false_iff_not]; exact fun e => he e.symm
            rw [if_neg he, hw]
            exact I.get hid
      · have hl : s'.h.length = base + ops.size := by
          rw [hh]
          cases hb : B j with
          | none => exact I.len
          | some ob =>
            have hplt : posR (base + j) (ev (G j)) o < s.h.length := by rw [I.len]; exact T.plt ho hsj hb
            simp only [putO, Option.map_some]
            rw [put_len hplt, I.len]
        have e1 : s'.h[id]? = none := List.getElem?_eq_none (by omega)
        rw [e1, List.getElem?_map, List.getElem?_eq_none (by rw [List.length_range]; omega)]
        rfl
    · intro t
      rw [LW_add hj ops.size hjlt (fun i hi hji hwi hwj => by
        obtain ⟨y, hy⟩ := ops_get hi
        refine (ord I.cl hcf ho hj hr hy (conf_slot (wF_iff hy hwi) ?_)).2 hji
        unfold namesO
        rw [wF_iff ho hwj]
        simp)]
      cases hw : wF sg ops t j with
      | true =>
        have hd := wF_iff ho hw
        have hlt : t < a.tmps.size := by
          have := hN o hmem
          unfold dstOk at this
          rw [hd] at this
          rw [I.size]
          simpa using this
        rw [hd, getD_put hlt, if_pos rfl]
        simp only [cond_true]
        rcases tk.geq t hd with e | e <;> rw [e]
        · exact hv
        · simp only [R]
      | false =>
        simp only [cond_false]
        have hne : o.dst ≠ some t := by
          unfold wF at hw
          rw [ho, hsj] at hw
          exact of_decide_eq_false hw
        have : (a.put o.dst cv).tmps.getD t undef = a.tmps.getD t undef := by
          cases hd : o.dst with
          | none => rfl
          | some d =>
            have hlt : d < a.tmps.size := by
              have := hN o hmem
              unfold dstOk at this
              rw [hd] at this
              rw [I.size]
              simpa using this
            rw [getD_put hlt, if_neg (fun e => hne (by rw [hd, e]))]
        rw [this]
        exact R_mono hst _ _ (I.fr t)
    · intro k c hk hc hSk hw
      simp only [Bool.or_eq_true, decide_eq_true_eq] at hSk ⊢
      rcases hSk with h1 | rfl
      · exact .inl (I.mkd k c hk hc h1 hw)
      · obtain ⟨ob, hb, hp⟩ := wH_iff ho hw
        exact (turned c ob hc hb hp).symm
  -- whether it runs
  have hwant : Region.wanted o (yielded ops a.tmps) = E j := by
    rcases tk.grd with ⟨hg, he⟩ | ⟨jj, want, t, hg, ht, hval⟩
    · simp [Region.wanted, hg, he]
    · have htn : t ∈ namesO ops o := by
        unfold namesO
        refine List.mem_append_right _ (List.mem_append_right _ ?_)
        rw [hg]
        simp only [ht]
        simp
      have hlt : t < a.tmps.size := by
        cases hjj : ops[jj]? with
        | none => rw [hjj] at ht; cases ht
        | some oj =>
          rw [hjj] at ht
          have hm : oj ∈ ops.toList := by
            obtain ⟨hl, he⟩ := Array.getElem?_eq_some_iff.1 hjj
            rw [← he]
            exact Array.mem_toList_iff.2 (Array.getElem_mem hl)
          have := hN oj hm
          unfold dstOk at this
          simp only [Option.bind_some] at ht
          rw [ht] at this
          rw [I.size]
          simpa using this
      have hy := yielded_get ht hlt
      have hrt := hfs t htn
      rcases hval with ⟨b, hb, he⟩ | ⟨hb, he⟩
      · rw [hb] at hrt
        simp only [R] at hrt
        rw [hrt] at hy
        simp only [Region.wanted, hg, hy, he]
        cases b <;> cases want <;> rfl
      · rw [hb] at hrt
        simp only [R] at hrt
        rw [hrt] at hy
        simp only [Region.wanted, hg, hy, he, undef]
        cases want <;> rfl
  unfold wpOp
  rw [ho]
  simp only
  rw [hwant]
  cases he : E j with
  | true =>
    rw [if_pos rfl]
    refine .inl ?_
    cases hpj : prt j with
    | none =>
      have h := tk.exe he
      rw [← hcg] at h
      refine opRd_ok hT hD I.ok (h0 := maskH o (ev (G j)) (H j)) (memr hpj he) hfree hρ h K Q ?_
      intro cv s' hst hok' hv hh
      rw [hpg] at hh
      refine hK s' _ hst (after s' _ cv hst hok' hv ?_ rfl)
      rw [hh]
      cases hb : B j with
      | none => rfl
      | some ob =>
        have hplt2 : posR (base + j) (ev (G j)) o < (H j).length := by rw [T.lenk j (by omega)]; exact T.plt ho hsj hb
        simp only [Option.map_some]
        unfold tau
        rw [hpj, tk.hp, hb]
        simp only [putO, List.getD_eq_getElem?_getD]
        rw [put_get hplt2, if_pos rfl]
        rfl
    | some p =>
      obtain ⟨Tc, n, pr⟩ := hprt j o p hsj ho hpj he
      obtain ⟨cs0, hcs0, hBj⟩ := pr.own
      -- the block, as it stands
      have hcur : ∀ m, m ≤ ops.size → ∃ cs, FW (wH sg ops base G B p.1) (tau H prt p.1) ((H 0).getD p.1 .dead) S m = .cells Tc cs ∧ cs.length = n := by
        intro m
        induction m with
        | zero =>
          intro _
          obtain ⟨cs, h1, h2⟩ := pr.kind 0 (by omega)
          exact ⟨cs, by simp only [FW]; rw [List.getD_eq_getElem?_getD, h1]; rfl, h2⟩
        | succ m ih =>
          intro hm
          obtain ⟨cs, h1, h2⟩ := ih (by omega)
          simp only [FW]
          cases hw : (S m && wH sg ops base G B p.1 m) with
          | false => exact ⟨cs, h1, h2⟩
          | true =>
            simp only [cond_true]
            rw [h1]
            unfold tau
            cases prt m with
            | none =>
              obtain ⟨cs', h3, h4⟩ := pr.kind (m + 1) (by omega)
              exact ⟨cs', by simp only; rw [List.getD_eq_getElem?_getD, h3]; rfl, h4⟩
            | some q => exact ⟨_, rfl, by rw [ovr_len]; exact h2⟩
      obtain ⟨cs, hFW, hcl⟩ := hcur ops.size (Nat.le_refl _)
      have hplt : p.1 < base + ops.size := by have := pr.low; omega
      have hsh : s.h[p.1]? = some (.cells Tc cs) := by rw [I.get hplt, hFW]
      have h := pr.run (List.replicate p.1 .resv ++ [.cells Tc cs]) cs (by rw [List.getElem?_append_right (by simp)]; simp) hcl
      obtain ⟨hcg2, _⟩ := opRd_congr (C := C) (ops := ops) (h := List.replicate p.1 .resv ++ [.cells Tc cs]) (nid := base + j) opnd
      rw [← hcg2] at h
      refine opRd_ok hT hD I.ok (h0 := List.replicate p.1 .resv ++ [.cells Tc cs]) (fun id ob hi ha => by
        rcases Nat.lt_trichotomy id p.1 with h1 | h1 | h1
        · rw [List.getElem?_append_left (by simpa using h1), List.getElem?_replicate, if_pos h1] at hi
          cases hi
          cases ha
        · subst h1
          rw [List.getElem?_append_right (by simp)] at hi
          simp at hi
          rw [← hi]
          exact hsh
        · rw [List.getElem?_eq_none (by simp; omega)] at hi
          cases hi) hfree hρ h K Q ?_
      intro cv s' hst hok' hv hh
      rw [hpg] at hh
      refine hK s' _ hst (after s' _ cv hst hok' hv ?_ rfl)
      rw [hh, hBj, pr.pos]
      simp only [Option.map_some]
      rw [hFW]
      unfold tau
      rw [hpj]
      simp only
      rw [ovr_splice (by rw [hcl]; exact pr.inr)]
  | false =>
    rw [if_neg (by simp)]
    obtain ⟨hv, hb⟩ := tk.skp he
    refine hK s _ (Step.refl s) (after s _ undef (Step.refl s) I.ok (by rw [hv]; simp only [R]) (by rw [hb]; rfl) rfl)
end
end Av
namespace Av
open Go

section
variable {P : Program} {sg : Nat → Bool} {C : Cx} {ops : Array Oper} {base : Nat} {G : Nat → Nat → AV} {H : Nat → Hp} {V : Nat → AV} {B : Nat → Option AObj} {E : Nat → Bool} {N : Nat} {ds : List Deferred}
/-- When nothing is ready all has run. -/
theorem stuck (hed : ∀ j o, ops[j]? = some o → edgesOk j o = true) {listed : Array Bool} (hsz : listed.size = ops.size) (hr : Region.ready .any ops listed = []) : ∀ i, i < ops.size → listed.getD i false = true := by
  intro i
  induction i using Nat.strongRecOn with
  | _ i ih =>
    intro hi
    cases hl : listed.getD i false with
    | true => rfl
    | false =>
      exfalso
      obtain ⟨o, ho⟩ := ops_get hi
      have hm : i ∈ Region.ready .any ops listed := by
        rw [mem_ready]
        refine ⟨?_, o, ho, fun e he hb => ?_⟩
        · rw [Array.getD_eq_getD_getElem?] at hl ⊢
          rw [Array.getElem?_eq_getElem (by omega)] at hl ⊢
          exact hl
        · have h1 := hed i o ho
          unfold edgesOk at h1
          rw [Bool.and_eq_true, List.all_eq_true] at h1
          have h2 := h1.1 e (Array.mem_toList_iff.2 he)
          rw [hb] at h2
          have h3 : e.on < i := by simpa using h2
          exact ih e.on h3 (by omega)
      rw [hr] at hm
      cases hm
theorem ready_at {listed : Array Bool} (hsz : listed.size = ops.size) {i : Nat} (hm : i ∈ Region.ready .any ops listed) : ∃ o, ops[i]? = some o ∧ i < ops.size ∧ listed.getD i false = false ∧ ∀ e ∈ o.after.toList, Region.binds .any e = true → listed.getD e.on false = true := by
  obtain ⟨h0, o, ho, hall⟩ := mem_ready.1 hm
  have hlt := ops_lt ho
  refine ⟨o, ho, hlt, ?_, fun e he hb => hall e (Array.mem_toList_iff.1 he) hb⟩
  rw [Array.getD_eq_getD_getElem?, Array.getElem?_eq_getElem (by omega)] at h0 ⊢
  exact h0
theorem listed_set {listed : Array Bool} (hsz : listed.size = ops.size) {i : Nat} (hlt : i < ops.size) : (fun k => (listed.setIfInBounds i true).getD k false) = fun k => listed.getD k false || decide (k = i) := by
  funext k
  rw [Array.getD_eq_getD_getElem?, Array.getD_eq_getD_getElem?, Array.getElem?_setIfInBounds]
  by_cases hk : k = i
  · subst hk
    simp [show k < listed.size by omega]
  · rw [if_neg (fun e => hk e.symm)]
    simp [hk]
theorem drawn_run (hT : TbOk P C.tb) (hD : SpecsOk P C.specs) (T : Trc sg C ops base G H V B E) {mc : Oper → Oper → Bool} (hed : ∀ j o, ops[j]? = some o → edgesOk j o = true) (hcf : ∀ i j x o, ops[i]? = some x → ops[j]? = some o → i < j → confM mc ops x o = true → Bef ops i j) {prt : Prt} (hprt : PRok C ops sg base G H V B E prt) (hmc : MCok mc ops sg base G H B prt) (hN : ∀ o ∈ ops.toList, dstOk N o = true) {lo hi : Nat} (hsg : ∀ k, sg k = true ↔ lo ≤ k ∧ k < hi) (hhi : hi ≤ ops.size)
    (hbar : hi < ops.size → (∀ i, i < hi → Bef ops i hi) ∧ (∀ k, hi < k → k < ops.size → Bef ops hi k)) {Q : Exit → Act → World → Prop} :
    ∀ (fuel : Nat) (listed : Array Bool) (s : St) (a : Act), listed.size = ops.size → cntF (fun i => listed.getD i false) ops.size = fuel → DInv sg ops base G H B prt N ds (fun i => listed.getD i false) s a →
      (∀ k, k < lo → listed.getD k false = true) → (∀ k, hi ≤ k → k < ops.size → listed.getD k false = false) →
      (∀ fuel' listed' s' a', listed'.size = ops.size → cntF (fun i => listed'.getD i false) ops.size = fuel' → (∀ k, k < hi → listed'.getD k false = true) → (∀ k, hi ≤ k → k < ops.size → listed'.getD k false = false) →
        (∀ j o e, listed'.getD j false = true → ops[j]? = some o → e ∈ o.after.toList → Region.binds .any e = true → listed'.getD e.on false = true) →
        Step s s' → Ok s' → s'.h = H ops.size → (∀ t, R s' (G ops.size t) (a'.tmps.getD t undef)) → a'.tmps.size = N → a'.defers = ds → wpAny P .any ops Q fuel' listed' a' s'.w) →
      wpAny P .any ops Q fuel listed a s.w := by
  have done : ∀ (fuel : Nat) (listed : Array Bool) (s : St) (a : Act), listed.size = ops.size → cntF (fun i => listed.getD i false) ops.size = fuel → (∀ i, i < hi → listed.getD i false = true) → (∀ k, hi ≤ k → k < ops.size → listed.getD k false = false) → DInv sg ops base G H B prt N ds (fun i => listed.getD i false) s a →
      (∀ fuel' listed' s' a', listed'.size = ops.size → cntF (fun i => listed'.getD i false) ops.size = fuel' → (∀ k, k < hi → listed'.getD k false = true) → (∀ k, hi ≤ k → k < ops.size → listed'.getD k false = false) →
        (∀ j o e, listed'.getD j false = true → ops[j]? = some o → e ∈ o.after.toList → Region.binds .any e = true → listed'.getD e.on false = true) →
        Step s s' → Ok s' → s'.h = H ops.size → (∀ t, R s' (G ops.size t) (a'.tmps.getD t undef)) → a'.tmps.size = N → a'.defers = ds → wpAny P .any ops Q fuel' listed' a' s'.w) → wpAny P .any ops Q fuel listed a s.w := by
    intro fuel listed s a hsz hc hall hhigh I hQ
    refine hQ fuel listed s a hsz hc hall hhigh I.cl (Step.refl s) I.ok ?_ (fun t => ?_) I.size I.dfr
    · apply List.ext_getElem?
      intro id
      by_cases hid : id < base + ops.size
      · rw [I.get hid, FW_all ops.size (fun i _ hw => hall i ((hsg i).1 (wH_sg hw)).2), ← T.hget hprt id ops.size (Nat.le_refl _), List.getD_eq_getElem?_getD, List.getElem?_eq_getElem (by rw [T.lenk _ (Nat.le_refl _)]; exact hid)]
        rfl
      · rw [List.getElem?_eq_none (by rw [I.len]; omega), List.getElem?_eq_none (by rw [T.lenk _ (Nat.le_refl _)]; omega)]
    · have := I.fr t
      rw [LW_all ops.size (fun i _ hw => hall i ((hsg i).1 (wF_sg hw)).2), ← T.fget t ops.size (Nat.le_refl _)] at this
      exact this
  intro fuel
  induction fuel with
  | zero =>
    intro listed s a hsz hc I hlo hhigh hQ
    have hall := cntF_zero ops.size hc
    exact done 0 listed s a hsz hc (fun i hi' => hall i (by omega)) hhigh I hQ
  | succ fuel ih =>
    intro listed s a hsz hc I hlo hhigh hQ
    by_cases hall : ∀ i, i < hi → listed.getD i false = true
    · exact done _ listed s a hsz hc hall hhigh I hQ
    · refine ⟨fun hr => absurd (fun i hi' => stuck hed hsz hr i (by omega)) hall, fun i hm => ?_⟩
      obtain ⟨o, ho, hlt, h0', hrd⟩ := ready_at hsz hm
      have hrd' : ∀ o' e, ops[i]? = some o' → e ∈ o'.after.toList → Region.binds .any e = true → listed.getD e.on false = true := fun o' e ho' he hb => by
        rw [ho] at ho'; cases ho'; exact hrd e he hb
      have hihi : i < hi := by
        rcases Nat.lt_trichotomy i hi with h | h | h
        · exact h
        · subst h
          exact absurd (fun k hk => ((hbar hlt).1 k hk).ready I.cl hrd') hall
        · have h1 := ((hbar (by omega)).2 i h hlt).ready I.cl hrd'
          have h2 := hhigh hi (Nat.le_refl _) (by omega)
          rw [show listed.getD hi false = true from h1] at h2
          cases h2
      have hloi : lo ≤ i := by
        rcases Nat.lt_or_ge i lo with h | h
        · rw [hlo i h] at h0'; cases h0'
        · exact h
      have hset := listed_set (ops := ops) hsz hlt
      refine I.next hT hD T hcf hprt hmc hN ho ((hsg i).2 ⟨hloi, hihi⟩) h0' hrd ?_
      intro s' a' hst I'
      have hk : ∀ k, (listed.setIfInBounds i true).getD k false = (listed.getD k false || decide (k = i)) := fun k => congrFun hset k
      refine ih (listed.setIfInBounds i true) s' a' (by simpa using hsz) ?_ (by rw [hset]; exact I') (fun k h => by rw [hk, hlo k h]; rfl) (fun k h h' => by rw [hk, hhigh k h h']; simp; omega) (fun f2 l2 s2 a2 e1 e2 e3 e4 e5 h1 => hQ f2 l2 s2 a2 e1 e2 e3 e4 e5 (hst.trans h1))
      rw [hset]
      have := cntF_add (S := fun k => listed.getD k false) (j := i) h0' ops.size
      rw [if_pos hlt] at this
      omega

/-- The state with room for n blocks. -/
def St.room (s : St) (n : Nat) (w' : World) : St := ⟨s.σ, s.h ++ List.replicate n .resv, w', s.F⟩
theorem room_get {s : St} {n : Nat} {w' : World} {id : Nat} {o : AObj} (h : (s.room n w').h[id]? = some o) : s.h[id]? = some o ∨ o = .resv := by
  have h : (s.h ++ List.replicate n AObj.resv)[id]? = some o := h
  rw [List.getElem?_append] at h
  split at h
  · exact .inl h
  · rw [List.getElem?_replicate] at h
    split at h
    · exact .inr (by cases h; rfl)
    · cases h
theorem room_own {s : St} {n : Nat} {w' : World} {b : Nat} (h : OwnI (s.room n w') b) : OwnI s b := by
  obtain ⟨id, o, h1, h2, h3⟩ := h
  rcases room_get h1 with h4 | rfl
  · exact ⟨id, o, h4, h2, h3⟩
  · cases h2
theorem room_step {s : St} (n : Nat) {w' : World} (hw : Grew s.w w') : Step s (s.room n w') where
  os := hw.os
  tape := hw.tape
  output := hw.output
  drawn := hw.drawn
  size := hw.size
  kn := fun id h => by
    unfold kn at h ⊢
    have hlt : id < s.h.length := by
      rcases Nat.lt_or_ge id s.h.length with h1 | h1
      · exact h1
      · rw [List.getElem?_eq_none h1] at h; cases h
    show (match (s.h ++ List.replicate n AObj.resv)[id]? with | some .resv => false | some _ => true | none => false) = true
    rw [List.getElem?_append_left hlt]
    exact h
  keep := fun b hb hn => ⟨fun h => hn (room_own h), hw.block b hb⟩
  frn := rfl
  cells := fun id T cs' _ hc => by
    rcases room_get hc with h1 | h1
    · exact ⟨rfl, cs', h1⟩
    · cases h1
  oth := fun id o' _ hc => by
    rcases room_get hc with h1 | h1
    · exact ⟨rfl, o', h1⟩
    · cases h1
  arr := fun id T t l' f' g _ hc => by
    rcases room_get hc with h1 | h1
    · exact ⟨l', f', g, h1, Nat.le_refl _, fun _ => ⟨rfl, rfl⟩⟩
    · cases h1
theorem room_ok {s : St} (hok : Ok s) (n : Nat) {w' : World} (hw : Grew s.w w') : Ok (s.room n w') where
  obj := fun id o hid => by
    rcases room_get hid with h1 | rfl
    · cases ha : o.alive with
      | false => cases o <;> first | trivial | cases ha
      | true => exact ObjR_mono (room_step n hw) rfl (fun b hb => hw.block b (own_lt hok ⟨id, o, h1, ha, hb⟩)) (hok.obj id o h1)
    · trivial
  inj := fun i j o p b hi hj ho hp hbi hbj => by
    rcases room_get hi with h1 | rfl
    · rcases room_get hj with h2 | rfl
      · exact hok.inj i j o p b h1 h2 ho hp hbi hbj
      · cases hp
    · cases ho
  fb := fun b hb => Nat.lt_of_lt_of_le (hok.fb b hb) hw.size
  dis := fun b h => hok.dis b (room_own h)

/-! ### Room that is given back -/
theorem trim_ok {s : St} (hok : Ok s) {k : Hp → Prop} (h : trimK s.h k) : ∃ s', s'.w = s.w ∧ Step s s' ∧ Ok s' ∧ k s'.h := by
  have key : ∀ (h : Hp) (k : Hp → Prop), trimK h k → ∃ h' n, h = h' ++ List.replicate n .resv ∧ k h' := by
    intro h
    induction h with
    | nil => exact fun k hk => ⟨[], 0, rfl, hk⟩
    | cons o h ih =>
      intro k hk
      simp only [trimK] at hk
      obtain ⟨r, n, rfl, h2⟩ := ih _ hk
      split at h2
      · split at h2
        · exact ⟨[], n + 1, by simp [List.replicate_succ], h2⟩
        · exact ⟨_, n, by simp, h2⟩
      · exact ⟨_, n, by simp, h2⟩
  obtain ⟨h', n, he, hk⟩ := key s.h k h
  have up : ∀ {i : Nat} {o : AObj}, h'[i]? = some o → s.h[i]? = some o := fun {i o} hi => by
    rw [he, List.getElem?_append_left (List.getElem?_eq_some_iff.1 hi).1]
    exact hi
  have down : ∀ {i : Nat} {o : AObj}, s.h[i]? = some o → o ≠ .resv → h'[i]? = some o := fun {i o} hi ho => by
    rw [he, List.getElem?_append] at hi
    split at hi
    · exact hi
    · rw [List.getElem?_replicate] at hi
      split at hi
      · cases hi; exact absurd rfl ho
      · cases hi
  have own : ∀ {b : Nat}, OwnI ⟨s.σ, h', s.w, s.F⟩ b → OwnI s b := fun {b} ⟨i, o, h1, h2, h3⟩ => ⟨i, o, up h1, h2, h3⟩
  have hst : Step s ⟨s.σ, h', s.w, s.F⟩ := {
    os := rfl
    tape := rfl
    output := rfl
    drawn := Nat.le_refl _
    size := Nat.le_refl _
    kn := fun i hi => by
      unfold Av.kn at hi ⊢
      cases ho : s.h[i]? with
      | none => rw [ho] at hi; cases hi
      | some o =>
        rw [ho] at hi
        have hne : o ≠ .resv := by rintro rfl; cases hi
        show (match h'[i]? with | some .resv => false | some _ => true | none => false) = true
        rw [down ho hne]
        exact hi
    keep := fun b _ hn => ⟨fun h => hn (own h), rfl⟩
    frn := rfl
    cells := fun i T cs' _ hc => ⟨rfl, cs', up hc⟩
    oth := fun i o' _ hc => ⟨rfl, o', up hc⟩
    arr := fun i T t l' f' g _ hc => ⟨l', f', g, up hc, Nat.le_refl _, fun _ => ⟨rfl, rfl⟩⟩ }
  refine ⟨⟨s.σ, h', s.w, s.F⟩, rfl, hst, ?_, hk⟩
  exact {
    obj := fun i o hi => ObjR_mono hst rfl (fun _ _ => rfl) (hok.obj i o (up hi))
    inj := fun i j o p b hi hj ho hp => hok.inj i j o p b (up hi) (up hj) ho hp
    fb := hok.fb
    dis := fun b h => hok.dis b (own h) }
theorem trim_post {s : St} {N : Nat} {ds : List Deferred} {K : Tr → Hp → Prop} {f : Tr} {a : Act} (hok : Ok s) (hf : FR s f.get a) (hN : a.tmps.size = N) (hds : a.defers = ds) (h : trimK s.h fun h => K f h) : Post s N ds K a s.w := by
  obtain ⟨s', hw, hst, hok', hk⟩ := trim_ok hok h
  exact ⟨⟨s', f, hw, hst, hok', hf.step hst, hk⟩, hds, hN⟩
theorem wpAny_done {Q : Exit → Act → World → Prop} {listed : Array Bool} {a : Act} {w : World} (hsz : listed.size = ops.size) (hall : ∀ i, i < ops.size → listed.getD i false = true) (hQ : Q .normal a w) : ∀ fuel, wpAny P .any ops Q fuel listed a w := by
  have hr : Region.ready .any ops listed = [] := by
    cases hr : Region.ready .any ops listed with
    | nil => rfl
    | cons i l =>
      exfalso
      have hm : i ∈ Region.ready .any ops listed := by rw [hr]; simp
      obtain ⟨o, ho, hlt, h0, _⟩ := ready_at hsz hm
      rw [hall i hlt] at h0
      cases h0
  intro fuel
  cases fuel with
  | zero => exact ⟨hr, hQ⟩
  | succ n => exact ⟨fun _ => hQ, fun i hm => by rw [hr] at hm; cases hm⟩
theorem trimK_some : ∀ {h : Hp} {k : Hp → Prop}, trimK h k → ∃ h', k h'
  | [], k, hk => ⟨[], hk⟩
  | o :: h, k, hk => by
    simp only [trimK] at hk
    obtain ⟨r, h2⟩ := trimK_some hk
    split at h2
    · split at h2
      · exact ⟨_, h2⟩
      · exact ⟨_, h2⟩
    · exact ⟨_, h2⟩
/-- Why the order of a region does not matter. -/
inductive DMode (C : Cx) (ops : Array Oper) (K : Tr → Hp → Prop) (f : Tr) (cur : Hp) (base : Nat) : Prop where
  | all (h : drawOkM (fun _ _ => true) ops = true) : DMode C ops K f cur base
  | known (hb : hasBar C ops ops.toList = false) (hc : Hp) (hh : ∀ (id : Nat) o, hc[id]? = some o → cur[id]? = some o ∧ id < base) (h : drawOkM (mcP C.tb f hc ops) ops = true) : DMode C ops K f cur base
  | left (hb : hasBar C ops ops.toList = false) (hs : ssaGo ops.toList = true) (hk : ∀ f2 h2, K f2 h2 → drawOkM (mcE ops f2.get) ops = true) : DMode C ops K f cur base
theorem DMode.next {K : Tr → Hp → Prop} {f f2 : Tr} {cur cur2 : Hp} {base base2 : Nat} (h : DMode C ops K f cur base) (hb : hasBar C ops ops.toList = true) : DMode C ops K f2 cur2 base2 := by
  cases h with
  | all h => exact .all h
  | known hb2 _ _ _ => rw [hb] at hb2; cases hb2
  | left hb2 _ _ => rw [hb] at hb2; cases hb2
/-- Calls that stand alone in a region do what is reckoned. -/
def BsOk (P : Program) (ops : Array Oper) (N : Nat) (ds : List Deferred) (s0 : St) (bs : Oper → Tr → Hp → (Tr → Hp → Prop) → Prop) (Q : Exit → Act → World → Prop) : Prop :=
  ∀ (j : Nat) (o : Oper) (s : St) (f : Tr) (a : Act) (K : Tr → Hp → Prop) (next : Act → World → Prop), ops[j]? = some o → dstOk N o = true → Step s0 s → Ok s → FR s f.get a → a.tmps.size = N → a.defers = ds → bs o f s.h K → (∀ a' w', Post s N a.defers K a' w' → next a' w') → wpOp P ops Q j next a s.w
theorem drawGo_ok {bs : Oper → Tr → Hp → (Tr → Hp → Prop) → Prop} (hT : TbOk P C.tb) (hD : SpecsOk P C.specs) {s0 : St} (hN : ∀ o ∈ ops.toList, dstOk N o = true) (hbars : barsOk C ops = true) {K : Tr → Hp → Prop} {Q : Exit → Act → World → Prop} (hbs : BsOk P ops N ds s0 bs Q) :
    ∀ (n : Nat) (l : List Oper) (i base : Nat) (f : Tr) (s : St) (a : Act) (listed : Array Bool) (fuel : Nat), l.length ≤ n → l = ops.toList.drop i → i ≤ ops.size → listed.size = ops.size → cntF (fun i => listed.getD i false) ops.size = fuel →
      (∀ k, k < i → listed.getD k false = true) → (∀ k, i ≤ k → k < ops.size → listed.getD k false = false) → Ok s → FR s f.get a → a.tmps.size = N → a.defers = ds → Step s0 s →
      s.h.length = base + ops.size → (∀ c, c < ops.size → s.h[base + c]? = some .resv) → drawGo C bs ops base i l f s.h K → DMode C ops K f s.h base → (∀ a' w', Post s N ds K a' w' → Q .normal a' w') → wpAny P .any ops Q fuel listed a s.w := by
  intro n
  induction n with
  | zero =>
    intro l i base f s a listed fuel hl hle hi hsz hc hlow hhigh hok hf ha hds hst0 hlen hrsv h hmf hQ
    have hnil : l = [] := List.eq_nil_of_length_eq_zero (by omega)
    have hi2 : i = ops.size := by
      have := congrArg List.length hle
      rw [hnil, List.length_drop, Array.length_toList] at this
      simp at this
      omega
    subst hnil
    exact wpAny_done hsz (fun k hk => hlow k (by omega)) (hQ _ _ (trim_post hok hf ha hds h)) _
  | succ n ih =>
    intro l i base f s a listed fuel hl hle hi hsz hc hlow hhigh hok hf ha hds hst0 hlen hrsv h hmf hQ
    obtain ⟨m, G, H, V, B, E, f', sgm⟩ := drawGo_trace _ _ _ _ _ _ h
    have hll : l.length = ops.size - i := by rw [hle, List.length_drop, Array.length_toList]
    have hm := sgm.le
    have hget : ∀ k, l[k]? = ops[i + k]? := fun k => by rw [hle, List.getElem?_drop]; simp
    let sg : Nat → Bool := fun k => decide (i ≤ k) && decide (k < i + m)
    have hsg : ∀ k, sg k = true ↔ i ≤ k ∧ k < i + m := fun k => by simp [sg]
    have hH0 : H 0 = s.h := (sgm.low 0 (by omega)).2
    have T : Trc sg C ops base G H V B E := {
      tk := fun k o ho hs => by
        obtain ⟨h1, h2⟩ := (hsg k).1 hs
        have := sgm.tk (k - i) o (by omega) (by rw [hget, show i + (k - i) = k by omega]; exact ho)
        rwa [show i + (k - i) = k by omega] at this
      stay := fun k _ hs => by
        have hs' : ¬ (i ≤ k ∧ k < i + m) := fun h => by rw [(hsg k).2 h] at hs; cases hs
        rcases Nat.lt_or_ge k i with h1 | h1
        · rw [(sgm.low k (by omega)).1, (sgm.low k (by omega)).2, (sgm.low (k + 1) (by omega)).1, (sgm.low (k + 1) (by omega)).2]
          exact ⟨rfl, rfl⟩
        · rw [(sgm.high k (by omega)).1, (sgm.high k (by omega)).2, (sgm.high (k + 1) (by omega)).1, (sgm.high (k + 1) (by omega)).2]
          exact ⟨rfl, rfl⟩
      len := by rw [hH0]; exact hlen
      rsv := fun c hc => by rw [hH0]; exact hrsv c hc }
    have hend : H ops.size = H (i + m) ∧ G ops.size = f'.get := by
      have := sgm.high ops.size (by omega)
      exact ⟨this.2, this.1⟩
    have hfin := sgm.fin
    have hrest : l.drop m = ops.toList.drop (i + m) := by rw [hle, List.drop_drop]
    obtain ⟨mc, prt, hdk, hprt, hmc⟩ : ∃ mc prt, drawOkM mc ops = true ∧ PRok C ops sg base G H V B E prt ∧ MCok mc ops sg base G H B prt := by
      cases hmf with
      | all h => exact ⟨_, _, h, PRok.none, MCok.all⟩
      | known hb hc hh h =>
        have hh2 : ∀ (id : Nat) o, hc[id]? = some o → (H 0)[id]? = some o ∧ id < base := by rw [hH0]; exact hh
        exact ⟨_, _, h, PRok.known T (sgm.low 0 (by omega)).1 hh2, MCok.known T (sgm.low 0 (by omega)).1 hh2⟩
      | left hb hs hk =>
        have hfin := hfin
        cases hd : l.drop m with
        | nil =>
          rw [hd] at hfin
          have hfin : trimK (H (i + m)) fun h => K f' h := hfin
          obtain ⟨h2, hK⟩ := trimK_some hfin
          exact ⟨_, _, hk _ _ hK, PRok.none, MCok.left T hs hend.2⟩
        | cons o rest =>
          rw [hd] at hfin
          have := hasBar_no hb o (by
            have : o ∈ l.drop m := by rw [hd]; exact List.mem_cons_self
            rw [hrest] at this
            exact List.mem_of_mem_drop this)
          rw [hfin.1] at this
          cases this
    obtain ⟨hed, hcf⟩ := drawOk_spec hdk
    have hwn : ∀ k, k < ops.size → sg k = true → listed.getD k false = false := fun k hk hs => hhigh k ((hsg k).1 hs).1 hk
    have I : DInv sg ops base G H B prt N ds (fun i => listed.getD i false) s a := {
      hp := by
        apply List.ext_getElem?
        intro id
        by_cases hid : id < base + ops.size
        · rw [List.getElem?_map, List.getElem?_range hid]
          simp only [Option.map_some]
          rw [FW_none ops.size (fun k hk hw => hwn k hk (wH_sg hw)), hH0, List.getD_eq_getElem?_getD, List.getElem?_eq_getElem (by omega)]
          rfl
        · rw [List.getElem?_map, List.getElem?_eq_none (l := List.range _) (by rw [List.length_range]; omega), List.getElem?_eq_none (by omega)]
          rfl
      fr := fun t => by
        rw [LW_none ops.size (fun k hk hw => hwn k hk (wF_sg hw)), (sgm.low 0 (by omega)).1]
        exact hf t
      ok := hok
      size := ha
      dfr := hds
      cl := fun j o e hj ho he hb => by
        have h1 := hed j o ho
        unfold edgesOk at h1
        rw [Bool.and_eq_true, List.all_eq_true] at h1
        have h2 := h1.1 e he
        rw [hb] at h2
        have h3 : e.on < j := by simpa using h2
        refine hlow _ ?_
        rcases Nat.lt_or_ge j i with h4 | h4
        · omega
        · rw [hhigh j h4 (ops_lt ho)] at hj; cases hj
      mkd := fun k c hk _ hS hw => by
        rw [hwn k hk (wH_sg hw)] at hS; cases hS }
    refine drawn_run hT hD T hed hcf hprt hmc hN hsg (by omega) (fun hlt => ?_) fuel listed s a hsz hc I hlow (fun k h1 h2 => hhigh k (by omega) h2) ?_
    · obtain ⟨o, ho⟩ := ops_get hlt
      have hd : l.drop m = o :: ops.toList.drop (i + m + 1) := by
        rw [hrest, List.drop_eq_getElem_cons (by simpa using hlt)]
        congr 1
        have := ho
        rw [Array.getElem?_eq_getElem hlt] at this
        simpa using Option.some.inj this
      rw [hd] at hfin
      exact barsOk_spec hbars ho hfin.1
    · intro fuel' listed' s' a' hsz' hc' hlow' hhigh' hcl' hst hok' hh' hf' ha' hds'
      rw [hend.1] at hh'
      rw [hend.2] at hf'
      rcases Nat.lt_or_ge (i + m) ops.size with hlt | hge
      · obtain ⟨o, ho⟩ := ops_get hlt
        have hd : l.drop m = o :: ops.toList.drop (i + m + 1) := by
          rw [hrest, List.drop_eq_getElem_cons (by simpa using hlt)]
          congr 1
          have := ho
          rw [Array.getElem?_eq_getElem hlt] at this
          simpa using Option.some.inj this
        rw [hd] at hfin
        obtain ⟨hb, hops⟩ := hfin
        have hbar := barsOk_spec hbars ho hb
        have hbt : hasBar C ops ops.toList = true := by
          cases hh : hasBar C ops ops.toList with
          | true => rfl
          | false =>
            have := hasBar_no hh o (by
              obtain ⟨hl2, he⟩ := Array.getElem?_eq_some_iff.1 ho
              rw [← he]
              exact Array.mem_toList_iff.2 (Array.getElem_mem hl2))
            rw [hb] at this
            cases this
        have hmem : o ∈ ops.toList := by
          obtain ⟨hl2, he⟩ := Array.getElem?_eq_some_iff.1 ho
          rw [← he]
          exact Array.mem_toList_iff.2 (Array.getElem_mem hl2)
        have hun := hhigh' (i + m) (Nat.le_refl _) hlt
        have hcadd := cntF_add (S := fun k => listed'.getD k false) (j := i + m) hun ops.size
        rw [if_pos hlt] at hcadd
        obtain ⟨q, rfl⟩ : ∃ q, fuel' = q + 1 := ⟨fuel' - 1, by omega⟩
        refine ⟨fun hr => ?_, fun k hk => ?_⟩
        · rw [stuck hed hsz' hr (i + m) hlt] at hun; cases hun
        · obtain ⟨o', ho', hlt', h0', hrd⟩ := ready_at hsz' hk
          have hki : k = i + m := by
            rcases Nat.lt_trichotomy k (i + m) with h1 | h1 | h1
            · rw [hlow' k h1] at h0'; cases h0'
            · exact h1
            · have := (hbar.2 k h1 hlt').ready hcl' (fun o2 e ho2 he hb2 => by rw [ho'] at ho2; cases ho2; exact hrd e he hb2)
              rw [show listed'.getD (i + m) false = true from this] at hun; cases hun
          subst hki
          rw [← hh'] at hops
          obtain ⟨st, hwt, hstt, hokt, hops⟩ := trim_ok hok' hops
          have hft : FR st f'.get a' := FR.step (g := f'.get) hf' hstt
          rw [← hwt]
          refine hbs _ o st f' a' _ _ ho (hN o hmem) ((hst0.trans hst).trans hstt) hokt hft ha' hds' hops ?_
          rintro a2 w2 ⟨⟨s2, f2, rfl, st2, ok2, fr2, hk2⟩, hd2, hs2⟩
          have hset := listed_set (ops := ops) hsz' hlt
          have hkk : ∀ k, (listed'.setIfInBounds (i + m) true).getD k false = (listed'.getD k false || decide (k = i + m)) := fun k => congrFun hset k
          have hst3 := room_step (s := s2) ops.size (Grew.refl s2.w)
          have hlr : (ops.toList.drop (i + m + 1)).length = ops.size - (i + m + 1) := by rw [List.length_drop, Array.length_toList]
          refine ih (ops.toList.drop (i + m + 1)) (i + m + 1) s2.h.length f2 (s2.room ops.size s2.w) a2 (listed'.setIfInBounds (i + m) true) q (by omega) rfl (by omega) (by simpa using hsz') ?_ ?_ ?_ (room_ok ok2 ops.size (Grew.refl s2.w)) (fr2.step hst3) hs2 (hd2.trans hds') ((((hst0.trans hst).trans hstt).trans st2).trans hst3) ?_ ?_ hk2 (hmf.next hbt) ?_
          · rw [hset]; omega
          · intro k hk
            rw [hkk]
            by_cases h1 : k = i + m
            · simp [h1]
            · rw [hlow' k (by omega)]; rfl
          · intro k h1 h2
            rw [hkk, hhigh' k (by omega) h2]
            simp
            omega
          · show (s2.h ++ List.replicate ops.size AObj.resv).length = _
            simp
          · intro c hc
            show (s2.h ++ List.replicate ops.size AObj.resv)[_]? = _
            rw [List.getElem?_append_right (by omega), Nat.add_sub_cancel_left, List.getElem?_replicate, if_pos hc]
          · intro a3 w3 hp
            exact hQ a3 w3 ((((hp.trans hst3).trans st2).trans hstt).trans hst)
      · have hnil : l.drop m = [] := by rw [hrest]; exact List.drop_eq_nil_of_le (by simpa using hge)
        rw [hnil] at hfin
        have hfin : trimK (H (i + m)) fun h => K f' h := hfin
        rw [← hh'] at hfin
        exact wpAny_done hsz' (fun k hk => hlow' k (by omega)) (hQ _ _ ((trim_post (K := K) hok' hf' ha' hds' hfin).trans hst)) _

theorem drawC_any {bs : Oper → Tr → Hp → (Tr → Hp → Prop) → Prop} (hT : TbOk P C.tb) (hD : SpecsOk P C.specs) (hdr : (drawOk ops || manyS ops) = true) (hN : ∀ o ∈ ops.toList, dstOk N o = true) {s : St} (hok : Ok s) {f : Tr} {a : Act} (hf : FR s f.get a) (ha : a.tmps.size = N)
    {K : Tr → Hp → Prop} (h : drawC C bs ops f s.h K) {Q : Exit → Act → World → Prop} (hbs : BsOk P ops N a.defers s bs Q) (hQ : ∀ a' w', Post s N a.defers K a' w' → Q .normal a' w') : wpAny P .any ops Q ops.size (Array.replicate ops.size false) a { s.w with drawn := s.w.drawn + 1 } := by
  have hgrew : Grew s.w { s.w with drawn := s.w.drawn + 1 } := ⟨rfl, rfl, rfl, Nat.le_succ _, Nat.le_refl _, fun _ _ => rfl⟩
  have hst := room_step (s := s) ops.size hgrew
  have hfalse : ∀ i, (Array.replicate ops.size false).getD i false = false := fun i => by
    rw [Array.getD_eq_getD_getElem?, Array.getElem?_replicate]
    split <;> rfl
  have hcnt : ∀ m, m ≤ ops.size → cntF (fun i => (Array.replicate ops.size false).getD i false) m = m := by
    intro m
    induction m with
    | zero => intro _; rfl
    | succ m ih =>
      intro hm
      simp only [cntF]
      rw [ih (by omega), hfalse m]
      rfl
  have go : ∀ (K' : Tr → Hp → Prop), barsOk C ops = true → DMode C ops K' f (s.h ++ List.replicate ops.size .resv) s.h.length → (lenK s.h fun b => roomK s.h ops.size fun h => drawGo C bs ops b 0 ops.toList f h K') → (∀ a' w', Post s N a.defers K' a' w' → Q .normal a' w') → wpAny P .any ops Q ops.size (Array.replicate ops.size false) a { s.w with drawn := s.w.drawn + 1 } := by
    intro K' hbars hmode h hQ
    simp only [lenK_eq, roomK_eq] at h
    refine drawGo_ok (s0 := s) hT hD hN hbars hbs ops.toList.length ops.toList 0 s.h.length f (s.room ops.size { s.w with drawn := s.w.drawn + 1 }) a _ ops.size (Nat.le_refl _) (by simp) (by omega) (by simp) (hcnt _ (Nat.le_refl _)) (fun k hk => by omega) (fun k _ _ => hfalse k) (room_ok hok ops.size hgrew) (hf.step hst) ha rfl hst ?_ ?_ h hmode ?_
    · show (s.h ++ List.replicate ops.size AObj.resv).length = _
      simp
    · intro c hc
      show (s.h ++ List.replicate ops.size AObj.resv)[_]? = _
      rw [List.getElem?_append_right (by omega), Nat.add_sub_cancel_left, List.getElem?_replicate, if_pos hc]
    · intro a' w' hp
      exact hQ a' w' (hp.trans hst)
  have hnb : hasBar C ops ops.toList = false → barsOk C ops = true := fun hb => by unfold barsOk; rw [hb]
  unfold drawC at h
  split at h
  · split at h
    · rename_i hchk
      rw [Bool.and_eq_true] at hchk
      exact go K hchk.2 (.all hchk.1) h hQ
    · exact h.elim
  · rename_i hb
    split at h
    · rename_i hchk
      exact go K (hnb hb) (.known hb s.h (fun id o hi => ⟨by rw [List.getElem?_append_left (List.getElem?_eq_some_iff.1 hi).1]; exact hi, (List.getElem?_eq_some_iff.1 hi).1⟩) hchk) h hQ
    · split at h
      · rename_i hs
        refine go _ (hnb hb) (.left hb hs ?_) h ?_
        · intro f2 h2 hk
          split at hk
          · rename_i hd; exact hd
          · exact hk.elim
        · intro a' w' hp
          obtain ⟨⟨s2, f2, h1, h2, h3, h4, h5⟩, h6, h7⟩ := hp
          refine hQ a' w' ⟨⟨s2, f2, h1, h2, h3, h4, ?_⟩, h6, h7⟩
          split at h5
          · exact h5
          · exact h5.elim
      · exact h.elim
  · rename_i hst2
    split at h
    · rename_i hchk
      rw [hst2, Bool.or_false] at hdr
      exact go K hchk (.all hdr) h hQ
    · exact h.elim
theorem drawB_any {bs : Oper → Tr → Hp → (Tr → Hp → Prop) → Prop} (hT : TbOk P C.tb) (hD : SpecsOk P C.specs) (hdr : (drawOk ops || manyS ops) = true) (hN : ∀ o ∈ ops.toList, dstOk N o = true) {s : St} (hok : Ok s) {f : Tr} {a : Act} (hf : FR s f.get a) (ha : a.tmps.size = N)
    {K : Tr → Hp → Prop} (h : drawB C bs ops f s.h K) {Q : Exit → Act → World → Prop} (hbs : BsOk P ops N a.defers s bs Q) (hQ : ∀ a' w', Post s N a.defers K a' w' → Q .normal a' w') : wpAny P .any ops Q ops.size (Array.replicate ops.size false) a { s.w with drawn := s.w.drawn + 1 } := by
  unfold drawB at h
  split at h
  · obtain ⟨nz, hh⟩ := h
    obtain ⟨s1, f1, h1, h2, h3, h4, h5⟩ := normK_ok nz f s _ hok hf hh
    have := drawC_any hT hD hdr hN h2 h3 ha h5 (Q := Q) (fun j o s f a K next q1 q2 q3 q4 q5 q6 q7 q8 q9 => hbs j o s f a K next q1 q2 (h1.trans q3) q4 q5 q6 q7 q8 q9) (fun a' w' hp => hQ a' w' (hp.trans h1))
    rw [h4] at this
    exact this
  · exact drawC_any hT hD hdr hN hok hf ha h hbs hQ
theorem drawB_ok {bs : Oper → Tr → Hp → (Tr → Hp → Prop) → Prop} (hm : P.follows .mixedOrders = true) (hT : TbOk P C.tb) (hD : SpecsOk P C.specs) (hdr : (drawOk ops || manyS ops) = true) (hN : ∀ o ∈ ops.toList, dstOk N o = true) {s : St} (hok : Ok s) {f : Tr} {a : Act} (hf : FR s f.get a) (ha : a.tmps.size = N)
    {K : Tr → Hp → Prop} (h : drawB C bs ops f s.h K) {Q : Exit → Act → World → Prop} (hbs : BsOk P ops N a.defers s bs Q) (hQ : ∀ a' w', Post s N a.defers K a' w' → Q .normal a' w') {id : Nat} : (Code.region id ops true).wp P Q a s.w :=
  wp_region_any hm (drawB_any hT hD hdr hN hok hf ha h hbs hQ)
theorem drawA_ok {call : CallA} (hm : P.follows .mixedOrders = true) (hT : TbOk P C.tb) (hD : SpecsOk P C.specs) (hcall : CallOk P call) (hdr : (drawOk ops || manyS ops) = true) (hN : ∀ o ∈ ops.toList, dstOk N o = true) {s : St} (hok : Ok s) {f : Tr} {a : Act} (hf : FR s f.get a) (ha : a.tmps.size = N)
    {K : Tr → Hp → Prop} (h : drawA C call ops f s.h K) {Q : Exit → Act → World → Prop} (hQ : ∀ a' w', Post s N a.defers K a' w' → Q .normal a' w') {id : Nat} : (Code.region id ops true).wp P Q a s.w :=
  drawB_ok hm hT hD hdr hN hok hf ha h (fun _ _ _ _ _ _ _ q1 q2 _ q4 q5 q6 _ q8 q9 => opA1_ok hT hD hcall hN q1 q2 q4 q5 q6 q8 q9) hQ
end
end Av
