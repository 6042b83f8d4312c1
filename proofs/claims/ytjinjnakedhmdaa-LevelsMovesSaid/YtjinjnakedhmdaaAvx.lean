/-
  An abstract reading of values and memory: a region whose order is drawn does what is reckoned, whatever the order.
  An abstract reading of values and memory: a region whose order is drawn; code.
  An abstract reading of values and memory: code does what is reckoned.
  An abstract reading of values and memory: code in the rounds of a loop over an iterator; what a loop lays for itself.
-/
import Derived.Test.YtjinjnakedhmdaaAvk
import Derived.LoopN
import Derived.RangeFuncLeaves
import Derived.RangeFuncFrom
import Derived.LoopNIn
import Derived.TacticsIn
namespace Av
open Go

/-- What is known when the operations S have run. -/
structure DInv (sg : Nat → Bool) (ops : Array Oper) (base : Nat) (G : Nat → Nat → AV) (H : Nat → Hp) (B : Nat → Option AObj) (prt : Prt) (N : Nat) (ds : List Deferred) (S : Nat → Bool) (s : St) (a : Act) : Prop where
  hp : s.h = (List.range (base + ops.size)).map fun id => FW (wH sg ops base G B id) (tau H prt id) ((H 0).getD id .dead) S ops.size
  fr : ∀ t, R s (LW (wF sg ops t) (fun i => G (i + 1) t) (G 0 t) S ops.size) (a.tmps.getD t undef)
  ok : Ok s
  size : a.tmps.size = N
  dfr : a.defers = ds
  cl : ∀ j o e, S j = true → ops[j]? = some o → e ∈ o.after.toList → Region.binds .any e = true → S e.on = true
  mkd : ∀ k c, k < ops.size → c < ops.size → S k = true → wH sg ops base G B (base + c) k = true → S c = true
section
variable {P : Program} {sg : Nat → Bool} {C : Cx} {ops : Array Oper} {base : Nat} {G : Nat → Nat → AV} {H : Nat → Hp} {V : Nat → AV} {B : Nat → Option AObj} {E : Nat → Bool} {prt : Prt} {N : Nat} {ds : List Deferred} {S : Nat → Bool} {s : St} {a : Act}
theorem DInv.get (I : DInv sg ops base G H B prt N ds S s a) {id : Nat} (hid : id < base + ops.size) : s.h[id]? = some (FW (wH sg ops base G B id) (tau H prt id) ((H 0).getD id .dead) S ops.size) := by
  rw [I.hp, List.getElem?_map, List.getElem?_range hid]
  rfl
theorem DInv.len (I : DInv sg ops base G H B prt N ds S s a) : s.h.length = base + ops.size := by rw [I.hp]; simp
theorem DInv.known (I : DInv sg ops base G H B prt N ds S s a) (T : Trc sg C ops base G H V B E) {c : Nat} (hc : c < ops.size) (hk : kn s.h (base + c) = true) : S c = true := by
  unfold kn at hk
  rw [I.get (by omega)] at hk
  have h0 : (H 0).getD (base + c) .dead = .resv := by rw [List.getD_eq_getElem?_getD, T.rsv c hc]; rfl
  have hne : FW (wH sg ops base G B (base + c)) (tau H prt (base + c)) ((H 0).getD (base + c) .dead) S ops.size ≠ (H 0).getD (base + c) .dead := by
    intro e
    rw [e, h0] at hk
    cases hk
  obtain ⟨k, h1, h2, h3⟩ := FW_some hne
  exact I.mkd k c h1 hc h3 h2
theorem wH_sg {id k : Nat} (h : wH sg ops base G B id k = true) : sg k = true := by
  unfold wH at h
  split at h
  · assumption
  · cases h
theorem wH_iff {id k : Nat} {o : Oper} (ho : ops[k]? = some o) (h : wH sg ops base G B id k = true) : ∃ ob, B k = some ob ∧ posR (base + k) (ev (G k)) o = id := by
  have hs := wH_sg h
  unfold wH at h
  rw [ho, hs] at h
  simp only [Bool.and_eq_true, decide_eq_true_eq] at h
  obtain ⟨ob, hb⟩ := Option.isSome_iff_exists.1 h.1
  exact ⟨ob, hb, h.2⟩
theorem wF_sg {t k : Nat} (h : wF sg ops t k = true) : sg k = true := by
  unfold wF at h
  split at h
  · assumption
  · cases h
theorem wF_iff {t k : Nat} {o : Oper} (ho : ops[k]? = some o) (h : wF sg ops t k = true) : o.dst = some t := by
  have hs := wF_sg h
  unfold wF at h
  rw [ho, hs] at h
  exact of_decide_eq_true h

theorem DInv.next (hT : TbOk P C.tb) (hD : SpecsOk P C.specs) (T : Trc sg C ops base G H V B E) {mc : Oper → Oper → Bool} (hcf : ∀ i j x o, ops[i]? = some x → ops[j]? = some o → i < j → confM mc ops x o = true → Bef ops i j) (hprt : PRok C ops sg base G H V B E prt) (hmc : MCok mc ops sg base G H B prt) (hN : ∀ o ∈ ops.toList, dstOk N o = true) (I : DInv sg ops base G H B prt N ds S s a) {j : Nat} {o : Oper} (ho : ops[j]? = some o) (hsj : sg j = true) (hj : S j = false)
    (hr : ∀ e ∈ o.after.toList, Region.binds .any e = true → S e.on = true) {K : Act → World → Prop} {Q : Exit → Act → World → Prop}
    (hK : ∀ s' a', Step s s' → DInv sg ops base G H B prt N ds (fun i => S i || decide (i = j)) s' a' → K a' s'.w) : wpOp P ops Q j K a s.w := by
  have hjlt := ops_lt ho
  have tk := T.tk j o ho hsj
  have hmem : o ∈ ops.toList := by
    obtain ⟨hl, he⟩ := Array.getElem?_eq_some_iff.1 ho
    rw [← he]
    exact Array.mem_toList_iff.2 (Array.getElem_mem hl)
  -- slots that the operation names stand as in the text
  have slot : ∀ t, t ∈ namesO ops o → LW (wF sg ops t) (fun i => G (i + 1) t) (G 0 t) S ops.size = G j t := by
    intro t ht
    rw [LW_text hj ops.size (by omega) (fun i hi hw => by
      obtain ⟨x, hx⟩ := ops_get hi
      exact ord I.cl hcf ho hj hr hx (conf_slot (wF_iff hx hw) ht)), ← T.fget t j (by omega)]
  have hfs : ∀ t, t ∈ namesO ops o → R s (G j t) (a.tmps.getD t undef) := fun t ht => by rw [← slot t ht]; exact I.fr t
  have opnd : ∀ x ∈ o.op.operands, ev (fun t => LW (wF sg ops t) (fun i => G (i + 1) t) (G 0 t) S ops.size) x = ev (G j) x := by
    intro x hx
    cases x with
    | tmp t =>
      refine slot t ?_
      unfold namesO
      refine List.mem_append_right _ (List.mem_append_left _ (List.mem_filterMap.2 ⟨.tmp t, Array.mem_toList_iff.2 hx, rfl⟩))
    | const v => rfl
    | func f => rfl
    | global g => rfl
  have hρ : ∀ x, R s (ev (fun t => LW (wF sg ops t) (fun i => G (i + 1) t) (G 0 t) S ops.size) x) (a.eval x) := by
    intro x
    cases x with
    | tmp t => exact I.fr t
    | const v => exact avOf_R s v
    | func f => simp only [ev, Act.eval, R, RL]; exact ⟨[], [], rfl, rfl, rfl⟩
    | global g => simp only [ev, R]
  obtain ⟨hcg, hpg⟩ := opRd_congr (C := C) (ops := ops) (h := maskH o (ev (G j)) (H j)) (nid := base + j) opnd
  -- memory that the operation looks at stands as in the text
  have memr : prt j = none → ∀ (id : Nat) (ob : AObj), (maskH o (ev (G j)) (H j))[id]? = some ob → ob.alive = true → s.h[id]? = some ob := by
    intro hpn id ob hm ha
    obtain ⟨hmt, hHj, ⟨x, hx0, hxi⟩, _⟩ := maskH_get hm ha
    have hx := looks_sub hx0
    have hidlt : id < base + ops.size := by rw [← T.lenk j (by omega)]; exact (List.getElem?_eq_some_iff.1 hHj).1
    have hkn : kn s.h id = true := by
      have := hρ x
      rw [opnd x hx] at this
      exact ids_kn _ _ id this hxi
    rw [I.get hidlt]
    have htext := T.hget hprt id j (by omega)
    rw [FW_text hj ops.size (by omega) (fun i hi hw => by
      obtain ⟨y, hy⟩ := ops_get hi
      obtain ⟨ob', hb', hp'⟩ := wH_iff hy hw
      rcases (T.tk i y hy (wH_sg hw)).posc hb' with h1 | ⟨h1, _⟩
      · constructor
        · intro _
          have : id = base + i := by omega
          subst this
          exact I.known T hi hkn
        · intro hji
          have : id = base + i := by omega
          subst this
          have := T.made j (by omega) i hi ob hHj ha
          omega
      · rcases hmc i j y o id (wH_sg hw) hy ho ⟨ob', hb'⟩ hp' h1 ⟨ob, hm, ha⟩ with h2 | ⟨_, _, _, h2, _⟩
        · exact ord I.cl hcf ho hj hr hy (conf_mem h1 hmt h2)
        · rw [hpn] at h2; cases h2), ← htext]
    rw [List.getD_eq_getElem?_getD, hHj]
    rfl
  -- a block that the operation turns is known
  have turned : ∀ (c : Nat) (ob : AObj), c < ops.size → B j = some ob → posR (base + j) (ev (G j)) o = base + c → c = j ∨ S c = true := by
    intro c ob hc hb hp
    rcases tk.posc hb with h1 | ⟨_, oo, _, _, x, hx0, hxi⟩
    · exact .inl (by omega)
    · have hx := looks_sub hx0
      refine .inr (I.known T hc ?_)
      have := hρ x
      rw [opnd x hx] at this
      rw [hp] at hxi
      exact ids_kn _ _ _ this hxi
  have hfree : Free s.h (base + j) := by
    refine .inr ?_
    rw [I.get (by omega), FW_none ops.size (fun i hi hw => by
      cases hSi : S i with
      | false => rfl
      | true => have := I.mkd i j hi hjlt hSi hw; rw [hj] at this; cases this), List.getD_eq_getElem?_getD, T.rsv j hjlt]
    rfl
  -- behind the operation
  have after : ∀ s' a' cv, Step s s' → Ok s' → R s' (V j) cv → s'.h = putO s.h (posR (base + j) (ev (G j)) o) ((B j).map fun _ => tau H prt (posR (base + j) (ev (G j)) o) j (FW (wH sg ops base G B (posR (base + j) (ev (G j)) o)) (tau H prt (posR (base + j) (ev (G j)) o)) ((H 0).getD (posR (base + j) (ev (G j)) o) .dead) S ops.size)) → a' = a.put o.dst cv → DInv sg ops base G H B prt N ds (fun i => S i || decide (i = j)) s' a' := by
    intro s' a' cv hst hok' hv hh ha'
    subst ha'
    have hcl : ∀ j' o' e, (S j' || decide (j' = j)) = true → ops[j']? = some o' → e ∈ o'.after.toList → Region.binds .any e = true → (S e.on || decide (e.on = j)) = true := by
      intro j' o' e hs' ho' he hb
      simp only [Bool.or_eq_true, decide_eq_true_eq] at hs' ⊢
      rcases hs' with h1 | rfl
      · exact .inl (I.cl j' o' e h1 ho' he hb)
      · rw [ho] at ho'; cases ho'
        exact .inl (hr e he hb)
    refine ⟨?_, ?_, hok', by rw [put_size]; exact I.size, by rw [put_defers]; exact I.dfr, hcl, ?_⟩
    · apply List.ext_getElem?
      intro id
      by_cases hid : id < base + ops.size
      · rw [List.getElem?_map, List.getElem?_range hid]
        simp only [Option.map_some]
        rw [FW_add hj ops.size hjlt (fun i hi hji hwi hwj => by
          obtain ⟨y, hy⟩ := ops_get hi
          obtain ⟨ob1, hb1, hp1⟩ := wH_iff ho hwj
          obtain ⟨ob2, hb2, hp2⟩ := wH_iff hy hwi
          rcases (T.tk i y hy (wH_sg hwi)).posc hb2 with h2 | ⟨h2, _⟩
          · exfalso
            rcases tk.posc hb1 with h1 | ⟨h1, oo, h3, h4, _⟩
            · omega
            · rw [hp1, ← hp2, h2] at h3
              have := T.made j (by omega) i hi oo h3 h4
              omega
          · rcases tk.seen hb1 with h1 | ⟨h1, oo, hs1, hs2⟩
            · left
              cases hSi : S i with
              | false => rfl
              | true =>
                have := I.mkd i j hi hjlt hSi (by rw [← h1, hp1]; exact hwi)
                rw [hj] at this; cases this
            · rcases hmc i j y o id (wH_sg hwi) hy ho ⟨ob2, hb2⟩ hp2 h2 ⟨oo, by rw [← hp1]; exact hs1, hs2⟩ with h3 | ⟨p, q, hpi, hqj, hd⟩
              · exact .inl ((ord I.cl hcf ho hj hr hy (conf_mem h2 (memW_T h1) h3)).2 hji)
              · right
                obtain ⟨_, _, pri⟩ := hprt i y p (wH_sg hwi) hy hpi ((T.tk i y hy (wH_sg hwi)).ran hb2)
                obtain ⟨_, _, prj⟩ := hprt j o q hsj ho hqj (tk.ran hb1)
                have hd : p.2.1 + p.2.2.2.length ≤ q.2.1 ∨ q.2.1 + q.2.2.2.length ≤ p.2.1 := by rw [pri.len, prj.len]; exact hd
                intro x
                unfold tau
                rw [hpi, hqj]
                cases x with
                | cells Tc cs =>
                  simp only
                  rw [ovr_comm cs (show q.2.1 + q.2.2.2.length ≤ p.2.1 ∨ p.2.1 + p.2.2.2.length ≤ q.2.1 by omega)]
                | _ => rfl)]
        rw [hh]
        cases hb : B j with
        | none =>
          have hw : wH sg ops base G B id j = false := by unfold wH; rw [ho, hsj]; simp [hb]
          rw [hw]
          exact I.get hid
        | some ob =>
          have hplt : posR (base + j) (ev (G j)) o < s.h.length := by rw [I.len]; exact T.plt ho hsj hb
          simp only [putO, Option.map_some]
          rw [put_get hplt]
          by_cases he : id = posR (base + j) (ev (G j)) o
          · have hw : wH sg ops base G B id j = true := by unfold wH; rw [ho, hsj]; simp [hb, he]
            rw [if_pos he, hw]
            simp only [cond_true, Option.some.injEq]
            rw [he]
          · have hw : wH sg ops base G B id j = false := by unfold wH; rw [ho, hsj]; simp only [hb, Option.isSome_some, Bool.true_and, decide_eq_false_iff_not]; exact fun e => he e.symm
            rw [if_neg he, hw]
            exact I.get hid
      · have hl : s'.h.length = base + ops.size := by
          rw [hh]
          cases hb : B j with
          | none => exact I.len
          | some ob =>
            have hplt : posR (base + j) (ev (G j)) o < s.h.length := by rw [I.len]; exact T.plt ho hsj hb
            simp only [putO, Option.map_some]
            rw [put_len hplt, I.len]
        have e1 : s'.h[id]? = none := List.getElem?_eq_none (by omega)
        rw [e1, List.getElem?_map, List.getElem?_eq_none (by rw [List.length_range]; omega)]
        rfl
    · intro t
      rw [LW_add hj ops.size hjlt (fun i hi hji hwi hwj => by
        obtain ⟨y, hy⟩ := ops_get hi
        refine (ord I.cl hcf ho hj hr hy (conf_slot (wF_iff hy hwi) ?_)).2 hji
        unfold namesO
        rw [wF_iff ho hwj]
        simp)]
      cases hw : wF sg ops t j with
      | true =>
        have hd := wF_iff ho hw
        have hlt : t < a.tmps.size := by
          have := hN o hmem
          unfold dstOk at this
          rw [hd] at this
          rw [I.size]
          simpa using this
        rw [hd, getD_put hlt, if_pos rfl]
        simp only [cond_true]
        rcases tk.geq t hd with e | e <;> rw [e]
        · exact hv
        · simp only [R]
      | false =>
        simp only [cond_false]
        have hne : o.dst ≠ some t := by
          unfold wF at hw
          rw [ho, hsj] at hw
          exact of_decide_eq_false hw
        have : (a.put o.dst cv).tmps.getD t undef = a.tmps.getD t undef := by
          cases hd : o.dst with
          | none => rfl
          | some d =>
            have hlt : d < a.tmps.size := by
              have := hN o hmem
              unfold dstOk at this
              rw [hd] at this
              rw [I.size]
              simpa using this
            rw [getD_put hlt, if_neg (fun e => hne (by rw [hd, e]))]
        rw [this]
        exact R_mono hst _ _ (I.fr t)
    · intro k c hk hc hSk hw
      simp only [Bool.or_eq_true, decide_eq_true_eq] at hSk ⊢
      rcases hSk with h1 | rfl
      · exact .inl (I.mkd k c hk hc h1 hw)
      · obtain ⟨ob, hb, hp⟩ := wH_iff ho hw
        exact (turned c ob hc hb hp).symm
  -- whether it runs
  have hwant : Region.wanted o (yielded ops a.tmps) = E j := by
    rcases tk.grd with ⟨hg, he⟩ | ⟨jj, want, t, hg, ht, hval⟩
    · simp [Region.wanted, hg, he]
    · have htn : t ∈ namesO ops o := by
        unfold namesO
        refine List.mem_append_right _ (List.mem_append_right _ ?_)
        rw [hg]
        simp only [ht]
        simp
      have hlt : t < a.tmps.size := by
        cases hjj : ops[jj]? with
        | none => rw [hjj] at ht; cases ht
        | some oj =>
          rw [hjj] at ht
          have hm : oj ∈ ops.toList := by
            obtain ⟨hl, he⟩ := Array.getElem?_eq_some_iff.1 hjj
            rw [← he]
            exact Array.mem_toList_iff.2 (Array.getElem_mem hl)
          have := hN oj hm
          unfold dstOk at this
          simp only [Option.bind_some] at ht
          rw [ht] at this
          rw [I.size]
          simpa using this
      have hy := yielded_get ht hlt
      have hrt := hfs t htn
      rcases hval with ⟨b, hb, he⟩ | ⟨hb, he⟩
      · rw [hb] at hrt
        simp only [R] at hrt
        rw [hrt] at hy
        simp only [Region.wanted, hg, hy, he]
        cases b <;> cases want <;> rfl
      · rw [hb] at hrt
        simp only [R] at hrt
        rw [hrt] at hy
        simp only [Region.wanted, hg, hy, he, undef]
        cases want <;> rfl
  unfold wpOp
  rw [ho]
  simp only
  rw [hwant]
  cases he : E j with
  | true =>
    rw [if_pos rfl]
    refine .inl ?_
    cases hpj : prt j with
    | none =>
      have h := tk.exe he
      rw [← hcg] at h
      refine opRd_ok hT hD I.ok (h0 := maskH o (ev (G j)) (H j)) (memr hpj) hfree hρ h K Q ?_
      intro cv s' hst hok' hv hh
      rw [hpg] at hh
      refine hK s' _ hst (after s' _ cv hst hok' hv ?_ rfl)
      rw [hh]
      cases hb : B j with
      | none => rfl
      | some ob =>
        have hplt2 : posR (base + j) (ev (G j)) o < (H j).length := by rw [T.lenk j (by omega)]; exact T.plt ho hsj hb
        simp only [Option.map_some]
        unfold tau
        rw [hpj, tk.hp, hb]
        simp only [putO, List.getD_eq_getElem?_getD]
        rw [put_get hplt2, if_pos rfl]
        rfl
    | some p =>
      obtain ⟨Tc, n, pr⟩ := hprt j o p hsj ho hpj he
      obtain ⟨cs0, hcs0, hBj⟩ := pr.own
      -- the block, as it stands
      have hcur : ∀ m, m ≤ ops.size → ∃ cs, FW (wH sg ops base G B p.1) (tau H prt p.1) ((H 0).getD p.1 .dead) S m = .cells Tc cs ∧ cs.length = n := by
        intro m
        induction m with
        | zero =>
          intro _
          obtain ⟨cs, h1, h2⟩ := pr.kind 0 (by omega)
          exact ⟨cs, by simp only [FW]; rw [List.getD_eq_getElem?_getD, h1]; rfl, h2⟩
        | succ m ih =>
          intro hm
          obtain ⟨cs, h1, h2⟩ := ih (by omega)
          simp only [FW]
          cases hw : (S m && wH sg ops base G B p.1 m) with
          | false => exact ⟨cs, h1, h2⟩
          | true =>
            simp only [cond_true]
            rw [h1]
            unfold tau
            cases prt m with
            | none =>
              obtain ⟨cs', h3, h4⟩ := pr.kind (m + 1) (by omega)
              exact ⟨cs', by simp only; rw [List.getD_eq_getElem?_getD, h3]; rfl, h4⟩
            | some q => exact ⟨_, rfl, by rw [ovr_len]; exact h2⟩
      obtain ⟨cs, hFW, hcl⟩ := hcur ops.size (Nat.le_refl _)
      have hplt : p.1 < base + ops.size := by have := pr.low; omega
      have hsh : s.h[p.1]? = some (.cells Tc cs) := by rw [I.get hplt, hFW]
      have h := pr.run (List.replicate p.1 .resv ++ [.cells Tc cs]) cs (by rw [List.getElem?_append_right (by simp)]; simp) hcl
      obtain ⟨hcg2, _⟩ := opRd_congr (C := C) (ops := ops) (h := List.replicate p.1 .resv ++ [.cells Tc cs]) (nid := base + j) opnd
      rw [← hcg2] at h
      refine opRd_ok hT hD I.ok (h0 := List.replicate p.1 .resv ++ [.cells Tc cs]) (fun id ob hi ha => by
        rcases Nat.lt_trichotomy id p.1 with h1 | h1 | h1
        · rw [List.getElem?_append_left (by simpa using h1), List.getElem?_replicate, if_pos h1] at hi
          cases hi
          cases ha
        · subst h1
          rw [List.getElem?_append_right (by simp)] at hi
          simp at hi
          rw [← hi]
          exact hsh
        · rw [List.getElem?_eq_none (by simp; omega)] at hi
          cases hi) hfree hρ h K Q ?_
      intro cv s' hst hok' hv hh
      rw [hpg] at hh
      refine hK s' _ hst (after s' _ cv hst hok' hv ?_ rfl)
      rw [hh, hBj, pr.pos]
      simp only [Option.map_some]
      rw [hFW]
      unfold tau
      rw [hpj]
      simp only
      rw [ovr_splice (by rw [hcl]; exact pr.inr)]
  | false =>
    rw [if_neg (by simp)]
    obtain ⟨hv, hb⟩ := tk.skp he
    refine hK s _ (Step.refl s) (after s _ undef (Step.refl s) I.ok (by rw [hv]; simp only [R]) (by rw [hb]; rfl) rfl)
end
end Av
namespace Av
open Go

section
variable {P : Program} {sg : Nat → Bool} {C : Cx} {ops : Array Oper} {base : Nat} {G : Nat → Nat → AV} {H : Nat → Hp} {V : Nat → AV} {B : Nat → Option AObj} {E : Nat → Bool} {N : Nat} {ds : List Deferred}
/-- When nothing is ready all has run. -/
theorem stuck (hed : ∀ j o, ops[j]? = some o → edgesOk j o = true) {listed : Array Bool} (hsz : listed.size = ops.size) (hr : Region.ready .any ops listed = []) : ∀ i, i < ops.size → listed.getD i false = true := by
  intro i
  induction i using Nat.strongRecOn with
  | _ i ih =>
    intro hi
    cases hl : listed.getD i false with
    | true => rfl
    | false =>
      exfalso
      obtain ⟨o, ho⟩ := ops_get hi
      have hm : i ∈ Region.ready .any ops listed := by
        rw [mem_ready]
        refine ⟨?_, o, ho, fun e he hb => ?_⟩
        · rw [Array.getD_eq_getD_getElem?] at hl ⊢
          rw [Array.getElem?_eq_getElem (by omega)] at hl ⊢
          exact hl
        · have h1 := hed i o ho
          unfold edgesOk at h1
          rw [Bool.and_eq_true, List.all_eq_true] at h1
          have h2 := h1.1 e (Array.mem_toList_iff.2 he)
          rw [hb] at h2
          have h3 : e.on < i := by simpa using h2
          exact ih e.on h3 (by omega)
      rw [hr] at hm
      cases hm
theorem ready_at {listed : Array Bool} (hsz : listed.size = ops.size) {i : Nat} (hm : i ∈ Region.ready .any ops listed) : ∃ o, ops[i]? = some o ∧ i < ops.size ∧ listed.getD i false = false ∧ ∀ e ∈ o.after.toList, Region.binds .any e = true → listed.getD e.on false = true := by
  obtain ⟨h0, o, ho, hall⟩ := mem_ready.1 hm
  have hlt := ops_lt ho
  refine ⟨o, ho, hlt, ?_, fun e he hb => hall e (Array.mem_toList_iff.1 he) hb⟩
  rw [Array.getD_eq_getD_getElem?, Array.getElem?_eq_getElem (by omega)] at h0 ⊢
  exact h0
theorem listed_set {listed : Array Bool} (hsz : listed.size = ops.size) {i : Nat} (hlt : i < ops.size) : (fun k => (listed.setIfInBounds i true).getD k false) = fun k => listed.getD k false || decide (k = i) := by
  funext k
  rw [Array.getD_eq_getD_getElem?, Array.getD_eq_getD_getElem?, Array.getElem?_setIfInBounds]
  by_cases hk : k = i
  · subst hk
    simp [show k < listed.size by omega]
  · rw [if_neg (fun e => hk e.symm)]
    simp [hk]
theorem drawn_run (hT : TbOk P C.tb) (hD : SpecsOk P C.specs) (T : Trc sg C ops base G H V B E) {mc : Oper → Oper → Bool} (hed : ∀ j o, ops[j]? = some o → edgesOk j o = true) (hcf : ∀ i j x o, ops[i]? = some x → ops[j]? = some o → i < j → confM mc ops x o = true → Bef ops i j) {prt : Prt} (hprt : PRok C ops sg base G H V B E prt) (hmc : MCok mc ops sg base G H B prt) (hN : ∀ o ∈ ops.toList, dstOk N o = true) {lo hi : Nat} (hsg : ∀ k, sg k = true ↔ lo ≤ k ∧ k < hi) (hhi : hi ≤ ops.size)
    (hbar : hi < ops.size → (∀ i, i < hi → Bef ops i hi) ∧ (∀ k, hi < k → k < ops.size → Bef ops hi k)) {Q : Exit → Act → World → Prop} :
    ∀ (fuel : Nat) (listed : Array Bool) (s : St) (a : Act), listed.size = ops.size → cntF (fun i => listed.getD i false) ops.size = fuel → DInv sg ops base G H B prt N ds (fun i => listed.getD i false) s a →
      (∀ k, k < lo → listed.getD k false = true) → (∀ k, hi ≤ k → k < ops.size → listed.getD k false = false) →
      (∀ fuel' listed' s' a', listed'.size = ops.size → cntF (fun i => listed'.getD i false) ops.size = fuel' → (∀ k, k < hi → listed'.getD k false = true) → (∀ k, hi ≤ k → k < ops.size → listed'.getD k false = false) →
        (∀ j o e, listed'.getD j false = true → ops[j]? = some o → e ∈ o.after.toList → Region.binds .any e = true → listed'.getD e.on false = true) →
        Step s s' → Ok s' → s'.h = H ops.size → (∀ t, R s' (G ops.size t) (a'.tmps.getD t undef)) → a'.tmps.size = N → a'.defers = ds → wpAny P .any ops Q fuel' listed' a' s'.w) →
      wpAny P .any ops Q fuel listed a s.w := by
  have done : ∀ (fuel : Nat) (listed : Array Bool) (s : St) (a : Act), listed.size = ops.size → cntF (fun i => listed.getD i false) ops.size = fuel → (∀ i, i < hi → listed.getD i false = true) → (∀ k, hi ≤ k → k < ops.size → listed.getD k false = false) → DInv sg ops base G H B prt N ds (fun i => listed.getD i false) s a →
      (∀ fuel' listed' s' a', listed'.size = ops.size → cntF (fun i => listed'.getD i false) ops.size = fuel' → (∀ k, k < hi → listed'.getD k false = true) → (∀ k, hi ≤ k → k < ops.size → listed'.getD k false = false) →
        (∀ j o e, listed'.getD j false = true → ops[j]? = some o → e ∈ o.after.toList → Region.binds .any e = true → listed'.getD e.on false = true) →
        Step s s' → Ok s' → s'.h = H ops.size → (∀ t, R s' (G ops.size t) (a'.tmps.getD t undef)) → a'.tmps.size = N → a'.defers = ds → wpAny P .any ops Q fuel' listed' a' s'.w) → wpAny P .any ops Q fuel listed a s.w := by
    intro fuel listed s a hsz hc hall hhigh I hQ
    refine hQ fuel listed s a hsz hc hall hhigh I.cl (Step.refl s) I.ok ?_ (fun t => ?_) I.size I.dfr
    · apply List.ext_getElem?
      intro id
      by_cases hid : id < base + ops.size
      · rw [I.get hid, FW_all ops.size (fun i _ hw => hall i ((hsg i).1 (wH_sg hw)).2), ← T.hget hprt id ops.size (Nat.le_refl _), List.getD_eq_getElem?_getD, List.getElem?_eq_getElem (by rw [T.lenk _ (Nat.le_refl _)]; exact hid)]
        rfl
      · rw [List.getElem?_eq_none (by rw [I.len]; omega), List.getElem?_eq_none (by rw [T.lenk _ (Nat.le_refl _)]; omega)]
    · have := I.fr t
      rw [LW_all ops.size (fun i _ hw => hall i ((hsg i).1 (wF_sg hw)).2), ← T.fget t ops.size (Nat.le_refl _)] at this
      exact this
  intro fuel
  induction fuel with
  | zero =>
    intro listed s a hsz hc I hlo hhigh hQ
    have hall := cntF_zero ops.size hc
    exact done 0 listed s a hsz hc (fun i hi' => hall i (by omega)) hhigh I hQ
  | succ fuel ih =>
    intro listed s a hsz hc I hlo hhigh hQ
    by_cases hall : ∀ i, i < hi → listed.getD i false = true
    · exact done _ listed s a hsz hc hall hhigh I hQ
    · refine ⟨fun hr => absurd (fun i hi' => stuck hed hsz hr i (by omega)) hall, fun i hm => ?_⟩
      obtain ⟨o, ho, hlt, h0', hrd⟩ := ready_at hsz hm
      have hrd' : ∀ o' e, ops[i]? = some o' → e ∈ o'.after.toList → Region.binds .any e = true → listed.getD e.on false = true := fun o' e ho' he hb => by
        rw [ho] at ho'; cases ho'; exact hrd e he hb
      have hihi : i < hi := by
        rcases Nat.lt_trichotomy i hi with h | h | h
        · exact h
        · subst h
          exact absurd (fun k hk => ((hbar hlt).1 k hk).ready I.cl hrd') hall
        · have h1 := ((hbar (by omega)).2 i h hlt).ready I.cl hrd'
          have h2 := hhigh hi (Nat.le_refl _) (by omega)
          rw [show listed.getD hi false = true from h1] at h2
          cases h2
      have hloi : lo ≤ i := by
        rcases Nat.lt_or_ge i lo with h | h
        · rw [hlo i h] at h0'; cases h0'
        · exact h
      have hset := listed_set (ops := ops) hsz hlt
      refine I.next hT hD T hcf hprt hmc hN ho ((hsg i).2 ⟨hloi, hihi⟩) h0' hrd ?_
      intro s' a' hst I'
      have hk : ∀ k, (listed.setIfInBounds i true).getD k false = (listed.getD k false || decide (k = i)) := fun k => congrFun hset k
      refine ih (listed.setIfInBounds i true) s' a' (by simpa using hsz) ?_ (by rw [hset]; exact I') (fun k h => by rw [hk, hlo k h]; rfl) (fun k h h' => by rw [hk, hhigh k h h']; simp; omega) (fun f2 l2 s2 a2 e1 e2 e3 e4 e5 h1 => hQ f2 l2 s2 a2 e1 e2 e3 e4 e5 (hst.trans h1))
      rw [hset]
      have := cntF_add (S := fun k => listed.getD k false) (j := i) h0' ops.size
      rw [if_pos hlt] at this
      omega

/-- The state with room for n blocks. -/
def St.room (s : St) (n : Nat) (w' : World) : St := ⟨s.σ, s.h ++ List.replicate n .resv, w', s.F⟩
theorem room_get {s : St} {n : Nat} {w' : World} {id : Nat} {o : AObj} (h : (s.room n w').h[id]? = some o) : s.h[id]? = some o ∨ o = .resv := by
  have h : (s.h ++ List.replicate n AObj.resv)[id]? = some o := h
  rw [List.getElem?_append] at h
  split at h
  · exact .inl h
  · rw [List.getElem?_replicate] at h
    split at h
    · exact .inr (by cases h; rfl)
    · cases h
theorem room_own {s : St} {n : Nat} {w' : World} {b : Nat} (h : OwnI (s.room n w') b) : OwnI s b := by
  obtain ⟨id, o, h1, h2, h3⟩ := h
  rcases room_get h1 with h4 | rfl
  · exact ⟨id, o, h4, h2, h3⟩
  · cases h2
theorem room_step {s : St} (n : Nat) {w' : World} (hw : Grew s.w w') : Step s (s.room n w') where
  os := hw.os
  tape := hw.tape
  output := hw.output
  drawn := hw.drawn
  size := hw.size
  kn := fun id h => by
    unfold kn at h ⊢
    have hlt : id < s.h.length := by
      rcases Nat.lt_or_ge id s.h.length with h1 | h1
      · exact h1
      · rw [List.getElem?_eq_none h1] at h; cases h
    show (match (s.h ++ List.replicate n AObj.resv)[id]? with | some .resv => false | some _ => true | none => false) = true
    rw [List.getElem?_append_left hlt]
    exact h
  keep := fun b hb hn => ⟨fun h => hn (room_own h), hw.block b hb⟩
  frn := rfl
  cells := fun id T cs' _ hc => by
    rcases room_get hc with h1 | h1
    · exact ⟨rfl, cs', h1⟩
    · cases h1
  oth := fun id o' _ hc => by
    rcases room_get hc with h1 | h1
    · exact ⟨rfl, o', h1⟩
    · cases h1
  arr := fun id T t l' f' g _ hc => by
    rcases room_get hc with h1 | h1
    · exact ⟨l', f', g, h1, Nat.le_refl _, fun _ => ⟨rfl, rfl⟩⟩
    · cases h1
theorem room_ok {s : St} (hok : Ok s) (n : Nat) {w' : World} (hw : Grew s.w w') : Ok (s.room n w') where
  obj := fun id o hid => by
    rcases room_get hid with h1 | rfl
    · cases ha : o.alive with
      | false => cases o <;> first | trivial | cases ha
      | true => exact ObjR_mono (room_step n hw) rfl (fun b hb => hw.block b (own_lt hok ⟨id, o, h1, ha, hb⟩)) (hok.obj id o h1)
    · trivial
  inj := fun i j o p b hi hj ho hp hbi hbj => by
    rcases room_get hi with h1 | rfl
    · rcases room_get hj with h2 | rfl
      · exact hok.inj i j o p b h1 h2 ho hp hbi hbj
      · cases hp
    · cases ho
  fb := fun b hb => Nat.lt_of_lt_of_le (hok.fb b hb) hw.size
  dis := fun b h => hok.dis b (room_own h)

/-! ### Room that is given back -/
theorem trim_ok {s : St} (hok : Ok s) {k : Hp → Prop} (h : trimK s.h k) : ∃ s', s'.w = s.w ∧ Step s s' ∧ Ok s' ∧ k s'.h := by
  have key : ∀ (h : Hp) (k : Hp → Prop), trimK h k → ∃ h' n, h = h' ++ List.replicate n .resv ∧ k h' := by
    intro h
    induction h with
    | nil => exact fun k hk => ⟨[], 0, rfl, hk⟩
    | cons o h ih =>
      intro k hk
      simp only [trimK] at hk
      obtain ⟨r, n, rfl, h2⟩ := ih _ hk
      split at h2
      · split at h2
        · exact ⟨[], n + 1, by simp [List.replicate_succ], h2⟩
        · exact ⟨_, n, by simp, h2⟩
      · exact ⟨_, n, by simp, h2⟩
  obtain ⟨h', n, he, hk⟩ := key s.h k h
  have up : ∀ {i : Nat} {o : AObj}, h'[i]? = some o → s.h[i]? = some o := fun {i o} hi => by
    rw [he, List.getElem?_append_left (List.getElem?_eq_some_iff.1 hi).1]
    exact hi
  have down : ∀ {i : Nat} {o : AObj}, s.h[i]? = some o → o ≠ .resv → h'[i]? = some o := fun {i o} hi ho => by
    rw [he, List.getElem?_append] at hi
    split at hi
    · exact hi
    · rw [List.getElem?_replicate] at hi
      split at hi
      · cases hi; exact absurd rfl ho
      · cases hi
  have own : ∀ {b : Nat}, OwnI ⟨s.σ, h', s.w, s.F⟩ b → OwnI s b := fun {b} ⟨i, o, h1, h2, h3⟩ => ⟨i, o, up h1, h2, h3⟩
  have hst : Step s ⟨s.σ, h', s.w, s.F⟩ := {
    os := rfl
    tape := rfl
    output := rfl
    drawn := Nat.le_refl _
    size := Nat.le_refl _
    kn := fun i hi => by
      unfold Av.kn at hi ⊢
      cases ho : s.h[i]? with
      | none => rw [ho] at hi; cases hi
      | some o =>
        rw [ho] at hi
        have hne : o ≠ .resv := by rintro rfl; cases hi
        show (match h'[i]? with | some .resv => false | some _ => true | none => false) = true
        rw [down ho hne]
        exact hi
    keep := fun b _ hn => ⟨fun h => hn (own h), rfl⟩
    frn := rfl
    cells := fun i T cs' _ hc => ⟨rfl, cs', up hc⟩
    oth := fun i o' _ hc => ⟨rfl, o', up hc⟩
    arr := fun i T t l' f' g _ hc => ⟨l', f', g, up hc, Nat.le_refl _, fun _ => ⟨rfl, rfl⟩⟩ }
  refine ⟨⟨s.σ, h', s.w, s.F⟩, rfl, hst, ?_, hk⟩
  exact {
    obj := fun i o hi => ObjR_mono hst rfl (fun _ _ => rfl) (hok.obj i o (up hi))
    inj := fun i j o p b hi hj ho hp => hok.inj i j o p b (up hi) (up hj) ho hp
    fb := hok.fb
    dis := fun b h => hok.dis b (own h) }
theorem trim_post {s : St} {N : Nat} {ds : List Deferred} {K : Tr → Hp → Prop} {f : Tr} {a : Act} (hok : Ok s) (hf : FR s f.get a) (hN : a.tmps.size = N) (hds : a.defers = ds) (h : trimK s.h fun h => K f h) : Post s N ds K a s.w := by
  obtain ⟨s', hw, hst, hok', hk⟩ := trim_ok hok h
  exact ⟨⟨s', f, hw, hst, hok', hf.step hst, hk⟩, hds, hN⟩
theorem wpAny_done {Q : Exit → Act → World → Prop} {listed : Array Bool} {a : Act} {w : World} (hsz : listed.size = ops.size) (hall : ∀ i, i < ops.size → listed.getD i false = true) (hQ : Q .normal a w) : ∀ fuel, wpAny P .any ops Q fuel listed a w := by
  have hr : Region.ready .any ops listed = [] := by
    cases hr : Region.ready .any ops listed with
    | nil => rfl
    | cons i l =>
      exfalso
      have hm : i ∈ Region.ready .any ops listed := by rw [hr]; simp
      obtain ⟨o, ho, hlt, h0, _⟩ := ready_at hsz hm
      rw [hall i hlt] at h0
      cases h0
  intro fuel
  cases fuel with
  | zero => exact ⟨hr, hQ⟩
  | succ n => exact ⟨fun _ => hQ, fun i hm => by rw [hr] at hm; cases hm⟩
theorem trimK_some : ∀ {h : Hp} {k : Hp → Prop}, trimK h k → ∃ h', k h'
  | [], k, hk => ⟨[], hk⟩
  | o :: h, k, hk => by
    simp only [trimK] at hk
    obtain ⟨r, h2⟩ := trimK_some hk
    split at h2
    · split at h2
      · exact ⟨_, h2⟩
      · exact ⟨_, h2⟩
    · exact ⟨_, h2⟩
/-- Why the order of a region does not matter. -/
inductive DMode (C : Cx) (ops : Array Oper) (K : Tr → Hp → Prop) (f : Tr) (cur : Hp) (base : Nat) : Prop where
  | all (h : drawOkM (fun _ _ => true) ops = true) : DMode C ops K f cur base
  | known (hb : hasBar C ops ops.toList = false) (hc : Hp) (hh : ∀ (id : Nat) o, hc[id]? = some o → cur[id]? = some o ∧ id < base) (h : drawOkM (mcP C.tb f hc ops) ops = true) : DMode C ops K f cur base
  | left (hb : hasBar C ops ops.toList = false) (hs : ssaGo ops.toList = true) (hk : ∀ f2 h2, K f2 h2 → drawOkM (mcE ops f2.get) ops = true) : DMode C ops K f cur base
theorem DMode.next {K : Tr → Hp → Prop} {f f2 : Tr} {cur cur2 : Hp} {base base2 : Nat} (h : DMode C ops K f cur base) (hb : hasBar C ops ops.toList = true) : DMode C ops K f2 cur2 base2 := by
  cases h with
  | all h => exact .all h
  | known hb2 _ _ _ => rw [hb] at hb2; cases hb2
  | left hb2 _ _ => rw [hb] at hb2; cases hb2
theorem drawGo_ok {call : CallA} (hT : TbOk P C.tb) (hD : SpecsOk P C.specs) (hcall : CallOk P call) (hN : ∀ o ∈ ops.toList, dstOk N o = true) (hbars : barsOk C ops = true) {K : Tr → Hp → Prop} {Q : Exit → Act → World → Prop} :
    ∀ (n : Nat) (l : List Oper) (i base : Nat) (f : Tr) (s : St) (a : Act) (listed : Array Bool) (fuel : Nat), l.length ≤ n → l = ops.toList.drop i → i ≤ ops.size → listed.size = ops.size → cntF (fun i => listed.getD i false) ops.size = fuel →
      (∀ k, k < i → listed.getD k false = true) → (∀ k, i ≤ k → k < ops.size → listed.getD k false = false) → Ok s → FR s f.get a → a.tmps.size = N → a.defers = ds →
      s.h.length = base + ops.size → (∀ c, c < ops.size → s.h[base + c]? = some .resv) → drawGo C call ops base i l f s.h K → DMode C ops K f s.h base → (∀ a' w', Post s N ds K a' w' → Q .normal a' w') → wpAny P .any ops Q fuel listed a s.w := by
  intro n
  induction n with
  | zero =>
    intro l i base f s a listed fuel hl hle hi hsz hc hlow hhigh hok hf ha hds hlen hrsv h hmf hQ
    have hnil : l = [] := List.eq_nil_of_length_eq_zero (by omega)
    have hi2 : i = ops.size := by
      have := congrArg List.length hle
      rw [hnil, List.length_drop, Array.length_toList] at this
      simp at this
      omega
    subst hnil
    exact wpAny_done hsz (fun k hk => hlow k (by omega)) (hQ _ _ (trim_post hok hf ha hds h)) _
  | succ n ih =>
    intro l i base f s a listed fuel hl hle hi hsz hc hlow hhigh hok hf ha hds hlen hrsv h hmf hQ
    obtain ⟨m, G, H, V, B, E, f', sgm⟩ := drawGo_trace _ _ _ _ _ _ h
    have hll : l.length = ops.size - i := by rw [hle, List.length_drop, Array.length_toList]
    have hm := sgm.le
    have hget : ∀ k, l[k]? = ops[i + k]? := fun k => by rw [hle, List.getElem?_drop]; simp
    let sg : Nat → Bool := fun k => decide (i ≤ k) && decide (k < i + m)
    have hsg : ∀ k, sg k = true ↔ i ≤ k ∧ k < i + m := fun k => by simp [sg]
    have hH0 : H 0 = s.h := (sgm.low 0 (by omega)).2
    have T : Trc sg C ops base G H V B E := {
      tk := fun k o ho hs => by
        obtain ⟨h1, h2⟩ := (hsg k).1 hs
        have := sgm.tk (k - i) o (by omega) (by rw [hget, show i + (k - i) = k by omega]; exact ho)
        rwa [show i + (k - i) = k by omega] at this
      stay := fun k _ hs => by
        have hs' : ¬ (i ≤ k ∧ k < i + m) := fun h => by rw [(hsg k).2 h] at hs; cases hs
        rcases Nat.lt_or_ge k i with h1 | h1
        · rw [(sgm.low k (by omega)).1, (sgm.low k (by omega)).2, (sgm.low (k + 1) (by omega)).1, (sgm.low (k + 1) (by omega)).2]
          exact ⟨rfl, rfl⟩
        · rw [(sgm.high k (by omega)).1, (sgm.high k (by omega)).2, (sgm.high (k + 1) (by omega)).1, (sgm.high (k + 1) (by omega)).2]
          exact ⟨rfl, rfl⟩
      len := by rw [hH0]; exact hlen
      rsv := fun c hc => by rw [hH0]; exact hrsv c hc }
    have hend : H ops.size = H (i + m) ∧ G ops.size = f'.get := by
      have := sgm.high ops.size (by omega)
      exact ⟨this.2, this.1⟩
    have hfin := sgm.fin
    have hrest : l.drop m = ops.toList.drop (i + m) := by rw [hle, List.drop_drop]
    obtain ⟨mc, prt, hdk, hprt, hmc⟩ : ∃ mc prt, drawOkM mc ops = true ∧ PRok C ops sg base G H V B E prt ∧ MCok mc ops sg base G H B prt := by
      cases hmf with
      | all h => exact ⟨_, _, h, PRok.none, MCok.all⟩
      | known hb hc hh h =>
        have hh2 : ∀ (id : Nat) o, hc[id]? = some o → (H 0)[id]? = some o ∧ id < base := by rw [hH0]; exact hh
        exact ⟨_, _, h, PRok.known T (sgm.low 0 (by omega)).1 hh2, MCok.known T (sgm.low 0 (by omega)).1 hh2⟩
      | left hb hs hk =>
        have hfin := hfin
        cases hd : l.drop m with
        | nil =>
          rw [hd] at hfin
          have hfin : trimK (H (i + m)) fun h => K f' h := hfin
          obtain ⟨h2, hK⟩ := trimK_some hfin
          exact ⟨_, _, hk _ _ hK, PRok.none, MCok.left T hs hend.2⟩
        | cons o rest =>
          rw [hd] at hfin
          have := hasBar_no hb o (by
            have : o ∈ l.drop m := by rw [hd]; exact List.mem_cons_self
            rw [hrest] at this
            exact List.mem_of_mem_drop this)
          rw [hfin.1] at this
          cases this
    obtain ⟨hed, hcf⟩ := drawOk_spec hdk
    have hwn : ∀ k, k < ops.size → sg k = true → listed.getD k false = false := fun k hk hs => hhigh k ((hsg k).1 hs).1 hk
    have I : DInv sg ops base G H B prt N ds (fun i => listed.getD i false) s a := {
      hp := by
        apply List.ext_getElem?
        intro id
        by_cases hid : id < base + ops.size
        · rw [List.getElem?_map, List.getElem?_range hid]
          simp only [Option.map_some]
          rw [FW_none ops.size (fun k hk hw => hwn k hk (wH_sg hw)), hH0, List.getD_eq_getElem?_getD, List.getElem?_eq_getElem (by omega)]
          rfl
        · rw [List.getElem?_map, List.getElem?_eq_none (l := List.range _) (by rw [List.length_range]; omega), List.getElem?_eq_none (by omega)]
          rfl
      fr := fun t => by
        rw [LW_none ops.size (fun k hk hw => hwn k hk (wF_sg hw)), (sgm.low 0 (by omega)).1]
        exact hf t
      ok := hok
      size := ha
      dfr := hds
      cl := fun j o e hj ho he hb => by
        have h1 := hed j o ho
        unfold edgesOk at h1
        rw [Bool.and_eq_true, List.all_eq_true] at h1
        have h2 := h1.1 e he
        rw [hb] at h2
        have h3 : e.on < j := by simpa using h2
        refine hlow _ ?_
        rcases Nat.lt_or_ge j i with h4 | h4
        · omega
        · rw [hhigh j h4 (ops_lt ho)] at hj; cases hj
      mkd := fun k c hk _ hS hw => by
        rw [hwn k hk (wH_sg hw)] at hS; cases hS }
    refine drawn_run hT hD T hed hcf hprt hmc hN hsg (by omega) (fun hlt => ?_) fuel listed s a hsz hc I hlow (fun k h1 h2 => hhigh k (by omega) h2) ?_
    · obtain ⟨o, ho⟩ := ops_get hlt
      have hd : l.drop m = o :: ops.toList.drop (i + m + 1) := by
        rw [hrest, List.drop_eq_getElem_cons (by simpa using hlt)]
        congr 1
        have := ho
        rw [Array.getElem?_eq_getElem hlt] at this
        simpa using Option.some.inj this
      rw [hd] at hfin
      exact barsOk_spec hbars ho hfin.1
    · intro fuel' listed' s' a' hsz' hc' hlow' hhigh' hcl' hst hok' hh' hf' ha' hds'
      rw [hend.1] at hh'
      rw [hend.2] at hf'
      rcases Nat.lt_or_ge (i + m) ops.size with hlt | hge
      · obtain ⟨o, ho⟩ := ops_get hlt
        have hd : l.drop m = o :: ops.toList.drop (i + m + 1) := by
          rw [hrest, List.drop_eq_getElem_cons (by simpa using hlt)]
          congr 1
          have := ho
          rw [Array.getElem?_eq_getElem hlt] at this
          simpa using Option.some.inj this
        rw [hd] at hfin
        obtain ⟨hb, hops⟩ := hfin
        have hbar := barsOk_spec hbars ho hb
        have hbt : hasBar C ops ops.toList = true := by
          cases hh : hasBar C ops ops.toList with
          | true => rfl
          | false =>
            have := hasBar_no hh o (by
              obtain ⟨hl2, he⟩ := Array.getElem?_eq_some_iff.1 ho
              rw [← he]
              exact Array.mem_toList_iff.2 (Array.getElem_mem hl2))
            rw [hb] at this
            cases this
        have hmem : o ∈ ops.toList := by
          obtain ⟨hl2, he⟩ := Array.getElem?_eq_some_iff.1 ho
          rw [← he]
          exact Array.mem_toList_iff.2 (Array.getElem_mem hl2)
        have hun := hhigh' (i + m) (Nat.le_refl _) hlt
        have hcadd := cntF_add (S := fun k => listed'.getD k false) (j := i + m) hun ops.size
        rw [if_pos hlt] at hcadd
        obtain ⟨q, rfl⟩ : ∃ q, fuel' = q + 1 := ⟨fuel' - 1, by omega⟩
        refine ⟨fun hr => ?_, fun k hk => ?_⟩
        · rw [stuck hed hsz' hr (i + m) hlt] at hun; cases hun
        · obtain ⟨o', ho', hlt', h0', hrd⟩ := ready_at hsz' hk
          have hki : k = i + m := by
            rcases Nat.lt_trichotomy k (i + m) with h1 | h1 | h1
            · rw [hlow' k h1] at h0'; cases h0'
            · exact h1
            · have := (hbar.2 k h1 hlt').ready hcl' (fun o2 e ho2 he hb2 => by rw [ho'] at ho2; cases ho2; exact hrd e he hb2)
              rw [show listed'.getD (i + m) false = true from this] at hun; cases hun
          subst hki
          rw [← hh'] at hops
          obtain ⟨st, hwt, hstt, hokt, hops⟩ := trim_ok hok' hops
          have hft : FR st f'.get a' := FR.step (g := f'.get) hf' hstt
          rw [← hwt]
          refine opA1_ok hT hD hcall hN ho (hN o hmem) hokt hft ha' hops ?_
          rintro a2 w2 ⟨⟨s2, f2, rfl, st2, ok2, fr2, hk2⟩, hd2, hs2⟩
          have hset := listed_set (ops := ops) hsz' hlt
          have hkk : ∀ k, (listed'.setIfInBounds (i + m) true).getD k false = (listed'.getD k false || decide (k = i + m)) := fun k => congrFun hset k
          have hst3 := room_step (s := s2) ops.size (Grew.refl s2.w)
          have hlr : (ops.toList.drop (i + m + 1)).length = ops.size - (i + m + 1) := by rw [List.length_drop, Array.length_toList]
          refine ih (ops.toList.drop (i + m + 1)) (i + m + 1) s2.h.length f2 (s2.room ops.size s2.w) a2 (listed'.setIfInBounds (i + m) true) q (by omega) rfl (by omega) (by simpa using hsz') ?_ ?_ ?_ (room_ok ok2 ops.size (Grew.refl s2.w)) (fr2.step hst3) hs2 (hd2.trans hds') ?_ ?_ hk2 (hmf.next hbt) ?_
          · rw [hset]; omega
          · intro k hk
            rw [hkk]
            by_cases h1 : k = i + m
            · simp [h1]
            · rw [hlow' k (by omega)]; rfl
          · intro k h1 h2
            rw [hkk, hhigh' k (by omega) h2]
            simp
            omega
          · show (s2.h ++ List.replicate ops.size AObj.resv).length = _
            simp
          · intro c hc
            show (s2.h ++ List.replicate ops.size AObj.resv)[_]? = _
            rw [List.getElem?_append_right (by omega), Nat.add_sub_cancel_left, List.getElem?_replicate, if_pos hc]
          · intro a3 w3 hp
            exact hQ a3 w3 ((((hp.trans hst3).trans st2).trans hstt).trans hst)
      · have hnil : l.drop m = [] := by rw [hrest]; exact List.drop_eq_nil_of_le (by simpa using hge)
        rw [hnil] at hfin
        have hfin : trimK (H (i + m)) fun h => K f' h := hfin
        rw [← hh'] at hfin
        exact wpAny_done hsz' (fun k hk => hlow' k (by omega)) (hQ _ _ ((trim_post (K := K) hok' hf' ha' hds' hfin).trans hst)) _

theorem drawC_ok {call : CallA} (hm : P.follows .mixedOrders = true) (hT : TbOk P C.tb) (hD : SpecsOk P C.specs) (hcall : CallOk P call) (hdr : (drawOk ops || manyS ops) = true) (hN : ∀ o ∈ ops.toList, dstOk N o = true) {s : St} (hok : Ok s) {f : Tr} {a : Act} (hf : FR s f.get a) (ha : a.tmps.size = N)
    {K : Tr → Hp → Prop} (h : drawC C call ops f s.h K) {Q : Exit → Act → World → Prop} (hQ : ∀ a' w', Post s N a.defers K a' w' → Q .normal a' w') {id : Nat} : (Code.region id ops true).wp P Q a s.w := by
  refine wp_region_any hm ?_
  have hgrew : Grew s.w { s.w with drawn := s.w.drawn + 1 } := ⟨rfl, rfl, rfl, Nat.le_succ _, Nat.le_refl _, fun _ _ => rfl⟩
  have hst := room_step (s := s) ops.size hgrew
  have hfalse : ∀ i, (Array.replicate ops.size false).getD i false = false := fun i => by
    rw [Array.getD_eq_getD_getElem?, Array.getElem?_replicate]
    split <;> rfl
  have hcnt : ∀ m, m ≤ ops.size → cntF (fun i => (Array.replicate ops.size false).getD i false) m = m := by
    intro m
    induction m with
    | zero => intro _; rfl
    | succ m ih =>
      intro hm
      simp only [cntF]
      rw [ih (by omega), hfalse m]
      rfl
  have go : ∀ (K' : Tr → Hp → Prop), barsOk C ops = true → DMode C ops K' f (s.h ++ List.replicate ops.size .resv) s.h.length → (lenK s.h fun b => roomK s.h ops.size fun h => drawGo C call ops b 0 ops.toList f h K') → (∀ a' w', Post s N a.defers K' a' w' → Q .normal a' w') → wpAny P .any ops Q ops.size (Array.replicate ops.size false) a { s.w with drawn := s.w.drawn + 1 } := by
    intro K' hbars hmode h hQ
    simp only [lenK_eq, roomK_eq] at h
    refine drawGo_ok hT hD hcall hN hbars ops.toList.length ops.toList 0 s.h.length f (s.room ops.size { s.w with drawn := s.w.drawn + 1 }) a _ ops.size (Nat.le_refl _) (by simp) (by omega) (by simp) (hcnt _ (Nat.le_refl _)) (fun k hk => by omega) (fun k _ _ => hfalse k) (room_ok hok ops.size hgrew) (hf.step hst) ha rfl ?_ ?_ h hmode ?_
    · show (s.h ++ List.replicate ops.size AObj.resv).length = _
      simp
    · intro c hc
      show (s.h ++ List.replicate ops.size AObj.resv)[_]? = _
      rw [List.getElem?_append_right (by omega), Nat.add_sub_cancel_left, List.getElem?_replicate, if_pos hc]
    · intro a' w' hp
      exact hQ a' w' (hp.trans hst)
  have hnb : hasBar C ops ops.toList = false → barsOk C ops = true := fun hb => by unfold barsOk; rw [hb]
  unfold drawC at h
  split at h
  · split at h
    · rename_i hchk
      rw [Bool.and_eq_true] at hchk
      exact go K hchk.2 (.all hchk.1) h hQ
    · exact h.elim
  · rename_i hb
    split at h
    · rename_i hchk
      exact go K (hnb hb) (.known hb s.h (fun id o hi => ⟨by rw [List.getElem?_append_left (List.getElem?_eq_some_iff.1 hi).1]; exact hi, (List.getElem?_eq_some_iff.1 hi).1⟩) hchk) h hQ
    · split at h
      · rename_i hs
        refine go _ (hnb hb) (.left hb hs ?_) h ?_
        · intro f2 h2 hk
          split at hk
          · rename_i hd; exact hd
          · exact hk.elim
        · intro a' w' hp
          obtain ⟨⟨s2, f2, h1, h2, h3, h4, h5⟩, h6, h7⟩ := hp
          refine hQ a' w' ⟨⟨s2, f2, h1, h2, h3, h4, ?_⟩, h6, h7⟩
          split at h5
          · exact h5
          · exact h5.elim
      · exact h.elim
  · rename_i hst2
    split at h
    · rename_i hchk
      rw [hst2, Bool.or_false] at hdr
      exact go K hchk (.all hdr) h hQ
    · exact h.elim
theorem drawA_ok {call : CallA} (hm : P.follows .mixedOrders = true) (hT : TbOk P C.tb) (hD : SpecsOk P C.specs) (hcall : CallOk P call) (hdr : (drawOk ops || manyS ops) = true) (hN : ∀ o ∈ ops.toList, dstOk N o = true) {s : St} (hok : Ok s) {f : Tr} {a : Act} (hf : FR s f.get a) (ha : a.tmps.size = N)
    {K : Tr → Hp → Prop} (h : drawA C call ops f s.h K) {Q : Exit → Act → World → Prop} (hQ : ∀ a' w', Post s N a.defers K a' w' → Q .normal a' w') {id : Nat} : (Code.region id ops true).wp P Q a s.w := by
  unfold drawA at h
  split at h
  · obtain ⟨nz, hh⟩ := h
    obtain ⟨s1, f1, h1, h2, h3, h4, h5⟩ := normK_ok nz f s _ hok hf hh
    have := drawC_ok hm hT hD hcall hdr hN h2 h3 ha h5 (Q := Q) (fun a' w' hp => hQ a' w' (hp.trans h1)) (id := id)
    rw [h4] at this
    exact this
  · exact drawC_ok hm hT hD hcall hdr hN hok hf ha h hQ
end
end Av
namespace Av
open Go

/-! ### Memory that is let go -/
def St.cut (s : St) (L : Nat) : St := ⟨s.σ, s.h.take L, s.w, s.F⟩
theorem cut_get {s : St} {L id : Nat} {o : AObj} (h : (s.cut L).h[id]? = some o) : s.h[id]? = some o ∧ id < L := by
  have h : (s.h.take L)[id]? = some o := h
  rw [List.getElem?_take] at h
  split at h
  · rename_i hl; exact ⟨h, hl⟩
  · cases h
theorem cut_own {s : St} {L b : Nat} (h : OwnI (s.cut L) b) : OwnI s b := by
  obtain ⟨id, o, h1, h2, h3⟩ := h
  exact ⟨id, o, (cut_get h1).1, h2, h3⟩
theorem cut_Own {s : St} {L b : Nat} (h : ¬ Own s b) : ¬ Own (s.cut L) b := by
  rintro (h1 | h1)
  · exact h (.inl h1)
  · exact h (.inr (cut_own h1))
theorem cut_kn {s : St} {L id : Nat} (h : kn s.h id = true) (hl : id < L) : kn (s.cut L).h id = true := by
  unfold kn at h ⊢
  show (match (s.h.take L)[id]? with | some .resv => false | some _ => true | none => false) = true
  rw [List.getElem?_take, if_pos hl]
  exact h
mutual
theorem R_cut {s : St} {L : Nat} : ∀ (a : AV) (v : Value), R s a v → (∀ id ∈ idsV a, id < L) → R (s.cut L) a v
  | .any, _, _, _ => by simp only [R]
  | .und, v, h, _ => by simpa only [R] using h
  | .bool b, v, h, _ => by simpa only [R] using h
  | .int k n, v, h, _ => by simpa only [R] using h
  | .str x, v, h, _ => by simpa only [R] using h
  | .nilp, v, h, _ => by simpa only [R] using h
  | .nsl, v, h, _ => by simpa only [R] using h
  | .zsl _, v, h, _ => by simpa only [R] using h
  | .nilfn, v, h, _ => by simpa only [R] using h
  | .nili, v, h, _ => by simpa only [R] using h
  | .nilm, v, h, _ => by simpa only [R] using h
  | .oth id, v, h, hl => by
    simp only [R] at h ⊢
    exact ⟨cut_kn h.1 (hl id (by simp [idsV])), h.2.1, fun o ho => h.2.2 o (cut_get ho).1⟩
  | .ptr id off, v, h, hl => by
    simp only [R] at h ⊢
    obtain ⟨h1, b, hv, h2⟩ := h
    exact ⟨cut_kn h1 (hl id (by simp [idsV])), b, hv, fun T cs hc => h2 T cs (cut_get hc).1⟩
  | .optr id g t i off, v, h, hl => by
    simp only [R] at h ⊢
    obtain ⟨h1, b, hv, h2⟩ := h
    exact ⟨cut_kn h1 (hl id (by simp [idsV])), b, hv, fun T t' l f g0 hc => h2 T t' l f g0 (cut_get hc).1⟩
  | .own id g n, v, h, hl => by
    simp only [R] at h ⊢
    obtain ⟨h1, b, cap, hv, h2⟩ := h
    exact ⟨cut_kn h1 (hl id (by simp [idsV])), b, cap, hv, fun T t' l f g0 hc => h2 T t' l f g0 (cut_get hc).1⟩
  | .osl id g lo n, v, h, hl => by
    simp only [R] at h ⊢
    obtain ⟨h1, b, cap, hv, h0, h2⟩ := h
    exact ⟨cut_kn h1 (hl id (by simp [idsV])), b, cap, hv, h0, fun T t' l f g0 hc => h2 T t' l f g0 (cut_get hc).1⟩
  | .tosl id g lo n, v, h, hl => by
    simp only [R] at h ⊢
    obtain ⟨⟨h1, b, cap, hv, h0, h2⟩, ht⟩ := h
    exact ⟨⟨cut_kn h1 (hl id (by simp [idsV])), b, cap, hv, h0, fun T t' l f g0 hc => h2 T t' l f g0 (cut_get hc).1⟩, ht⟩
  | .pv cs, v, h, hl => by
    simp only [R] at h ⊢
    obtain ⟨b, o, hv, hlt, hb, hc⟩ := h
    exact ⟨b, o, hv, hlt, cut_Own hb, RC_cut cs _ hc (fun id hi => hl id (by simpa only [idsV] using hi))⟩
  | .agg cs, v, h, hl => by
    simp only [R] at h ⊢
    obtain ⟨vs, hv, h1, h2⟩ := h
    exact ⟨vs, hv, RL_cut cs vs h1 (fun id hi => hl id (by simpa only [idsV] using hi)), h2⟩
  | .tup cs, v, h, hl => by
    simp only [R] at h ⊢
    obtain ⟨vs, hv, h1⟩ := h
    exact ⟨vs, hv, RL_cut cs vs h1 (fun id hi => hl id (by simpa only [idsV] using hi))⟩
  | .lst t l, v, h, _ => by simp only [R] at h ⊢; exact RLst_pure (s := s) (s2 := s.cut L) rfl (fun b => cut_Own) h
  | .tlst t l, v, h, _ => by simp only [R] at h ⊢; exact ⟨RLst_pure (s := s) (s2 := s.cut L) rfl (fun b => cut_Own) h.1, h.2⟩
  | .fn f a b, v, h, hl => by
    simp only [R] at h ⊢
    obtain ⟨xs, ys, hv, h1, h2⟩ := h
    exact ⟨xs, ys, hv, RL_cut a xs h1 (fun id hi => hl id (by simp only [idsV, List.mem_append]; exact .inl hi)), RL_cut b ys h2 (fun id hi => hl id (by simp only [idsV, List.mem_append]; exact .inr hi))⟩
  | .iface t x, v, h, hl => by
    simp only [R] at h ⊢
    obtain ⟨y, hv, h1⟩ := h
    exact ⟨y, hv, R_cut x y h1 (fun id hi => hl id (by simpa only [idsV] using hi))⟩
theorem RL_cut {s : St} {L : Nat} : ∀ (cs : List AV) (vs : List Value), RL s cs vs → (∀ id ∈ idsVs cs, id < L) → RL (s.cut L) cs vs
  | [], vs, h, _ => by simpa only [RL] using h
  | c :: cs, vs, h, hl => by
    simp only [RL] at h ⊢
    obtain ⟨v, vs', hv, h1, h2⟩ := h
    exact ⟨v, vs', hv, R_cut c v h1 (fun id hi => hl id (by simp only [idsVs, List.mem_append]; exact .inl hi)), RL_cut cs vs' h2 (fun id hi => hl id (by simp only [idsVs, List.mem_append]; exact .inr hi))⟩
theorem RC_cut {s : St} {L : Nat} : ∀ (cs : List AV) (c : Nat → Option Value), RC s cs c → (∀ id ∈ idsVs cs, id < L) → RC (s.cut L) cs c
  | [], _, _, _ => by simp only [RC]
  | x :: cs, c, h, hl => by
    simp only [RC] at h ⊢
    obtain ⟨⟨v, h0, h1, h2⟩, h3⟩ := h
    exact ⟨⟨v, h0, R_cut x v h1 (fun id hi => hl id (by simp only [idsVs, List.mem_append]; exact .inl hi)), h2⟩, RC_cut cs _ h3 (fun id hi => hl id (by simp only [idsVs, List.mem_append]; exact .inr hi))⟩
end
theorem kn_lt {h : Hp} {id : Nat} (hk : kn h id = true) : id < h.length := by
  unfold kn at hk
  rcases Nat.lt_or_ge id h.length with h1 | h1
  · exact h1
  · rw [List.getElem?_eq_none h1] at hk; cases hk
theorem cut_step {s0 s : St} {L : Nat} (h : Step s0 s) (hL : s0.h.length ≤ L) : Step s0 (s.cut L) where
  os := h.os
  tape := h.tape
  output := h.output
  drawn := h.drawn
  size := h.size
  kn := fun id hid => cut_kn (h.kn id hid) (Nat.lt_of_lt_of_le (kn_lt hid) hL)
  keep := fun b hb hn => ⟨fun h1 => (h.keep b hb hn).1 (cut_own h1), (h.keep b hb hn).2⟩
  frn := h.frn
  cells := fun id T cs' hid hc => h.cells id T cs' hid (cut_get hc).1
  oth := fun id o' hid hc => h.oth id o' hid (cut_get hc).1
  arr := fun id T t l' f' g hid hc => h.arr id T t l' f' g hid (cut_get hc).1
theorem cut_ok {s : St} {L : Nat} (hok : Ok s) (hL : ∀ id T cs, id < L → s.h[id]? = some (.cells T cs) → ∀ i ∈ idsVs cs, i < L) : Ok (s.cut L) where
  obj := fun id o hid => by
    obtain ⟨h1, hlt⟩ := cut_get hid
    have ho := hok.obj id o h1
    cases o with
    | resv => trivial
    | dead => trivial
    | oth o =>
      cases o with
      | map bm kt vt l =>
        obtain ⟨e, q1, es, hh, q2, q3, q4⟩ := ho
        exact ⟨e, q1, es, hh, q2, fun i en x hi hx => by obtain ⟨r1, r2, r3⟩ := q3 i en x hi hx; exact ⟨r1, RV_pure (s := s) (s2 := s.cut L) rfl (fun b => cut_Own) vt x.2 _ r2, r3⟩, q4⟩
      | mapD bm kt vt l bs ck =>
        obtain ⟨e, q1, es, hh, q2, q3, q4⟩ := ho
        exact ⟨e, q1, es, hh, q2, fun i en x hi hx => by obtain ⟨r1, r2, r3⟩ := q3 i en x hi hx; exact ⟨r1, RV_pure (s := s) (s2 := s.cut L) rfl (fun b => cut_Own) vt x.2 _ r2, r3⟩, q4⟩
      | iter mid bm n seen => exact ho
    | cells T cs =>
      obtain ⟨b, vs, e, hh, hl, h2⟩ := ho
      exact ⟨b, vs, e, hh, RL_cut cs vs hl (hL id T cs hlt h1), h2⟩
    | arr T t l f g =>
      obtain ⟨xs, hown, h2, hx, hf⟩ := ho
      exact ⟨xs, hown, h2, fun i x hi => RT_pure (s := s) (s2 := s.cut L) rfl (fun b => cut_Own) t x _ (hx i x hi), hf⟩
  inj := fun i j o p b hi hj => hok.inj i j o p b (cut_get hi).1 (cut_get hj).1
  fb := hok.fb
  dis := fun b h => hok.dis b (cut_own h)
theorem cutOk_spec {L : Nat} {vs : List AV} {h : Hp} (hc : cutOk L vs h = true) : (∀ id ∈ idsVs vs, id < L) ∧ ∀ id T cs, id < L → h[id]? = some (.cells T cs) → ∀ i ∈ idsVs cs, i < L := by
  unfold cutOk at hc
  rw [Bool.and_eq_true, List.all_eq_true, List.all_eq_true] at hc
  refine ⟨fun id hid => ?_, fun id T cs hlt hg i hi => ?_⟩
  · have := hc.1 id hid
    simpa using this
  · have hm : AObj.cells T cs ∈ h.take L := by
      have : (h.take L)[id]? = some (.cells T cs) := by rw [List.getElem?_take, if_pos hlt]; exact hg
      exact List.mem_of_getElem? this
    have := hc.2 _ hm
    simp only [List.all_eq_true] at this
    have := this i hi
    simpa using this

/-! ### Slots that are let go, and taken up -/
theorem erase_eq : ∀ (ns : List Nat) (f : Tr) (k : Tr → Prop), eraseK f ns k = k (erase f ns)
  | [], f, k => rfl
  | n :: ns, f, k => by simp only [eraseK, erase, Tr.setK_eq]; exact erase_eq ns _ k
def sets : Tr → List Nat → List AV → Tr
  | f, n :: ns, v :: vs => sets (f.set n v) ns vs
  | f, _, _ => f
theorem sets_eq : ∀ (ns : List Nat) (vs : List AV) (f : Tr) (k : Tr → Prop), setsK f ns vs k = k (sets f ns vs)
  | [], vs, f, k => by cases vs <;> rfl
  | n :: ns, [], f, k => rfl
  | n :: ns, v :: vs, f, k => by simp only [setsK, sets, Tr.setK_eq]; exact sets_eq ns vs _ k
theorem erase_get : ∀ (ns : List Nat) (f : Tr) (t : Nat), (erase f ns).get t = if t ∈ ns then .any else f.get t
  | [], f, t => by simp [erase]
  | n :: ns, f, t => by
    simp only [erase]
    rw [erase_get ns, any_set]
    by_cases h1 : t ∈ ns
    · simp [h1]
    · by_cases h2 : t = n
      · simp [h2]
      · simp [h1, h2]
theorem FR.sets {s : St} {a : Act} : ∀ (cs : List Nat) (vs : List AV) (f : Tr), FR s f.get a → (∀ (i c : Nat) (v : AV), cs[i]? = some c → vs[i]? = some v → R s v (a.tmps.getD c undef)) → FR s (Av.sets f cs vs).get a
  | [], vs, f, h, _ => by cases vs <;> exact h
  | c :: cs, [], f, h, _ => h
  | c :: cs, v :: vs, f, h, hv => by
    simp only [Av.sets]
    exact FR.sets cs vs _ (h.set (hv 0 c v rfl rfl)) (fun i c' v' h1 h2 => hv (i + 1) c' v' (by simpa using h1) (by simpa using h2))
theorem idsVs_mem {cs : List AV} {c : AV} (h : c ∈ cs) {id : Nat} (hi : id ∈ idsV c) : id ∈ idsVs cs := by
  induction cs with
  | nil => cases h
  | cons x xs ih =>
    simp only [idsVs, List.mem_append]
    rcases List.mem_cons.1 h with rfl | h1
    · exact .inl hi
    · exact .inr (ih h1)

theorem viewB_cases (L : Nat) (h : Hp) (v : AV) : viewB L h v = v ∨ ∃ id g n T t, ∃ l : List t.El, ∃ f, v = .own id g n ∧ L ≤ id ∧ h[id]? = some (.arr T t l f g) ∧ viewB L h v = .lst t (l.take n) := by
  unfold viewB
  split
  · rename_i id g n
    split
    · rename_i T t l f g' hle ho
      split
      · rename_i hg
        exact .inr ⟨id, g, n, T, t, l, f, rfl, Nat.le_of_ble_eq_true hle, by rw [ho, Nat.eq_of_beq_eq_true hg], rfl⟩
      · exact .inl rfl
    · exact .inl rfl
  · exact .inl rfl
theorem viewB_R {s : St} (hok : Ok s) {L : Nat} {v : AV} {c : Value} (h : R s v c) (hl : ∀ id ∈ idsV (viewB L s.h v), id < L) : R (s.cut L) (viewB L s.h v) c := by
  rcases viewB_cases L s.h v with e | ⟨id, g, n, T, t, l, f, rfl, hLid, ho, e⟩
  · rw [e] at hl ⊢
    exact R_cut v c h hl
  · rw [e]
    simp only [R] at h
    obtain ⟨_, base, cap, rfl, hr⟩ := h
    obtain ⟨_, hr2⟩ := hr T t l f g ho
    obtain ⟨hn, len, hσ⟩ := hr2 rfl
    obtain ⟨_, hcap, hb⟩ := own_RC hok ho hσ
    have key := own_view hok (F := Own (s.cut L)) (fun b hb => by
        rcases hb with h1 | h1
        · exact .inl h1
        · exact .inr (cut_own h1)) (id := id) (fun b hbk hF => by
        rcases hF with h1 | ⟨j, o, h1, h2, h3⟩
        · exact hok.dis b ⟨id, _, ho, rfl, hbk⟩ h1
        · obtain ⟨h4, h5⟩ := cut_get h1
          have := hok.inj id j _ _ b ho h4 rfl h2 hbk h3
          omega) ho (lo := 0) (n := n) (ad := base) (cap' := cap) hσ (by omega) (by omega) (fun hpos => by
        have hl0 : l ≠ [] := by rintro rfl; simp at hn; omega
        obtain ⟨b, hb, _⟩ := hb hl0
        exact ⟨b, hb, by rw [hb, Nat.zero_mul]⟩)
    rw [List.drop_zero] at key
    simp only [R]
    exact RLst_pure (s := s.callee (Own (s.cut L))) (s2 := s.cut L) rfl (fun b hb h => hb (callee_own.2 h)) key
end Av
namespace Av
open Go

/-! ### Code in a round -/
section
variable {P : Program} {r n : Nat}
theorem rows_in {row : String} {args : Array Value} {w : World} {R : Value → World → Prop} (h : Rows P row args w R) : RowsIn (Fence.wide.inRound r) n P row args w R :=
  fun c cs _ => let ⟨v, w', hr, hs⟩ := h c cs; ⟨v, w', hr, stepsIn_wide.2 hs⟩
theorem calls_in {f : FuncId} {args : Array Value} {w : World} {R : Ending → World → Prop} (h : Calls P f args w R) : CallsIn (Fence.wide.inRound r) n P f args w R := callsIn_wide.2 h
theorem oper_in {o : Oper} (hd : ∀ c, o.op ≠ .defer c) {a : Act} {w : World} {K K' : Act → World → Prop} {Q : Exit → Act → World → Prop} (hK : ∀ a w, K a w → K' a w) (h : o.wp P a w K Q) : o.wpIn (Fence.wide.inRound r) n P a w K' Q := by
  unfold Oper.wpIn
  unfold Oper.wp at h
  refine ⟨fun _ _ => trivial, ?_⟩
  rw [Oper.semAt_eq _ _ _ hd]
  generalize (execOp a.eval o).run P w = x at h ⊢
  unfold Oper.upon at h
  unfold Oper.uponIn
  split at h
  · exact hK _ _ h
  · exact hK _ _ h
  · exact hK _ _ h
  · refine ⟨(fun e => by cases e), calls_in (Calls.mono h ?_)⟩
    intro e w' he
    cases e with
    | returned v => exact hK _ _ he
    | panicked chain => exact he
    | outgrown => exact he
  · refine ⟨(fun e => by cases e), rows_in (Rows.mono h fun v w' he => hK _ _ he)⟩
  · exact h
  · exact h.elim
theorem list_in {ops : Array Oper} {Q : Exit → Act → World → Prop} (hQ : ¬ LetsOut Q) : ∀ (l : List Oper), (∀ o ∈ l, ∀ c, o.op ≠ .defer c) → ∀ a w, wpList P ops Q l a w → wpListIn (Fence.wide.inRound r) n P ops Q l a w
  | [], _, a, w, h => h
  | o :: l, hd, a, w, h => by
    have ih : ∀ a w, wpList P ops Q l a w → wpListIn (Fence.wide.inRound r) n P ops Q l a w := list_in hQ l (fun o ho => hd o (List.mem_cons_of_mem _ ho))
    unfold wpList at h
    unfold wpListIn
    split at h
    · rename_i hw
      rw [if_pos hw]
      rcases h with h | ⟨_, h⟩
      · exact oper_in (hd o List.mem_cons_self) ih h
      · exact (hQ h).elim
    · rename_i hw
      rw [if_neg hw]
      exact ⟨fun _ _ => trivial, ih _ _ h⟩
theorem lastD_none : ∀ (l : List Oper), (∀ o ∈ l, ∀ c, o.op ≠ .defer c) → lastD l = none
  | [], _ => rfl
  | [o], h => by
    show (match o.op with | .defer _ => some ([], o) | _ => none) = none
    split
    · rename_i c hc; exact absurd hc (h o List.mem_cons_self c)
    · rfl
  | o :: o' :: l, h => by
    have := lastD_none (o' :: l) (fun x hx => h x (List.mem_cons_of_mem _ hx))
    show (match lastD (o' :: l) with | some (p, d) => some (o :: p, d) | none => none) = none
    rw [this]
theorem lastD_app : ∀ (l p : List Oper) (o : Oper), lastD l = some (p, o) → l = p ++ [o]
  | [], p, o, h => by cases h
  | [x], p, o, h => by
    have h : (match x.op with | .defer _ => some (([] : List Oper), x) | _ => none) = some (p, o) := h
    split at h
    · cases h; rfl
    · cases h
  | x :: x' :: l, p, o, h => by
    have h : (match lastD (x' :: l) with | some (p, d) => some (x :: p, d) | none => none) = some (p, o) := h
    split at h
    · rename_i p' d' hp
      cases h
      have := lastD_app (x' :: l) p' o hp
      rw [this]; rfl
    · cases h
/-- How code in a round may end. -/
def PostR (s : St) (N : Nat) (ds : List Deferred) (K : Tr → Hp → Prop) (X : Nat → Tr → Hp → Prop) (Rt : Tr → Hp → Prop) : Exit → Act → World → Prop
  | .normal, a, w => Post s N ds K a w
  | .exit i, a, w => Post s N ds (X i) a w
  | .ret, a, w => Post s N ds Rt a w
  | _, _, _ => False
theorem PostR.out {s : St} {N : Nat} {ds : List Deferred} {K : Tr → Hp → Prop} {X : Nat → Tr → Hp → Prop} {Rt : Tr → Hp → Prop} : ¬ LetsOut (PostR s N ds K X Rt) := fun ⟨_, _, h⟩ => h
theorem codeR_ok {C : Cx} (hT : TbOk P C.tb) (hD : SpecsOk P C.specs) {call : CallA} (hcall : CallOk P call) {N : Nat} :
    ∀ (c : Code), okCode N c = true → plainR c = true → ∀ (K : Tr → Hp → Prop) (X : Nat → Tr → Hp → Prop) (Rt : Tr → Hp → Prop) (f : Tr) (s : St) (a : Act), Ok s → FR s f.get a → a.tmps.size = N →
      codeA C call c K X Rt f s.h → c.wpIn (Fence.wide.inRound r) n P (PostR s N a.defers K X Rt) a s.w
  | .skip, _, _, K, X, Rt, f, s, a, hok, hf, hN, h => wpIn_skip ⟨⟨s, f, rfl, Step.refl s, hok, hf, h⟩, rfl, hN⟩
  | .region id ops d, hs, hd, K, X, Rt, f, s, a, hok, hf, hN, h => by
    have hops : ∀ o ∈ ops.toList, dstOk N o = true := by
      unfold okCode at hs
      exact List.all_eq_true.1 hs
    simp only [plainR, Bool.and_eq_true, Bool.not_eq_true'] at hd
    obtain ⟨hd1, hd2⟩ := hd
    subst hd1
    have hdf : ∀ o ∈ ops.toList, ∀ c, o.op ≠ .defer c := by
      intro o ho c e
      have := List.all_eq_true.1 hd2 o ho
      rw [e] at this
      cases this
    have hla : lastD ops.toList = none := lastD_none ops.toList hdf
    rw [codeA_reg, hla] at h
    exact wpIn_region_list (list_in PostR.out ops.toList hdf _ _ (opsA_ok hT hD hcall hops (Q := PostR s N a.defers K X Rt) ops.toList hops s f a K hok hf hN h (fun a' w' hp => hp)))
  | .seq x y, hs, hd, K, X, Rt, f, s, a, hok, hf, hN, h => by
    simp only [okCode, plainR, Bool.and_eq_true] at hs hd
    refine wpIn_seq (wpIn_mono (codeR_ok hT hD hcall x hs.1 hd.1 _ X Rt f s a hok hf hN h) ?_)
    intro e a' w' hq
    cases e with
    | normal =>
      obtain ⟨⟨s2, f2, h1, h2, h3, h4, h5⟩, h6, h7⟩ := hq
      subst h1
      refine wpIn_mono (codeR_ok hT hD hcall y hs.2 hd.2 K X Rt f2 s2 a' h3 h4 h7 h5) ?_
      intro e a2 w2 hq2
      rw [h6] at hq2
      cases e with
      | normal => exact Post.trans h2 hq2
      | exit i => exact Post.trans h2 hq2
      | ret => exact Post.trans h2 hq2
      | goto l => exact hq2
      | panic ch => exact hq2
      | outgrown => exact hq2
    | exit i => exact hq
    | ret => exact hq
    | goto l => exact hq
    | panic ch => exact hq
    | outgrown => exact hq
  | .cond c x y, hs, hd, K, X, Rt, f, s, a, hok, hf, hN, h => by
    simp only [okCode, plainR, Bool.and_eq_true] at hs hd
    rw [codeA_cond] at h
    split at h
    · rename_i t ht
      have hr := ev_R hf c
      rw [ht] at hr
      simp only [R] at hr
      rcases br_elim h with ⟨rfl, hk⟩ | ⟨rfl, hk⟩
      · exact wpIn_cond_true hr (codeR_ok hT hD hcall x hs.1 hd.1 K X Rt f s a hok hf hN hk)
      · exact wpIn_cond_false hr (codeR_ok hT hD hcall y hs.2 hd.2 K X Rt f s a hok hf hN hk)
    · exact h.elim
  | .block id c, hs, hd, K, X, Rt, f, s, a, hok, hf, hN, h => by
    simp only [okCode, plainR] at hs hd
    rw [codeA_block] at h
    refine wpIn_block (wpIn_mono (codeR_ok hT hD hcall c hs hd K _ Rt f s a hok hf hN h) ?_)
    intro e a' w' hq
    cases e with
    | normal => exact hq
    | exit i =>
      simp only [Exit.inBlock]
      have hw : ∀ {K K' : Tr → Hp → Prop}, (∀ f h, K f h → K' f h) → Post s N a.defers K a' w' → Post s N a.defers K' a' w' := by
        rintro K K' hk ⟨⟨s2, f, h1, h2, h3, h4, h5⟩, h6, h7⟩
        exact ⟨⟨s2, f, h1, h2, h3, h4, hk _ _ h5⟩, h6, h7⟩
      by_cases hi : i = id
      · rw [if_pos hi]
        refine hw (fun f h hk => ?_) hq
        subst hi
        simpa using hk
      · rw [if_neg hi]
        refine hw (fun f h hk => ?_) hq
        have hb : Nat.beq i id = false := by
          cases hb : Nat.beq i id with
          | true => exact absurd (Nat.eq_of_beq_eq_true hb) hi
          | false => rfl
        have hk : (match Nat.beq i id with | true => K | false => X i) f h := hk
        rw [hb] at hk
        exact hk
    | ret => exact hq
    | goto l => exact hq
    | panic ch => exact hq
    | outgrown => exact hq
  | .exit id, _, _, K, X, Rt, f, s, a, hok, hf, hN, h => wpIn_exit (show Post s N a.defers (X id) a s.w from ⟨⟨s, f, rfl, Step.refl s, hok, hf, h⟩, rfl, hN⟩)
  | .ret, _, _, K, X, Rt, f, s, a, hok, hf, hN, h => wpIn_ret (show Post s N a.defers Rt a s.w from ⟨⟨s, f, rfl, Step.refl s, hok, hf, h⟩, rfl, hN⟩)
  | .loop _, _, hd, _, _, _, _, _, _, _, _, _, _ => by cases hd
  | .scope _, _, hd, _, _, _, _, _, _, _, _, _, _ => by cases hd
  | .label _, _, hd, _, _, _, _, _, _, _, _, _, _ => by cases hd
  | .rangeFunc .., _, hd, _, _, _, _, _, _, _, _, _, _ => by cases hd
  | .goto _, _, hd, _, _, _, _, _, _, _, _, _, _ => by cases hd
  | .refuse _, _, hd, _, _, _, _, _, _, _, _, _, _ => by cases hd
end

/-! ### Blocks that a loop has laid for itself -/
/-- A block of nobody's, which holds no cells. -/
structure Book (s : St) (b : Nat) (o : Obj) : Prop where
  at_ : s.w.heap[b]? = some o
  non : o.isCells = false
  own : ¬ Own s b
theorem Book.lt {s : St} {b : Nat} {o : Obj} (h : Book s b o) : b < s.w.heap.size := (Array.getElem?_eq_some_iff.1 h.at_).1
theorem Book.step {s s' : St} {b : Nat} {o : Obj} (h : Book s b o) (hst : Step s s') : Book s' b o :=
  ⟨(hst.keep b h.lt (fun k => h.own (.inr k))).2.trans h.at_, h.non, hst.ro h.lt h.own⟩
theorem Book.cut {s : St} {b : Nat} {o : Obj} (h : Book s b o) (L : Nat) : Book (s.cut L) b o := ⟨h.at_, h.non, cut_Own h.own⟩
theorem noncell {w : World} {b : Nat} {o : Obj} (h : w.heap[b]? = some o) (hn : o.isCells = false) {i : Nat} {v : Value} : w.cell? ⟨b, i, none⟩ ≠ some v := by
  intro hc
  obtain ⟨o', ho', hc'⟩ := cells_of_cell hc
  have ho' : w.heap[b]? = some o' := ho'
  rw [h] at ho'
  cases ho'
  rw [hn] at hc'
  cases hc'
theorem book_sim {s : St} {b : Nat} {o o' : Obj} (h : Book s b o) : Sim s (s.world (s.w.putObj b o')) where
  size := by show s.w.heap.size ≤ (s.w.putObj b o').heap.size; simp
  kn := fun _ h => h
  ro := fun _ hn => hn
  cell := fun {x} hn {i v} hc => by
    have hne : x ≠ b := by rintro rfl; exact noncell h.at_ h.non hc
    have e : (s.w.putObj b o').heap[x]? = s.w.heap[x]? := World.putObj_heap_other hne
    show (s.w.putObj b o').cell? ⟨x, i, none⟩ = some v
    rw [World.cell?_of_block (w := s.w) (a := ⟨x, i, none⟩) e]
    exact hc
  cells := fun _ _ cs _ h => ⟨rfl, cs, h⟩
  oth := fun _ o _ h => ⟨rfl, o, h⟩
  arr := fun _ _ _ l f g _ h => ⟨l, f, g, h, Nat.le_refl _, fun _ => ⟨rfl, rfl⟩⟩
theorem book_ok {s : St} (hok : Ok s) {b : Nat} {o o' : Obj} (h : Book s b o) : Ok (s.world (s.w.putObj b o')) where
  obj := fun id ob hid => by
    cases ha : ob.alive with
    | false => cases ob <;> first | trivial | cases ha
    | true =>
      refine ObjR_sim (book_sim h) rfl (fun x hx => World.putObj_heap_other ?_) (hok.obj id ob hid)
      rintro rfl
      exact h.own (.inr ⟨id, ob, hid, ha, hx⟩)
  inj := hok.inj
  fb := fun x hx => by
    show x < (s.w.putObj b o').heap.size
    have := hok.fb x hx
    simpa using this
  dis := hok.dis
theorem book_step {s0 s : St} (hst : Step s0 s) {b : Nat} {o o' : Obj} (h : Book s b o) (hb : s0.w.heap.size ≤ b) : Step s0 (s.world (s.w.putObj b o')) where
  os := hst.os
  tape := hst.tape
  output := hst.output
  drawn := hst.drawn
  size := by show s0.w.heap.size ≤ (s.w.putObj b o').heap.size; simpa using hst.size
  kn := hst.kn
  keep := fun x hx hn => by
    obtain ⟨h1, h2⟩ := hst.keep x hx hn
    exact ⟨h1, (World.putObj_heap_other (by omega)).trans h2⟩
  frn := hst.frn
  cells := hst.cells
  oth := hst.oth
  arr := hst.arr
theorem book_put {s : St} {b : Nat} {o o' : Obj} (h : Book s b o) (hn : o'.isCells = false) : Book (s.world (s.w.putObj b o')) b o' := ⟨World.putObj_heap_same h.lt, hn, h.own⟩
theorem book_other {s : St} {b x : Nat} {o u : Obj} (h : Book s b o) (hne : b ≠ x) : Book (s.world (s.w.putObj x u)) b o := ⟨(World.putObj_heap_other hne).trans h.at_, h.non, h.own⟩

/-! ### Marks among the deferred calls -/
/-- The mark of a loop, whose rounds have put nothing off. -/
def MkC (B : Nat) (s : St) (d : Deferred) : Prop := ∃ D, d = { target := .collected D, args := #[] } ∧ B ≤ D ∧ Book s D (.deferred (some []))
/-- A map that is to be cleared. -/
def MkM (P : Program) (s : St) (d : Deferred) : Prop := ∃ (id bm : Nat) (T ty : TypeId) (ks : Array Bool) (u : TypeDesc), d = { target := .builtin .clear #[T] ty ks, args := #[.map (some bm)] } ∧ P.underlying T = some u ∧ R s (.oth id) (.map (some bm)) ∧ ((∃ o, s.h[id]? = some (.oth o)) ∨ s.h[id]? = some .dead)
structure Mks (P : Program) (b : Bool) (B : Nat) (s : St) (ms : List Deferred) : Prop where
  each : ∀ d ∈ ms, MkC B s d ∨ (b = true ∧ MkM P s d)
  nd : (ms.filter fun d => match d.target with | .collected _ => true | _ => false).Nodup
section
variable {P : Program} {b : Bool}
theorem Mks.nil (B : Nat) (s : St) : Mks P b B s [] := ⟨by simp, List.nodup_nil⟩
theorem Mks.cut {B : Nat} {s : St} {ms : List Deferred} (h : Mks P false B s ms) (L : Nat) : Mks P false B (s.cut L) ms :=
  ⟨fun d hd => (h.each d hd).elim (fun ⟨D, h1, h2, h3⟩ => .inl ⟨D, h1, h2, h3.cut L⟩) (fun h1 => by cases h1.1), h.nd⟩
theorem MkM.step {s s' : St} {d : Deferred} (h : MkM P s d) (hst : Step s s') : MkM P s' d := by
  obtain ⟨id, bm, T, ty, ks, u, h1, h2, h3, h4⟩ := h
  refine ⟨id, bm, T, ty, ks, u, h1, h2, R_mono hst _ _ h3, ?_⟩
  simp only [R] at h3
  have hk := hst.kn id h3.1
  unfold kn at hk
  cases ho : s'.h[id]? with
  | none => rw [ho] at hk; cases hk
  | some o =>
    cases o with
    | resv => rw [ho] at hk; cases hk
    | dead => exact .inr rfl
    | oth o => exact .inl ⟨o, rfl⟩
    | cells T cs =>
      obtain ⟨_, cs0, h5⟩ := hst.cells id T cs h3.1 ho
      rcases h4 with ⟨o, h4⟩ | h4 <;> rw [h4] at h5 <;> cases h5
    | arr T t l f g =>
      obtain ⟨_, _, _, h5, _⟩ := hst.arr id T t l f g h3.1 ho
      rcases h4 with ⟨o, h4⟩ | h4 <;> rw [h4] at h5 <;> cases h5
theorem Mks.step {B : Nat} {s s' : St} {ms : List Deferred} (h : Mks P b B s ms) (hst : Step s s') : Mks P b B s' ms :=
  ⟨fun d hd => by
    rcases h.each d hd with ⟨D, h1, h2, h3⟩ | ⟨h1, h2⟩
    · exact .inl ⟨D, h1, h2, h3.step hst⟩
    · exact .inr ⟨h1, h2.step hst⟩, h.nd⟩
theorem Mks.app {B : Nat} {s s' : St} {ms ms' : List Deferred} (h : Mks P b B s ms) (hst : Step s s') (hB : B ≤ s.w.heap.size) (h' : Mks P b s.w.heap.size s' ms') : Mks P b B s' (ms' ++ ms) := by
  refine ⟨fun d hd => ?_, ?_⟩
  · rcases List.mem_append.1 hd with hd | hd
    · rcases h'.each d hd with ⟨D, h1, h2, h3⟩ | h1
      · exact .inl ⟨D, h1, Nat.le_trans hB h2, h3⟩
      · exact .inr h1
    · exact (h.step hst).each d hd
  · rw [List.filter_append]
    refine List.nodup_append.2 ⟨h'.nd, h.nd, fun d hd d' hd' => ?_⟩
    rintro rfl
    obtain ⟨hd, hc⟩ := List.mem_filter.1 hd
    obtain ⟨hd', _⟩ := List.mem_filter.1 hd'
    rcases h'.each d hd with ⟨D, h1, h2, _⟩ | ⟨_, id, bm, T, ty, ks, u, h1, _⟩
    · rcases h.each d hd' with ⟨D', h1', _, h3'⟩ | ⟨_, id, bm, T, ty, ks, u, h1', _⟩
      · rw [h1] at h1'
        have e : D = D' := by injection h1' with e1 _; injection e1
        have := h3'.lt
        omega
      · rw [h1] at h1'; injection h1' with e1 _; cases e1
    · rw [h1] at hc; cases hc
theorem Mks.up {B : Nat} {s : St} {ms : List Deferred} (h : Mks P false B s ms) : Mks P b B s ms :=
  ⟨fun d hd => (h.each d hd).elim .inl (fun h1 => by cases h1.1), h.nd⟩
/-- What is known behind a piece of code that may have looped over iterators, and put something off. -/
structure PostM (P : Program) (b : Bool) (s : St) (N : Nat) (ds : List Deferred) (K : Tr → Hp → Prop) (a : Act) (w : World) : Prop where
  get : ∃ s' f ms, s'.w = w ∧ Step s s' ∧ Ok s' ∧ FR s' f.get a ∧ K f s'.h ∧ a.defers = ms ++ ds ∧ Mks P b s.w.heap.size s' ms
  size : a.tmps.size = N
theorem Post.m {s : St} {N : Nat} {ds : List Deferred} {K : Tr → Hp → Prop} {a : Act} {w : World} (h : Post s N ds K a w) : PostM P b s N ds K a w := by
  obtain ⟨⟨s2, f, h1, h2, h3, h4, h5⟩, h6, h7⟩ := h
  exact ⟨⟨s2, f, [], h1, h2, h3, h4, h5, by simpa using h6, Mks.nil _ _⟩, h7⟩
theorem PostM.trans {s s' : St} {N : Nat} {ds ms : List Deferred} {K : Tr → Hp → Prop} {a : Act} {w : World} (hst : Step s s') (hm : Mks P b s.w.heap.size s' ms) (h : PostM P b s' N (ms ++ ds) K a w) : PostM P b s N ds K a w := by
  obtain ⟨⟨s2, f, ms2, h1, h2, h3, h4, h5, h6, h7⟩, h8⟩ := h
  exact ⟨⟨s2, f, ms2 ++ ms, h1, hst.trans h2, h3, h4, h5, by rw [h6, List.append_assoc], hm.app h2 hst.size h7⟩, h8⟩
theorem PostM.weaken {s : St} {N : Nat} {ds : List Deferred} {K K' : Tr → Hp → Prop} {a : Act} {w : World} (h : PostM P b s N ds K a w) (hk : ∀ f h, K f h → K' f h) : PostM P b s N ds K' a w := by
  obtain ⟨⟨s2, f, ms, h1, h2, h3, h4, h5, h6⟩, h7⟩ := h
  exact ⟨⟨s2, f, ms, h1, h2, h3, h4, hk _ _ h5, h6⟩, h7⟩
theorem PostM.up {s : St} {N : Nat} {ds : List Deferred} {K : Tr → Hp → Prop} {a : Act} {w : World} (h : PostM P false s N ds K a w) : PostM P b s N ds K a w := by
  obtain ⟨⟨s2, f, ms, h1, h2, h3, h4, h5, h6, h7⟩, h8⟩ := h
  exact ⟨⟨s2, f, ms, h1, h2, h3, h4, h5, h6, h7.up⟩, h8⟩
/-- A region's operations, and one behind them. -/
theorem wpList_snoc {ops : Array Oper} {Q Q' : Exit → Act → World → Prop} {o : Oper} (hQ : ∀ e a w, e ≠ .normal → Q' e a w → Q e a w) (hn : ∀ a w, Q' .normal a w → wpList P ops Q [o] a w) : ∀ (l : List Oper) (a : Act) (w : World), wpList P ops Q' l a w → wpList P ops Q (l ++ [o]) a w
  | [], a, w, h => hn a w h
  | x :: l, a, w, h => by
    have ih := wpList_snoc hQ hn l
    show wpList P ops Q (x :: (l ++ [o])) a w
    unfold wpList at h ⊢
    split at h
    · rename_i hw
      rw [if_pos hw]
      rcases h with h | ⟨h1, a2, w2, h2⟩
      · left
        unfold Oper.wp at h ⊢
        generalize (execOp a.eval x).run P w = y at h ⊢
        unfold Oper.upon at h ⊢
        split at h
        · exact ih _ _ h
        · exact ih _ _ h
        · exact ih _ _ h
        · refine Calls.mono h fun e w' he => ?_
          cases e with
          | returned v => exact ih _ _ he
          | panicked chain => exact hQ _ _ _ (by simp) he
          | outgrown =>
            obtain ⟨a2, w2, h2⟩ := he
            exact ⟨a2, w2, hQ _ _ _ (by simp) h2⟩
        · exact Rows.mono h fun v w' he => ih _ _ he
        · exact hQ _ _ _ (by simp) h
        · exact h.elim
      · exact .inr ⟨h1, a2, w2, hQ _ _ _ (by simp) h2⟩
    · rename_i hw
      rw [if_neg hw]
      exact ih _ _ h
end
end Av
