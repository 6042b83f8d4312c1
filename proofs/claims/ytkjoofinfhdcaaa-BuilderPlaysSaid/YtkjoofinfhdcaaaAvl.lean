/-
  An abstract reading of values and memory: a region whose order is drawn does what is reckoned, whatever the order.
-/
import Derived.Test.YtkjoofinfhdcaaaAvk
namespace Av
open Go

structure DInv (sg : Nat → Bool) (ops : Array Oper) (base : Nat) (G : Nat → Nat → AV) (H : Nat → Hp) (B : Nat → Option AObj) (prt : Prt) (N : Nat) (ds : List Deferred) (S : Nat → Bool) (s : St) (a : Act) : Prop where
 hp : s.h = (List.range (base + ops.size)).map fun id => FW (wH sg ops base G B id) (tau H prt id) ((H 0).getD id .dead) S ops.size
 fr : ∀ t, R s (LW (wF sg ops t) (fun i => G (i + 1) t) (G 0 t) S ops.size) (a.tmps.getD t undef)
 ok : Ok s
 size : a.tmps.size = N
 dfr : a.defers = ds
 cl : ∀ j o e, S j = true → ops[j]? = some o → e ∈ o.after.toList → Region.binds .any e = true → S e.on = true
 mkd : ∀ k c, k < ops.size → c < ops.size → S k = true → wH sg ops base G B (base + c) k = true → S c = true
section
variable {P : Program} {sg : Nat → Bool} {C : Cx} {ops : Array Oper} {base : Nat} {G : Nat → Nat → AV} {H : Nat → Hp} {V : Nat → AV} {B : Nat → Option AObj} {E : Nat → Bool} {prt : Prt} {N : Nat} {ds : List Deferred} {S : Nat → Bool} {s : St} {a : Act}
theorem DInv.get (I : DInv sg ops base G H B prt N ds S s a) {id : Nat} (hid : id < base + ops.size) : s.h[id]? = some (FW (wH sg ops base G B id) (tau H prt id) ((H 0).getD id .dead) S ops.size) := by
 rw [I.hp, List.getElem?_map, List.getElem?_range hid]
 rfl
theorem DInv.len (I : DInv sg ops base G H B prt N ds S s a) : s.h.length = base + ops.size := by rw [I.hp]; simp
theorem DInv.known (I : DInv sg ops base G H B prt N ds S s a) (T : Trc sg C ops base G H V B E) {c : Nat} (hc : c < ops.size) (hk : kn s.h (base + c) = true) : S c = true := by
 unfold kn at hk
 rw [I.get (by omega)] at hk
 have h0 : (H 0).getD (base + c) .dead = .resv := by rw [List.getD_eq_getElem?_getD, T.rsv c hc]; rfl
 have hne : FW (wH sg ops base G B (base + c)) (tau H prt (base + c)) ((H 0).getD (base + c) .dead) S ops.size ≠ (H 0).getD (base + c) .dead := by
  intro e
  rw [e, h0] at hk
  cases hk
 obtain ⟨k, h1, h2, h3⟩ := FW_some hne
 exact I.mkd k c h1 hc h3 h2
theorem wH_sg {id k : Nat} (h : wH sg ops base G B id k = true) : sg k = true := by
 unfold wH at h
 split at h
 ·assumption
 ·cases h
theorem wH_iff {id k : Nat} {o : Oper} (ho : ops[k]? = some o) (h : wH sg ops base G B id k = true) : ∃ ob, B k = some ob ∧ posR (base + k) (ev (G k)) o = id := by
 have hs := wH_sg h
 unfold wH at h
 rw [ho, hs] at h
 simp only [Bool.and_eq_true, decide_eq_true_eq] at h
 obtain ⟨ob, hb⟩ := Option.isSome_iff_exists.1 h.1
 exact ⟨ob, hb, h.2⟩
theorem wF_sg {t k : Nat} (h : wF sg ops t k = true) : sg k = true := by
 unfold wF at h
 split at h
 ·assumption
 ·cases h
theorem wF_iff {t k : Nat} {o : Oper} (ho : ops[k]? = some o) (h : wF sg ops t k = true) : o.dst = some t := by
 have hs := wF_sg h
 unfold wF at h
 rw [ho, hs] at h
 exact of_decide_eq_true h

theorem DInv.next (hT : TbOk P C.tb) (hD : SpecsOk P C.specs) (T : Trc sg C ops base G H V B E) {mc : Oper → Oper → Bool} (hcf : ∀ i j x o, ops[i]? = some x → ops[j]? = some o → i < j → confM mc ops x o = true → Bef ops i j) (hprt : PRok C ops sg base G H V B E prt) (hmc : MCok mc ops sg base G H B prt) (hN : ∀ o ∈ ops.toList, dstOk N o = true) (I : DInv sg ops base G H B prt N ds S s a) {j : Nat} {o : Oper} (ho : ops[j]? = some o) (hsj : sg j = true) (hj : S j = false)
  (hr : ∀ e ∈ o.after.toList, Region.binds .any e = true → S e.on = true) {K : Act → World → Prop} {Q : Exit → Act → World → Prop}
  (hK : ∀ s' a', Step s s' → DInv sg ops base G H B prt N ds (fun i => S i || decide (i = j)) s' a' → K a' s'.w) : wpOp P ops Q j K a s.w := by
 have hjlt := ops_lt ho
 have tk := T.tk j o ho hsj
 have hmem : o ∈ ops.toList := by
  obtain ⟨hl, he⟩ := Array.getElem?_eq_some_iff.1 ho
  rw [← he]
  exact Array.mem_toList_iff.2 (Array.getElem_mem hl)
 -- slots that the operation names stand as in the text
 have slot : ∀ t, t ∈ namesO ops o → LW (wF sg ops t) (fun i => G (i + 1) t) (G 0 t) S ops.size = G j t := by
  intro t ht
  rw [LW_text hj ops.size (by omega) (fun i hi hw => by
   obtain ⟨x, hx⟩ := ops_get hi
   exact ord I.cl hcf ho hj hr hx (conf_slot (wF_iff hx hw) ht)), ← T.fget t j (by omega)]
 have hfs : ∀ t, t ∈ namesO ops o → R s (G j t) (a.tmps.getD t undef) := fun t ht => by rw [← slot t ht]; exact I.fr t
 have opnd : ∀ x ∈ o.op.operands, ev (fun t => LW (wF sg ops t) (fun i => G (i + 1) t) (G 0 t) S ops.size) x = ev (G j) x := by
  intro x hx
  cases x with
  | tmp t =>
   refine slot t ?_
   unfold namesO
   refine List.mem_append_right _ (List.mem_append_left _ (List.mem_filterMap.2 ⟨.tmp t, Array.mem_toList_iff.2 hx, rfl⟩))
  | const v => rfl
  | func f => rfl
  | global g => rfl
 have hρ : ∀ x, R s (ev (fun t => LW (wF sg ops t) (fun i => G (i + 1) t) (G 0 t) S ops.size) x) (a.eval x) := by
  intro x
  cases x with
  | tmp t => exact I.fr t
  | const v => exact avOf_R s v
  | func f => simp only [ev, Act.eval, R, RL]; exact ⟨[], [], rfl, rfl, rfl⟩
  | global g => simp only [ev, R]
 obtain ⟨hcg, hpg⟩ := opRd_congr (C := C) (ops := ops) (h := maskH o (ev (G j)) (H j)) (nid := base + j) opnd
 -- memory that the operation looks at stands as in the text
 have memr : prt j = none → E j = true → ∀ (id : Nat) (ob : AObj), (maskH o (ev (G j)) (H j))[id]? = some ob → ob.alive = true → s.h[id]? = some ob := by
  intro hpn hEj id ob hm ha
  obtain ⟨hmt, hHj, ⟨x, hx0, hxi0⟩, _⟩ := maskH_get hm ha
  have hx := looks_sub hx0
  have hlow := idsM_low hx0 hxi0 (tk.raw hEj)
  have hidlt : id < base + ops.size := by rw [← T.lenk j (by omega)]; exact (List.getElem?_eq_some_iff.1 hHj).1
  have hkn : base ≤ id → kn s.h id = true := fun hge => by
   have := hρ x
   rw [opnd x hx] at this
   exact ids_kn _ _ id this (hlow.resolve_right (by omega))
  rw [I.get hidlt]
  have htext := T.hget hprt id j (by omega)
  rw [FW_text hj ops.size (by omega) (fun i hi hw => by
   obtain ⟨y, hy⟩ := ops_get hi
   obtain ⟨ob', hb', hp'⟩ := wH_iff hy hw
   rcases (T.tk i y hy (wH_sg hw)).posc hb' with h1 | ⟨h1, _⟩
   ·constructor
    ·intro _
     have : id = base + i := by omega
     subst this
     exact I.known T hi (hkn (by omega))
    ·intro hji
     have : id = base + i := by omega
     subst this
     have := T.made j (by omega) i hi ob hHj ha
     omega
   ·rcases hmc i j y o id (wH_sg hw) hy ho ⟨ob', hb'⟩ hp' h1 ⟨ob, hm, ha⟩ with h2 | ⟨_, _, _, h2, _⟩
    ·exact ord I.cl hcf ho hj hr hy (conf_mem h1 hmt h2)
    ·rw [hpn] at h2; cases h2), ← htext]
  rw [List.getD_eq_getElem?_getD, hHj]
  rfl
 -- a block that the operation turns is known
 have turned : ∀ (c : Nat) (ob : AObj), c < ops.size → B j = some ob → posR (base + j) (ev (G j)) o = base + c → c = j ∨ S c = true := by
  intro c ob hc hb hp
  rcases tk.posc hb with h1 | ⟨_, oo, _, _, x, hx0, hxi⟩
  ·exact .inl (by omega)
  ·have hx := looks_sub hx0
   refine .inr (I.known T hc ?_)
   have := hρ x
   rw [opnd x hx] at this
   rw [hp] at hxi
   exact ids_kn _ _ _ this hxi
 have hfree : Free s.h (base + j) := by
  refine .inr ?_
  rw [I.get (by omega), FW_none ops.size (fun i hi hw => by
   cases hSi : S i with
   | false => rfl
   | true => have := I.mkd i j hi hjlt hSi hw; rw [hj] at this; cases this), List.getD_eq_getElem?_getD, T.rsv j hjlt]
  rfl
 -- behind the operation
 have after : ∀ s' a' cv, Step s s' → Ok s' → R s' (V j) cv → s'.h = putO s.h (posR (base + j) (ev (G j)) o) ((B j).map fun _ => tau H prt (posR (base + j) (ev (G j)) o) j (FW (wH sg ops base G B (posR (base + j) (ev (G j)) o)) (tau H prt (posR (base + j) (ev (G j)) o)) ((H 0).getD (posR (base + j) (ev (G j)) o) .dead) S ops.size)) → a' = a.put o.dst cv → DInv sg ops base G H B prt N ds (fun i => S i || decide (i = j)) s' a' := by
  intro s' a' cv hst hok' hv hh ha'
  subst ha'
  have hcl : ∀ j' o' e, (S j' || decide (j' = j)) = true → ops[j']? = some o' → e ∈ o'.after.toList → Region.binds .any e = true → (S e.on || decide (e.on = j)) = true := by
   intro j' o' e hs' ho' he hb
   simp only [Bool.or_eq_true, decide_eq_true_eq] at hs' ⊢
   rcases hs' with h1 | rfl
   ·exact .inl (I.cl j' o' e h1 ho' he hb)
   ·rw [ho] at ho'; cases ho'
    exact .inl (hr e he hb)
  refine ⟨?_, ?_, hok', by rw [put_size]; exact I.size, by rw [put_defers]; exact I.dfr, hcl, ?_⟩
  ·apply List.ext_getElem?
   intro id
   by_cases hid : id < base + ops.size
   ·rw [List.getElem?_map, List.getElem?_range hid]
    simp only [Option.map_some]
    rw [FW_add hj ops.size hjlt (fun i hi hji hwi hwj => by
     obtain ⟨y, hy⟩ := ops_get hi
     obtain ⟨ob1, hb1, hp1⟩ := wH_iff ho hwj
     obtain ⟨ob2, hb2, hp2⟩ := wH_iff hy hwi
     rcases (T.tk i y hy (wH_sg hwi)).posc hb2 with h2 | ⟨h2, _⟩
     ·exfalso
      rcases tk.posc hb1 with h1 | ⟨h1, oo, h3, h4, _⟩
      ·omega
      ·rw [hp1, ← hp2, h2] at h3
       have := T.made j (by omega) i hi oo h3 h4
       omega
     ·rcases tk.seen hb1 with h1 | ⟨h1, oo, hs1, hs2⟩
      ·left
       cases hSi : S i with
       | false => rfl
       | true =>
        have := I.mkd i j hi hjlt hSi (by rw [← h1, hp1]; exact hwi)
        rw [hj] at this; cases this
      ·rcases hmc i j y o id (wH_sg hwi) hy ho ⟨ob2, hb2⟩ hp2 h2 ⟨oo, by rw [← hp1]; exact hs1, hs2⟩ with h3 | ⟨p, q, hpi, hqj, hd⟩
       ·exact .inl ((ord I.cl hcf ho hj hr hy (conf_mem h2 (memW_T h1) h3)).2 hji)
       ·right
        obtain ⟨_, _, pri⟩ := hprt i y p (wH_sg hwi) hy hpi ((T.tk i y hy (wH_sg hwi)).ran hb2)
        obtain ⟨_, _, prj⟩ := hprt j o q hsj ho hqj (tk.ran hb1)
        have hd : p.2.1 + p.2.2.2.length ≤ q.2.1 ∨ q.2.1 + q.2.2.2.length ≤ p.2.1 := by rw [pri.len, prj.len]; exact hd
        intro x
        unfold tau
        rw [hpi, hqj]
        cases x with
        | cells Tc cs =>
         simp only
         rw [ovr_comm cs (show q.2.1 + q.2.2.2.length ≤ p.2.1 ∨ p.2.1 + p.2.2.2.length ≤ q.2.1 by omega)]
        | _ => rfl)]
    rw [hh]
    cases hb : B j with
    | none =>
     have hw : wH sg ops base G B id j = false := by unfold wH; rw [ho, hsj]; simp [hb]
     rw [hw]
     exact I.get hid
    | some ob =>
     have hplt : posR (base + j) (ev (G j)) o < s.h.length := by rw [I.len]; exact T.plt ho hsj hb
     simp only [putO, Option.map_some]
     rw [put_get hplt]
     by_cases he : id = posR (base + j) (ev (G j)) o
     ·have hw : wH sg ops base G B id j = true := by unfold wH; rw [ho, hsj]; simp [hb, he]
      rw [if_pos he, hw]
      simp only [cond_true, Option.some.injEq]
      rw [he]
     ·have hw : wH sg ops base G B id j = false := by unfold wH; rw [ho, hsj]; simp only [hb, Option.isSome_some, Bool.true_and, decide_eq_false_iff_not]; exact fun e => he e.symm
      rw [if_neg he, hw]
      exact I.get hid
   ·have hl : s'.h.length = base + ops.size := by
     rw [hh]
     cases hb : B j with
     | none => exact I.len
     | some ob =>
      have hplt : posR (base + j) (ev (G j)) o < s.h.length := by rw [I.len]; exact T.plt ho hsj hb
      simp only [putO, Option.map_some]
      rw [put_len hplt, I.len]
    have e1 : s'.h[id]? = none := List.getElem?_eq_none (by omega)
    rw [e1, List.getElem?_map, List.getElem?_eq_none (by rw [List.length_range]; omega)]
    rfl
  ·intro t
   rw [LW_add hj ops.size hjlt (fun i hi hji hwi hwj => by
    obtain ⟨y, hy⟩ := ops_get hi
    refine (ord I.cl hcf ho hj hr hy (conf_slot (wF_iff hy hwi) ?_)).2 hji
    unfold namesO
    rw [wF_iff ho hwj]
    simp)]
   cases hw : wF sg ops t j with
   | true =>
    have hd := wF_iff ho hw
    have hlt : t < a.tmps.size := by
     have := hN o hmem
     unfold dstOk at this
     rw [hd] at this
     rw [I.size]
     simpa using this
    rw [hd, getD_put hlt, if_pos rfl]
    simp only [cond_true]
    rcases tk.geq t hd with e | e <;> rw [e]
    ·exact hv
    ·simp only [R]
   | false =>
    simp only [cond_false]
    have hne : o.dst ≠ some t := by
     unfold wF at hw
     rw [ho, hsj] at hw
     exact of_decide_eq_false hw
    have : (a.put o.dst cv).tmps.getD t undef = a.tmps.getD t undef := by
     cases hd : o.dst with
     | none => rfl
     | some d =>
      have hlt : d < a.tmps.size := by
       have := hN o hmem
       unfold dstOk at this
       rw [hd] at this
       rw [I.size]
       simpa using this
      rw [getD_put hlt, if_neg (fun e => hne (by rw [hd, e]))]
    rw [this]
    exact R_mono hst _ _ (I.fr t)
  ·intro k c hk hc hSk hw
   simp only [Bool.or_eq_true, decide_eq_true_eq] at hSk ⊢
   rcases hSk with h1 | rfl
   ·exact .inl (I.mkd k c hk hc h1 hw)
   ·obtain ⟨ob, hb, hp⟩ := wH_iff ho hw
    exact (turned c ob hc hb hp).symm
 -- whether it runs
 have hwant : Region.wanted o (yielded ops a.tmps) = E j := by
  rcases tk.grd with ⟨hg, he⟩ | ⟨jj, want, t, hg, ht, hval⟩
  ·simp [Region.wanted, hg, he]
  ·have htn : t ∈ namesO ops o := by
    unfold namesO
    refine List.mem_append_right _ (List.mem_append_right _ ?_)
    rw [hg]
    simp only [ht]
    simp
   have hlt : t < a.tmps.size := by
    cases hjj : ops[jj]? with
    | none => rw [hjj] at ht; cases ht
    | some oj =>
     rw [hjj] at ht
     have hm : oj ∈ ops.toList := by
      obtain ⟨hl, he⟩ := Array.getElem?_eq_some_iff.1 hjj
      rw [← he]
      exact Array.mem_toList_iff.2 (Array.getElem_mem hl)
     have := hN oj hm
     unfold dstOk at this
     simp only [Option.bind_some] at ht
     rw [ht] at this
     rw [I.size]
     simpa using this
   have hy := yielded_get ht hlt
   have hrt := hfs t htn
   rcases hval with ⟨b, hb, he⟩ | ⟨hb, he⟩
   ·rw [hb] at hrt
    simp only [R] at hrt
    rw [hrt] at hy
    simp only [Region.wanted, hg, hy, he]
    cases b <;> cases want <;> rfl
   ·rw [hb] at hrt
    simp only [R] at hrt
    rw [hrt] at hy
    simp only [Region.wanted, hg, hy, he, undef]
    cases want <;> rfl
 unfold wpOp
 rw [ho]
 simp only
 rw [hwant]
 cases he : E j with
 | true =>
  rw [if_pos rfl]
  refine .inl ?_
  cases hpj : prt j with
  | none =>
   have h := tk.exe he
   rw [← hcg] at h
   refine opRd_ok hT hD I.ok (h0 := maskH o (ev (G j)) (H j)) (memr hpj he) hfree hρ h K Q ?_
   intro cv s' hst hok' hv hh
   rw [hpg] at hh
   refine hK s' _ hst (after s' _ cv hst hok' hv ?_ rfl)
   rw [hh]
   cases hb : B j with
   | none => rfl
   | some ob =>
    have hplt2 : posR (base + j) (ev (G j)) o < (H j).length := by rw [T.lenk j (by omega)]; exact T.plt ho hsj hb
    simp only [Option.map_some]
    unfold tau
    rw [hpj, tk.hp, hb]
    simp only [putO, List.getD_eq_getElem?_getD]
    rw [put_get hplt2, if_pos rfl]
    rfl
  | some p =>
   obtain ⟨Tc, n, pr⟩ := hprt j o p hsj ho hpj he
   obtain ⟨cs0, hcs0, hBj⟩ := pr.own
   -- the block, as it stands
   have hcur : ∀ m, m ≤ ops.size → ∃ cs, FW (wH sg ops base G B p.1) (tau H prt p.1) ((H 0).getD p.1 .dead) S m = .cells Tc cs ∧ cs.length = n := by
    intro m
    induction m with
    | zero =>
     intro _
     obtain ⟨cs, h1, h2⟩ := pr.kind 0 (by omega)
     exact ⟨cs, by simp only [FW]; rw [List.getD_eq_getElem?_getD, h1]; rfl, h2⟩
    | succ m ih =>
     intro hm
     obtain ⟨cs, h1, h2⟩ := ih (by omega)
     simp only [FW]
     cases hw : (S m && wH sg ops base G B p.1 m) with
     | false => exact ⟨cs, h1, h2⟩
     | true =>
      simp only [cond_true]
      rw [h1]
      unfold tau
      cases prt m with
      | none =>
       obtain ⟨cs', h3, h4⟩ := pr.kind (m + 1) (by omega)
       exact ⟨cs', by simp only; rw [List.getD_eq_getElem?_getD, h3]; rfl, h4⟩
      | some q => exact ⟨_, rfl, by rw [ovr_len]; exact h2⟩
   obtain ⟨cs, hFW, hcl⟩ := hcur ops.size (Nat.le_refl _)
   have hplt : p.1 < base + ops.size := by have := pr.low; omega
   have hsh : s.h[p.1]? = some (.cells Tc cs) := by rw [I.get hplt, hFW]
   have h := pr.run (List.replicate p.1 .resv ++ [.cells Tc cs]) cs (by rw [List.getElem?_append_right (by simp)]; simp) hcl
   obtain ⟨hcg2, _⟩ := opRd_congr (C := C) (ops := ops) (h := List.replicate p.1 .resv ++ [.cells Tc cs]) (nid := base + j) opnd
   rw [← hcg2] at h
   refine opRd_ok hT hD I.ok (h0 := List.replicate p.1 .resv ++ [.cells Tc cs]) (fun id ob hi ha => by
    rcases Nat.lt_trichotomy id p.1 with h1 | h1 | h1
    ·rw [List.getElem?_append_left (by simpa using h1), List.getElem?_replicate, if_pos h1] at hi
     cases hi
     cases ha
    ·subst h1
     rw [List.getElem?_append_right (by simp)] at hi
     simp at hi
     rw [← hi]
     exact hsh
    ·rw [List.getElem?_eq_none (by simp; omega)] at hi
     cases hi) hfree hρ h K Q ?_
   intro cv s' hst hok' hv hh
   rw [hpg] at hh
   refine hK s' _ hst (after s' _ cv hst hok' hv ?_ rfl)
   rw [hh, hBj, pr.pos]
   simp only [Option.map_some]
   rw [hFW]
   unfold tau
   rw [hpj]
   simp only
   rw [ovr_splice (by rw [hcl]; exact pr.inr)]
 | false =>
  rw [if_neg (by simp)]
  obtain ⟨hv, hb⟩ := tk.skp he
  refine hK s _ (Step.refl s) (after s _ undef (Step.refl s) I.ok (by rw [hv]; simp only [R]) (by rw [hb]; rfl) rfl)
end
end Av
