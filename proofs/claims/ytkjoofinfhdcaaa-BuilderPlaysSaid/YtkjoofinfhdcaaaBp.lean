/-
  Calls with a part of memory whose objects are not looked at; memory that is turned ahead of a walk and behind it.
  A builder, plainly; a builder's memory, in any of its forms.
-/
import Derived.Test.YtkjoofinfhdcaaaFr
import Derived.Test.YtkjoofinfhdcaaaB8
namespace Av
open Go Go.ChangeShapes Go.WideShapes Go.ChangeAt Go.RowKit Go.Joins Go.Deep

def pickN (g : Nat → Option Nat) (h : Hp) : List Nat → (Hp → Prop) → Prop
 | [], k => k []
 | j :: js, k => match h[j]? with
  | some o => pickN g h js fun os => k (renO g o :: os)
  | none => False
theorem pickN_spec {g : Nat → Option Nat} {h : Hp} : ∀ (sel : List Nat) (k : Hp → Prop), pickN g h sel k → ∃ h0, k h0 ∧ h0.length = sel.length ∧ ∀ i j : Nat, sel[i]? = some j → ∃ o, h[j]? = some o ∧ h0[i]? = some (renO g o)
 | [], k, hk => ⟨[], hk, rfl, by simp⟩
 | j :: js, k, hk => by
  simp only [pickN] at hk
  split at hk
  ·rename_i o ho
   obtain ⟨h0, h1, h2, h3⟩ := pickN_spec js _ hk
   refine ⟨renO g o :: h0, h1, by simp [h2], fun i j' hi => ?_⟩
   cases i with
   | zero =>
    rw [List.getElem?_cons_zero] at hi
    cases hi
    exact ⟨o, ho, rfl⟩
   | succ i => exact h3 i j' (by simpa using hi)
  ·exact hk.elim
def appN (g : Nat → Option Nat) : List AObj → Hp → (Hp → Prop) → Prop
 | [], h, k => k h
 | o :: os, h, k => lenK h fun n => putK h n (renO g o) fun h => appN g os h k
def mergeN (g : Nat → Option Nat) : List Nat → List AObj → Hp → (Hp → Prop) → Prop
 | [], os, h, k => appN g os h k
 | j :: js, os, h, k => match os with
  | [] => putK h j .dead fun h => mergeN g js [] h k
  | o :: os => putK h j (renO g o) fun h => mergeN g js os h k
theorem appN_eq (g : Nat → Option Nat) : ∀ (os : List AObj) (h : Hp) (k : Hp → Prop), appN g os h k = k (h ++ os.map (renO g))
 | [], h, k => by simp [appN]
 | o :: os, h, k => by
  simp only [appN]
  rw [lenK_eq, putK_eq, appN_eq g os]
  simp [put]
theorem mergeN_eq (g : Nat → Option Nat) : ∀ (sel : List Nat) (os : List AObj) (h : Hp) (k : Hp → Prop), mergeN g sel os h k = k (mergeD g sel os h)
 | [], os, h, k => by simp only [mergeN, mergeD, appN_eq]
 | j :: js, [], h, k => by simp only [mergeN, mergeD]; rw [putK_eq, mergeN_eq g js]
 | j :: js, o :: os, h, k => by simp only [mergeN, mergeD]; rw [putK_eq, mergeN_eq g js]
def frNK (A : LocA) (sel : List Nat) (xs : List AV) (h : Hp) (K : AV → Hp → Prop) : Prop := lenK h fun L => match selOk sel L with
 | true => fl2 (unzs (renVs (inv sel) xs)) fun ys => pickN (inv sel) h sel fun h0 => A ys h0 fun v h1 => force (renV (fun i => some (rhoGo sel L i)) v) fun v => mergeN (fun i => some (rhoGo sel L i)) sel h1 h fun h2 => K v h2
 | false => False
theorem frP.nk {A : LocA} {xs : List AV} {h : Hp} {K : AV → Hp → Prop} (sel : List Nat) (hh : frNK A sel xs h K) : frP A xs h K := by
 refine .mk sel ?_
 unfold frNK at hh
 unfold frK
 rw [lenK_eq] at hh ⊢
 split at hh
 ·rename_i hs
  rw [hs]
  simp only
  have key : ∀ (js : List Nat) (k : Hp → Prop), pickN (inv sel) h js k → pickK (inv sel) h js k := by
   intro js
   induction js with
   | nil => exact fun k hk => hk
   | cons j js ih =>
    intro k hk
    simp only [pickN] at hk
    simp only [pickK]
    split at hk
    ·rename_i o ho
     rw [ho]
     simp only
     rw [forceO_eq]
     exact ih _ hk
    ·exact hk.elim
  rw [fl2_eq] at hh ⊢
  refine key sel _ ?_
  have e : ∀ v h1, (force (renV (fun i => some (rhoGo sel h.length i)) v) fun v => mergeN (fun i => some (rhoGo sel h.length i)) sel h1 h fun h2 => K v h2) = (force (renV (fun i => some (rhoGo sel h.length i)) v) fun v => mergeK (fun i => some (rhoGo sel h.length i)) sel h1 h fun h2 => K v h2) := by
   intro v h1
   rw [force_eq, force_eq, mergeN_eq, mergeK_eq]
  simp only [e] at hh
  exact hh
 ·exact hh.elim
inductive exWP (h0 : Hp) (K : AV → Hp → Prop) (v : AV) (h : Hp) : Prop where
 | mk (nz : List NZ) (hh : normK nz .leaf h fun _ h => exP h0 K v h) : exWP h0 K v h
def exGoQ : Hp → List Nat → Nat → Bool
 | [], _, _ => true
 | o :: h, sel, i => ((match sel with
   | j :: _ => Nat.beq j i
   | [] => false) || (match o with
  | .resv => true
  | _ => false)) && exGoQ h sel.tail (i + 1)
theorem exGoQ_spec : ∀ {h : Hp} {sel : List Nat} {n : Nat}, exGoQ h sel n = true → ∀ i o, h[i]? = some o → o ≠ .resv → sel[i]? = some (n + i)
 | [], _, _, _, i, o, hi, _ => by simp at hi
 | x :: h, sel, n, hx, i, o, hi, hne => by
  simp only [exGoQ, Bool.and_eq_true, Bool.or_eq_true] at hx
  cases i with
  | zero =>
   simp at hi
   subst hi
   rcases hx.1 with h1 | h1
   ·cases sel with
    | nil => cases h1
    | cons j js => simp only at h1; rw [Nat.eq_of_beq_eq_true h1]; rfl
   ·cases x <;> first | exact absurd rfl hne | cases h1
  | succ i =>
   have := exGoQ_spec hx.2 i o (by simpa using hi) hne
   cases sel with
   | nil => simp at this
   | cons j js => rw [List.getElem?_cons_succ]; rw [List.tail_cons] at this; rw [this]; congr 1; omega
def exQK (h0 : Hp) (K : AV → Hp → Prop) (sel vsel : List Nat) (v : AV) (h : Hp) : Prop := lenK h fun L => match selOk (sel ++ vsel) L && exGoQ h0 sel 0 with
 | true => pickK (inv vsel) h vsel fun hv => (viewR hv (renV (inv vsel) v) fun y => .ok y none).sat fun y _ => pickN (inv sel) h sel fun h1 => force y fun y => K y h1
 | false => False
inductive exQP (h0 : Hp) (K : AV → Hp → Prop) (v : AV) (h : Hp) : Prop where
 | mk (sel vsel : List Nat) (hh : exQK h0 K sel vsel v h) : exQP h0 K v h
theorem exQ_ok {s s1 : St} {K : AV → Hp → Prop} {v : AV} {cr : Value} (hst : Step s s1) (hok : Ok s1) (hv : R s1 v cr) (hk : exQP s.h K v s1.h) : ∃ s' v', s'.w = s1.w ∧ Step s s' ∧ Ok s' ∧ R s' v' cr ∧ K v' s'.h := by
 obtain ⟨sel, vsel, hk⟩ := hk
 unfold exQK at hk
 rw [lenK_eq] at hk
 split at hk
 ·rename_i hs
  rw [Bool.and_eq_true] at hs
  obtain ⟨hnd, hlt⟩ := selOk_spec hs.1
  have hx := exGoQ_spec hs.2
  obtain ⟨hnd1, hnd2, hdis⟩ := List.nodup_append.1 hnd
  obtain ⟨hv1, k1, k2, k3⟩ := pickK_spec vsel _ hk
  have hpv : Picked s1 vsel hv1 := ⟨hnd2, fun j hj => hlt j (List.mem_append_right _ hj), k2, k3⟩
  obtain ⟨y, ob, his, k1⟩ := Res.sat_is k1
  obtain ⟨h1, k1, k4, k5⟩ := pickN_spec sel _ k1
  rw [force_eq] at k1
  have hp : Picked s1 sel h1 := ⟨hnd1, fun j hj => hlt j (List.mem_append_left _ hj), k4, k5⟩
  obtain ⟨q1, q2⟩ := left_ok hst hok hp hx
  have hpvok := part_ok hok hpv
  obtain ⟨z, hz, hR⟩ := viewR_ok hpvok (SubH.refl _) (F := (s1.part vsel hv1).F) (fun b hb => .inl hb) _ cr _ y ob (R_ren (part_ren hpv) v cr hv) (fun _ b hb => hpvok.dis b hb) his
  obtain ⟨rfl, _⟩ := hz
  refine ⟨s1.left sel h1, z, rfl, q1, q2, ?_, k1⟩
  have hRL : RL ((s1.part vsel hv1).callee (s1.part vsel hv1).F) [z] [cr] := by
   simp only [RL]
   exact ⟨cr, [], rfl, hR, rfl⟩
  have h2 := RL_pure (s := (s1.part vsel hv1).callee (s1.part vsel hv1).F) (s2 := s1.left sel h1) rfl rfl (fun b hn h => hn (callee_own.2 (by
   rcases h with h | h
   ·exact .inl h
   ·obtain ⟨id, o, c1, c2, c3, c4⟩ := (part_ownI hp).1 (left_own hp h).1
    exact .inr ⟨id, o, c1, c2, fun hm => hdis id c3 id hm rfl, c4⟩))) [z] [cr] hRL
  simp only [RL] at h2
  obtain ⟨c, l, e, h3, h4⟩ := h2
  subst h4
  cases e
  exact h3
 ·exact hk.elim
theorem exQA {h0 : Hp} {K : AV → Hp → Prop} {v : AV} {h : Hp} (sel : List Nat) (hh : exQK h0 K sel (idsV v) v h) : exQP h0 K v h := .mk sel _ hh
theorem leaf_FR (s : St) (a : Act) : FR s Tr.leaf.get a := fun t => by
 show R s .any _
 simp only [R]
theorem exW_ok {s s1 : St} {K : AV → Hp → Prop} {v : AV} {cr : Value} (hst : Step s s1) (hok : Ok s1) (hv : R s1 v cr) (hk : exWP s.h K v s1.h) : ∃ s' v', s'.w = s1.w ∧ Step s s' ∧ Ok s' ∧ R s' v' cr ∧ K v' s'.h := by
 obtain ⟨nz, hk⟩ := hk
 obtain ⟨s2, f, h1, h2, _, h3, h4⟩ := normK_ok (a := { tmps := #[], defers := [] }) nz .leaf s1 _ hok (leaf_FR _ _) hk
 obtain ⟨s', v', a1, a2, a3, a4, a5⟩ := ex_ok (hst.trans h1) h2 (R_mono h1 v cr hv) h4
 exact ⟨s', v', a1.trans h3, a2, a3, a4, a5⟩
section
variable {P : Program}
theorem loc_bodyX {C : Cx} (hm : P.follows .mixedOrders = true) (hT : TbOk P C.tb) (hD : SpecsOk P C.specs) {call : CallA} (hcall : CallOk P call) {g : FuncId} {fn : Func} (hf : FnOk P g fn) {A : LocA} {E : Hp → (AV → Hp → Prop) → AV → Hp → Prop}
  (hE : ∀ {s s1 : St} {K : AV → Hp → Prop} {v : AV} {cr : Value}, Step s s1 → Ok s1 → R s1 v cr → E s.h K v s1.h → ∃ s' v', s'.w = s1.w ∧ Step s s' ∧ Ok s' ∧ R s' v' cr ∧ K v' s'.h)
  (h : ∀ ys h0 K, A ys h0 K → bodyA C call fn ys h0 (fun v h => E h0 K v h)) : LocOk P g A := by
 intro ys h0 K hA
 refine ⟨hf.enters, fun s hs hok cs hr => ?_⟩
 have hb := h ys h0 K hA
 subst hs
 refine Calls.mono (bodyA_ok hm hT hD hcall hf hb hok hr) ?_
 rintro e w' ⟨s1, v, cr, rfl, rfl, hst, hok1, hv, hK⟩
 obtain ⟨s', v', a1, a2, a3, a4, a5⟩ := hE hst hok1 hv hK
 exact ⟨s', v', cr, rfl, a1, a2, a3, a4, a5⟩
theorem loc_turn {g : FuncId} {A B : LocA} (hB : LocOk P g B) (h : ∀ ys h0 K, A ys h0 K → ∀ s : St, s.h = h0 → Ok s → ∃ s', s'.w = s.w ∧ Step s s' ∧ Ok s' ∧ B ys s'.h K) (hen : Enters P g) : LocOk P g A := by
 intro ys h0 K hA
 refine ⟨hen, fun s hs hok cs hr => ?_⟩
 obtain ⟨s', h1, h2, h3, h4⟩ := h ys h0 K hA s hs hok
 have hc := (hB ys s'.h K h4).2 s' rfl h3 cs (RL_mono h2 ys cs hr)
 rw [h1] at hc
 refine Calls.mono hc ?_
 rintro e w' ⟨s1, v, cr, rfl, rfl, hst, hok1, hv, hK⟩
 exact ⟨s1, v, cr, rfl, rfl, h2.trans hst, hok1, hv, hK⟩
end
/-! ### An array is given up; its number stays one's own, with an empty array -/
def St.drp (s : St) (id : Nat) (ob : AObj) : St := ⟨upd s.σ id (.slice none 0 0), put s.h id ob, s.w, s.F⟩
section
variable {s : St} {id : Nat} {T : TypeId} {t : Ty} {l : List t.El} {f : Bool} {g : Nat}
theorem drp_get (ho : s.h[id]? = some (.arr T t l f g)) {i : Nat} {o : AObj} (h : (s.drp id (.arr T t [] false (g + 1))).h[i]? = some o) : (i = id ∧ o = .arr T t [] false (g + 1)) ∨ (i ≠ id ∧ s.h[i]? = some o) := by
 have hlt : id < s.h.length := (List.getElem?_eq_some_iff.1 ho).1
 have h : (put s.h id _)[i]? = some o := h
 rw [put_get hlt] at h
 split at h
 ·rename_i e; cases h; exact .inl ⟨e, rfl⟩
 ·rename_i hne; exact .inr ⟨hne, h⟩
theorem drp_sg {i : Nat} (h : i ≠ id) (ob : AObj) : (s.drp id ob).σ i = s.σ i := upd_other _ _ h
theorem drp_own (ho : s.h[id]? = some (.arr T t l f g)) {b : Nat} (h : OwnI (s.drp id (.arr T t [] false (g + 1))) b) : ∃ i o, i ≠ id ∧ s.h[i]? = some o ∧ o.alive = true ∧ Has s i o b := by
 obtain ⟨i, o, h1, h2, h3⟩ := h
 rcases drp_get ho h1 with ⟨rfl, rfl⟩ | ⟨hne, h4⟩
 ·have h3 := h3.one rfl
  simp only [St.drp, upd_same] at h3
  cases h3
 ·exact ⟨i, o, hne, h4, h2, Has.of (drp_sg hne _) h3⟩
theorem drp_ownI (ho : s.h[id]? = some (.arr T t l f g)) {b : Nat} (h : OwnI (s.drp id (.arr T t [] false (g + 1))) b) : OwnI s b := by
 obtain ⟨i, o, _, h1, h2, h3⟩ := drp_own ho h
 exact ⟨i, o, h1, h2, h3⟩
theorem drp_step (ho : s.h[id]? = some (.arr T t l f g)) : Step s (s.drp id (.arr T t [] false (g + 1))) where
 os := rfl
 tape := rfl
 output := rfl
 drawn := Nat.le_refl _
 size := Nat.le_refl _
 kn := fun i hi => by
  have hlt : id < s.h.length := (List.getElem?_eq_some_iff.1 ho).1
  unfold Av.kn at hi ⊢
  show (match (put s.h id _)[i]? with | some .resv => false | some _ => true | none => false) = true
  rw [put_get hlt]
  by_cases he : i = id
  ·rw [if_pos he]
  ·rw [if_neg he]; exact hi
 keep := fun b _ hn => ⟨fun h => hn (drp_ownI ho h), rfl⟩
 frn := rfl
 cells := fun i T' cs' _ hc => by
  rcases drp_get ho hc with ⟨_, h⟩ | ⟨hne, h⟩
  ·cases h
  ·exact ⟨drp_sg hne _, cs', h⟩
 oth := fun i o' _ hc => by
  rcases drp_get ho hc with ⟨_, h⟩ | ⟨hne, h⟩
  ·cases h
  ·exact ⟨drp_sg hne _, o', h⟩
 arr := fun i T' t' l' f' g' _ hc => by
  rcases drp_get ho hc with ⟨rfl, h⟩ | ⟨hne, h⟩
  ·cases h
   exact ⟨l, f, g, ho, Nat.le_succ _, fun e => by omega⟩
  ·exact ⟨l', f', g', h, Nat.le_refl _, fun _ => ⟨drp_sg hne _, rfl⟩⟩
theorem drp_ok (hok : Ok s) (ho : s.h[id]? = some (.arr T t l f g)) : Ok (s.drp id (.arr T t [] false (g + 1))) where
 obj := fun i o hi => by
  rcases drp_get ho hi with ⟨rfl, rfl⟩ | ⟨hne, h1⟩
  ·exact ⟨[], ⟨by simp, .inl ⟨by simp only [St.drp, upd_same], rfl⟩⟩, by simp, by simp, by simp⟩
  ·exact ObjR_mono (drp_step ho) (drp_sg hne _) (fun _ _ => rfl) (hok.obj i o h1)
 inj := fun i j o p b hi hj hao hap hbi hbj => by
  rcases drp_get ho hi with ⟨rfl, rfl⟩ | ⟨hni, h1⟩
  ·have h3 := hbi.one rfl
   simp only [St.drp, upd_same] at h3
   cases h3
  ·rcases drp_get ho hj with ⟨rfl, rfl⟩ | ⟨hnj, h2⟩
   ·have h3 := hbj.one rfl
    simp only [St.drp, upd_same] at h3
    cases h3
   ·exact hok.inj i j o p b h1 h2 hao hap (Has.of (drp_sg hni _) hbi) (Has.of (drp_sg hnj _) hbj)
 fb := hok.fb
 dis := fun b h => hok.dis b (drp_ownI ho h)
theorem frd_ok (hok : Ok s) (ho : s.h[id]? = some (.arr T t l f g)) {i j : Nat} {Tc : TypeId} {cs : List AV} {m : Nat} (hi : s.h[i]? = some (.cells Tc cs)) (hj : cs[j]? = some (.own id g m)) (hm : m ≤ l.length) :
  ∃ s', s'.w = s.w ∧ Step s s' ∧ Ok s' ∧ s'.h = (s.h.set id (.arr T t [] false (g + 1))).set i (.cells Tc (cs.set j (.lst t (l.take m)))) := by
 have hlt : id < s.h.length := (List.getElem?_eq_some_iff.1 ho).1
 have hst := drp_step ho
 have hok' := drp_ok hok ho
 have hni : i ≠ id := fun e => by subst e; rw [ho] at hi; cases hi
 have hi' : (s.drp id (.arr T t [] false (g + 1))).h[i]? = some (.cells Tc cs) := by
  show (put s.h id _)[i]? = _
  rw [put_get hlt, if_neg hni]
  exact hi
 have hcmp : Cmp (.cells Tc cs) ((s.drp id (.arr T t [] false (g + 1))).σ i) (.cells Tc (cs.set j (.lst t (l.take m)))) ((s.drp id (.arr T t [] false (g + 1))).σ i) := .cells _ _ _ _
 have hgb : Gb (s.drp id (.arr T t [] false (g + 1))).w (s.drp id (.arr T t [] false (g + 1))).w (blkOf ((s.drp id (.arr T t [] false (g + 1))).σ i)) := ⟨rfl, rfl, rfl, Nat.le_refl _, Nat.le_refl _, fun _ _ _ => rfl⟩
 have hst2 := St.turn_step hi' hcmp hgb (fun b hb => .inl hb)
 obtain ⟨b', vs', rest', e1', hh', hl', h2'⟩ := hok'.obj i _ hi'
 obtain ⟨b0, vs0, rest0, e0, hh0, hl0, h20⟩ := hok.obj i _ hi
 have hvs : vs' ++ rest' = vs0 ++ rest0 := by
  have e2 := e1'
  rw [drp_sg hni, e0] at e2
  cases e2
  have hh2 := hh'
  rw [show (s.drp id (.arr T t [] false (g + 1))).w = s.w from rfl, hh0] at hh2
  injection hh2 with hh2
  injection hh2 with hh2
  exact (congrArg Array.toList hh2).symm
 have hok2 := St.turn_ok hok' hi' hcmp hgb (fun b hb => .inl hb) (by
  refine ⟨b', vs', rest', by simp only [St.turn, upd_same]; exact e1', hh', RL_mono hst2 _ _ (RL_set hl' (fun c hc _ => ?_)), h2'⟩
  obtain ⟨v, hv, hr⟩ := RL_get hl0 j _ hj
  have l1 := (List.getElem?_eq_some_iff.1 hc).1
  have l2 := (List.getElem?_eq_some_iff.1 hv).1
  have e3 : (vs' ++ rest')[j]? = (vs0 ++ rest0)[j]? := by rw [hvs]
  rw [List.getElem?_append_left l1, List.getElem?_append_left l2, hc, hv] at e3
  cases e3
  simp only [R] at hr
  obtain ⟨_, base, cap, rfl, hr⟩ := hr
  obtain ⟨_, hr2⟩ := hr T t l f g ho
  obtain ⟨_, len, hσ⟩ := hr2 rfl
  obtain ⟨_, hcap, hb⟩ := own_RC hok ho hσ
  have key := own_view hok (F := Own (s.drp id (.arr T t [] false (g + 1)))) (fun b hb => by
    rcases hb with h1 | h1
    ·exact .inl h1
    ·exact .inr (drp_ownI ho h1)) (id := id) (fun b hbk hF => by
    rcases hF with h1 | h1
    ·exact hok.dis b ⟨id, _, ho, rfl, .inl hbk⟩ h1
    ·obtain ⟨k, o, hne, h4, h5, h6⟩ := drp_own ho h1
     exact hne (hok.inj id k _ _ b ho h4 rfl h5 (.inl hbk) h6).symm) ho (lo := 0) (n := m) (ad := base) (cap' := cap) hσ (by omega) (by omega) (fun hpos => by
     have hl0 : l ≠ [] := by rintro rfl; simp at hm; omega
     obtain ⟨b, hb, _⟩ := hb hl0
     exact ⟨b, hb, by rw [hb, Nat.zero_mul]⟩)
  rw [List.drop_zero] at key
  simp only [R]
  exact RLst_pure (s := s.callee (Own (s.drp id (.arr T t [] false (g + 1))))) (s2 := s.drp id (.arr T t [] false (g + 1))) rfl (fun b hb h => hb (callee_own.2 h)) key)
 refine ⟨(s.drp id (.arr T t [] false (g + 1))).turn i (.cells Tc (cs.set j (.lst t (l.take m)))) ((s.drp id (.arr T t [] false (g + 1))).σ i) (s.drp id (.arr T t [] false (g + 1))).w, rfl, hst.trans hst2, hok2, ?_⟩
 show (put s.h id _).set i _ = _
 unfold put
 rw [if_pos hlt]
end
/-! ### Memory at the start of a law, with room -/
def NoBxR (B : Hp) : Prop := ∀ o ∈ B, o = .resv ∨ ∃ T t, o = .oth (.bxs T t []) ∨ o = .arr T t [] false 0
def St.bxr (s : St) (B : Hp) : St := ⟨fun _ => .slice none 0 0, B, s.w, s.F⟩
theorem bxr_noI {s : St} {B : Hp} (hB : NoBxR B) {b : Nat} : ¬ OwnI (s.bxr B) b := by
 rintro ⟨i, o, h1, h2, h3⟩
 rcases hB o (List.mem_of_getElem? h1) with rfl | ⟨T, t, ho⟩
 ·cases h2
 ·rcases h3 with h3 | h3
  ·cases h3
  ·rcases ho with rfl | rfl
   ·have h3 : b ∈ ([] : List Nat) := h3
    simp at h3
   ·have h3 : b ∈ ([] : List Nat) := h3
    simp at h3
theorem bxr_ok {s : St} (hok : Ok s) {B : Hp} (hB : NoBxR B) : Ok (s.bxr B) where
 obj := fun id o h => by
  rcases hB o (List.mem_of_getElem? h) with rfl | ⟨T, t, ho⟩
  ·trivial
  ·rcases ho with rfl | rfl
   ·exact ⟨rfl, by simp, fun b x hx => by simp at hx⟩
   ·exact ⟨[], ⟨by simp, .inl ⟨rfl, rfl⟩⟩, by simp, by simp, by simp⟩
 inj := fun i j o p b hi _ ho _ hb _ => absurd ⟨i, o, hi, ho, hb⟩ (bxr_noI hB)
 fb := hok.fb
 dis := fun b h => absurd h (bxr_noI hB)
section
variable {P : Program} {H : Type} {enc : TypeId × Value → H} {w : World} {base : Nat} {spare : Nat → Bool} {held : Bool}
theorem law_callsR {C : Cx} (hm : P.follows .mixedOrders = true) (hT : TbOk P C.tb) (hD : SpecsOk P C.specs) {call : CallA} (hcall : CallOk P call) {g : FuncId} {fn : Func} (hf : FnOk P g fn) {ts : List Ty} {B : Hp} (hB : NoBxR B)
  (walk : ∀ es : Ty.Els ts, tyOks ts es → bodyA C call fn (avTs ts es) B (fun v _ => v = .bool true))
  {Ts : List TypeId} (hc : chkAll P Ts ts = true) {r : Reach} {b0 : Nat} {args : Array Value} {ds : List (DataW H)} {ps : List MemPlace}
  (hv : ∀ (j : Nat) T v, Ts[j]? = some T → args.toList[j]? = some v → Value.okWide P w r b0 T v) (h : DataW.TrodAll enc P w base spare held Ts args.toList ds ps) :
  Calls P g args w fun e w' => e = .returned (.bool true) ∧ Below w.heap.size w w' := by
 let s : St := ⟨fun _ => .bool false, [], w, fun _ => False⟩
 have hI : ∀ b, ¬ OwnI s b := by
  rintro b ⟨id, o, h1, _⟩
  have h1 : ([] : List AObj)[id]? = some o := h1
  simp at h1
 have hF : ∀ b, ¬ Own s b := by
  rintro b (h1 | h1)
  ·exact h1
  ·exact hI b h1
 have hok : Ok s := ⟨fun id o h => by have h : ([] : List AObj)[id]? = some o := h; simp at h, fun i j o p b h => by have h : ([] : List AObj)[i]? = some o := h; simp at h, fun b h => h.elim, fun b h => absurd h (hI b)⟩
 obtain ⟨es, hes, hoks, hbs⟩ := open_all (s := s) rfl hF Ts ts args.toList ds ps hc hv h
 have hrl : RL (s.bxr B) (avTs ts es) args.toList := RL_pure (s := s) (s2 := s.bxr B) rfl rfl (fun b hn h => h.elim (fun h => hn (.inl h)) (bxr_noI hB)) _ _ hes
 refine Calls.mono (bodyA_ok hm hT hD hcall hf (s := s.bxr B) (walk es hoks) (bxr_ok hok hB) hrl) ?_
 rintro e w' ⟨s', v, cr, rfl, rfl, hst, _, hR, rfl⟩
 simp only [R] at hR
 subst hR
 exact ⟨rfl, hst.os, hst.tape, hst.output, hst.size, fun b hb => (hst.keep b hb (bxr_noI hB)).2⟩
end
end Av
namespace Go.Proofs.Ytkjoofinfhdcaaa
open Av Bk

structure BM where
 most : Int
 l : List entT.El
 sl : Bool
structure BW (b : BM) : Prop where
 lo : 1 ≤ b.most
 hi : b.most ≤ 5000
 len : (b.l.length : Int) ≤ b.most
 ok : okL8 b.l
def BM.addE (b : BM) (x : entT.El) : Int := if b.sl = true then 9 else if errX x ≠ 0 then errX x else if okAft b.l x.1 = false then 6 else if b.most ≤ (b.l.length : Int) then 5 else 0
def BM.addN (b : BM) (x : entT.El) : BM := if b.addE x = 0 then { b with l := b.l ++ [x] } else b
def BM.sealE (b : BM) (id : Int) : Int := if b.sl = true then 9 else if id < 1 ∨ 1000000 < id then 7 else if b.l.length = 0 then 4 else 0
def BM.sealN (b : BM) (id : Int) : BM := if b.sealE id = 0 then { b with sl := true } else b
def BM.sealR (b : BM) (id : Int) : Int × List entT.El := if b.sealE id = 0 then (id, b.l) else (0, [])
def BM.st (b : BM) : Int := if b.sl = true then 2 else 1
theorem addE_zero {b : BM} {x : entT.El} (h : b.addE x = 0) : b.sl = false ∧ errX x = 0 ∧ okAft b.l x.1 = true ∧ (b.l.length : Int) < b.most := by
 unfold BM.addE at h
 split at h
 ·exact absurd h (by decide)
 ·rename_i h1
  split at h
  ·rename_i h2; exact absurd h h2
  ·rename_i h2
   split at h
   ·exact absurd h (by decide)
   ·rename_i h3
    split at h
    ·exact absurd h (by decide)
    ·rename_i h4
     exact ⟨by simpa using h1, by simpa using h2, by simpa using h3, by omega⟩
theorem bw_add {b : BM} (h : BW b) (x : entT.El) : BW (b.addN x) := by
 unfold BM.addN
 split
 ·rename_i he
  obtain ⟨_, h2, h3, h4⟩ := addE_zero he
  exact ⟨h.lo, h.hi, by show ((b.l ++ [x]).length : Int) ≤ b.most; rw [List.length_append]; simp; omega, okL8_snoc h.ok h2 h3⟩
 ·exact h
theorem bw_seal {b : BM} (h : BW b) (id : Int) : BW (b.sealN id) := by
 unfold BM.sealN
 split
 ·exact ⟨h.lo, h.hi, h.len, h.ok⟩
 ·exact h
inductive BRel (a : Nat) (oB oA : AObj) (b : BM) : Prop where
 | own (g : Nat) (hB : oB = .cells 65 [.int .i64 b.most, .own a g b.l.length, .int .i64 b.st]) (hA : oA = .arr 25 entT b.l false g) : BRel a oB oA b
 | tig (g : Nat) (hB : oB = .cells 65 [.int .i64 b.most, .tlst entT b.l, .int .i64 b.st]) (hA : oA = .arr 25 entT [] false g) : BRel a oB oA b
 | res (hB : oB = .cells 65 [.int .i64 b.most, .tlst entT b.l, .int .i64 b.st]) (hA : oA = .resv) : BRel a oB oA b
theorem BRel.ren {a : Nat} {oB oA : AObj} {b : BM} (h : BRel a oB oA b) {g : Nat → Option Nat} {a' : Nat} (hg : g a = some a') : BRel a' (renO g oB) (renO g oA) b := by
 cases h with
 | own gn hB hA =>
  subst hB hA
  refine .own gn ?_ rfl
  simp only [renO, renVs, renV, hg]
 | tig gn hB hA =>
  subst hB hA
  exact .tig gn rfl rfl
 | res hB hA =>
  subst hB hA
  exact .res rfl rfl
def lowO (L : Nat) (o : AObj) : Bool := match o with | .cells _ cs => (idsVs cs).all (fun n => Nat.blt n L) | _ => true
theorem BRel.low {a : Nat} {oB oA : AObj} {b : BM} (h : BRel a oB oA b) {L : Nat} (hL : Nat.blt a L = true) : lowO L oB = true ∧ lowO L oA = true := by
 cases h with
 | own gn hB hA =>
  subst hB hA
  refine ⟨?_, rfl⟩
  show (Nat.blt a L && true) = true
  rw [hL]
  rfl
 | tig gn hB hA =>
  subst hB hA
  exact ⟨rfl, rfl⟩
 | res hB hA =>
  subst hB hA
  exact ⟨rfl, rfl⟩
abbrev RO (b : BM) : AObj := .cells 72 [.int .i64 b.most, .lst entT b.l, .bool b.sl]
theorem ord_le {x y : ByteArray} : ordL x.data.toList y.data.toList ≤ 0 ↔ sLt y x = false := by
 show ordL x.data.toList y.data.toList ≤ 0 ↔ Op.bytesLess y.data.toList x.data.toList = false
 unfold ordL
 by_cases h : x.data.toList = y.data.toList
 ·rw [if_pos h, h, bl_irrefl]
  simp
 ·rw [if_neg h]
  cases h2 : Op.bytesLess x.data.toList y.data.toList with
  | true =>
   have h3 : Op.bytesLess y.data.toList x.data.toList = false := by
    cases h3 : Op.bytesLess y.data.toList x.data.toList with
    | false => rfl
    | true =>
     have := bl_trans _ _ _ h2 h3
     rw [bl_irrefl] at this
     cases this
   rw [h3]
   simp
  | false =>
   have h3 : Op.bytesLess y.data.toList x.data.toList = true := by
    cases h3 : Op.bytesLess y.data.toList x.data.toList with
    | true => rfl
    | false => exact absurd (bl_total _ _ h2 h3) h
   rw [h3]
   simp
theorem aft_cases {b : BM} (hw : BW b) (x : entT.El) : (¬ 0 < (b.l.length : Int) ∧ okAft b.l x.1 = true) ∨ (0 < (b.l.length : Int) ∧ ∃ y : entT.El, b.l[((b.l.length : Int) - 1).toNat]? = some y ∧ okAft b.l x.1 = sLt y.1 x.1) := by
 by_cases h0 : 0 < (b.l.length : Int)
 ·right
  have hi : b.l.length - 1 < b.l.length := by omega
  refine ⟨h0, b.l[b.l.length - 1], ?_, ?_⟩
  ·rw [show ((b.l.length : Int) - 1).toNat = b.l.length - 1 by omega]
   exact List.getElem?_eq_getElem hi
  ·unfold okAft
   rw [List.getElem?_eq_getElem hi]
 ·left
  refine ⟨h0, ?_⟩
  unfold okAft
  rw [List.getElem?_eq_none (by omega)]
end Go.Proofs.Ytkjoofinfhdcaaa
