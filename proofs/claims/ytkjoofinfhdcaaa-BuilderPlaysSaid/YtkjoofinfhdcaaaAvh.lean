/-
  An abstract reading of values and memory: append to a slice over cells.
  An abstract reading of values and memory: code does what is reckoned.
-/
import Derived.Test.YtkjoofinfhdcaaaAvs
import Derived.Scope
import Derived.Orders
namespace Av
open Go
variable {P : Program} {tb : Tb}
/-! ### A block passes from one number to another -/
def St.pass (s : St) (id p : Nat) (ob : AObj) (v : Value) (w' : World) : St := ⟨upd s.σ p v, put (put s.h id .dead) p ob, w', s.F⟩
section
variable {s : St} {id p : Nat} {o ob : AObj} {v : Value} {w' : World}
theorem pass_free (ho : s.h[id]? = some o) (hf : Free s.h p) (hne : id ≠ p) : Free (put s.h id .dead) p := by
 have hlt : id < s.h.length := (List.getElem?_eq_some_iff.1 ho).1
 rcases hf with rfl | hf
 ·exact .inl (by unfold put; rw [if_pos hlt, List.length_set])
 ·exact .inr (by rw [put_get hlt, if_neg (fun e => hne e.symm)]; exact hf)
theorem pass_get (ho : s.h[id]? = some o) (hf : Free s.h p) (hne : id ≠ p) (i : Nat) : (s.pass id p ob v w').h[i]? = if i = p then some ob else if i = id then some .dead else s.h[i]? := by
 have hlt : id < s.h.length := (List.getElem?_eq_some_iff.1 ho).1
 show (put (put s.h id .dead) p ob)[i]? = _
 by_cases h : i = p
 ·subst h; rw [if_pos rfl, put_same (pass_free ho hf hne)]
 ·rw [if_neg h, put_other (pass_free ho hf hne) ob h, put_get hlt]
theorem pass_old (ho : s.h[id]? = some o) (hf : Free s.h p) (hne : id ≠ p) (ha : o.alive = true) (hm : o.more = []) (hmo : ob.more = []) (hb : ∀ b, blkOf v = some b → blkOf (s.σ id) = some b ∨ s.w.heap.size ≤ b) {i : Nat} {q : AObj} {b : Nat} (h1 : (s.pass id p ob v w').h[i]? = some q) (h2 : q.alive = true) (h3 : Has (s.pass id p ob v w') i q b) :
  (i = p ∧ (Has s id o b ∨ s.w.heap.size ≤ b)) ∨ (i ≠ p ∧ i ≠ id ∧ s.h[i]? = some q ∧ Has s i q b) := by
 rw [pass_get ho hf hne] at h1
 split at h1
 ·rename_i e
  subst e
  cases h1
  have h3 : blkOf (upd s.σ i v i) = some b := h3.one hmo
  rw [upd_same] at h3
  refine .inl ⟨rfl, ?_⟩
  rcases hb b h3 with h | h
  ·exact .inl (.inl h)
  ·exact .inr h
 ·rename_i e
  split at h1
  ·cases h1; cases h2
  ·rename_i e2
   exact .inr ⟨e, e2, h1, Has.of (s' := s.pass id p ob v w') (upd_other _ _ e) h3⟩
theorem pass_own (ho : s.h[id]? = some o) (hf : Free s.h p) (hne : id ≠ p) (ha : o.alive = true) (hm : o.more = []) (hmo : ob.more = []) (hb : ∀ b, blkOf v = some b → blkOf (s.σ id) = some b ∨ s.w.heap.size ≤ b) {b : Nat} (h : OwnI (s.pass id p ob v w') b) : OwnI s b ∨ s.w.heap.size ≤ b := by
 obtain ⟨i, q, h1, h2, h3⟩ := h
 rcases pass_old ho hf hne ha hm hmo hb h1 h2 h3 with ⟨_, h | h⟩ | ⟨_, _, h4, h5⟩
 ·exact .inl ⟨id, o, ho, ha, h⟩
 ·exact .inr h
 ·exact .inl ⟨i, q, h4, h2, h5⟩
theorem pass_step (ho : s.h[id]? = some o) (hf : Free s.h p) (hne : id ≠ p) (ha : o.alive = true) (hm : o.more = []) (hmo : ob.more = []) (hw : Gb s.w w' (blkOf (s.σ id))) (hb : ∀ b, blkOf v = some b → blkOf (s.σ id) = some b ∨ s.w.heap.size ≤ b) : Step s (s.pass id p ob v w') where
 os := hw.os
 tape := hw.tape
 output := hw.output
 drawn := hw.drawn
 size := hw.size
 frn := rfl
 keep := fun b hlt hn => by
  refine ⟨fun h => ?_, hw.block b hlt (fun e => hn ⟨id, o, ho, ha, .inl e.symm⟩)⟩
  rcases pass_own ho hf hne ha hm hmo hb h with h | h
  ·exact hn h
  ·omega
 kn := fun i hi => by
  have hip : i ≠ p := by rintro rfl; rw [hf.kn] at hi; cases hi
  unfold Av.kn at hi ⊢
  rw [pass_get ho hf hne, if_neg hip]
  by_cases e : i = id
  ·rw [if_pos e]
  ·rw [if_neg e]; exact hi
 cells := fun i T cs' hi hc => by
  have hip : i ≠ p := by rintro rfl; rw [hf.kn] at hi; cases hi
  rw [pass_get ho hf hne, if_neg hip] at hc
  split at hc
  ·cases hc
  ·exact ⟨upd_other _ _ hip, cs', hc⟩
 oth := fun i o' hi hc => by
  have hip : i ≠ p := by rintro rfl; rw [hf.kn] at hi; cases hi
  rw [pass_get ho hf hne, if_neg hip] at hc
  split at hc
  ·cases hc
  ·exact ⟨upd_other _ _ hip, o', hc⟩
 arr := fun i T t l' f' g hi hc => by
  have hip : i ≠ p := by rintro rfl; rw [hf.kn] at hi; cases hi
  rw [pass_get ho hf hne, if_neg hip] at hc
  split at hc
  ·cases hc
  ·exact ⟨l', f', g, hc, Nat.le_refl _, fun _ => ⟨upd_other _ _ hip, rfl⟩⟩
theorem pass_ok (hok : Ok s) (ho : s.h[id]? = some o) (hf : Free s.h p) (hne : id ≠ p) (ha : o.alive = true) (hm : o.more = []) (hmo : ob.more = []) (hw : Gb s.w w' (blkOf (s.σ id))) (hb : ∀ b, blkOf v = some b → blkOf (s.σ id) = some b ∨ s.w.heap.size ≤ b) (hobj : ObjR (s.pass id p ob v w') p ob) : Ok (s.pass id p ob v w') := by
 have hst := pass_step ho hf hne ha hm hmo hw hb
 refine ⟨fun i q hi => ?_, fun i j q r b hi hj hqa hra hbi hbj => ?_, fun b h => Nat.lt_of_lt_of_le (hok.fb b h) hw.size, fun b h hF => ?_⟩
 ·have hi0 := hi
  rw [pass_get ho hf hne] at hi
  split at hi
  ·rename_i e; subst e; cases hi; exact hobj
  ·rename_i e
   split at hi
   ·cases hi; trivial
   ·rename_i e2
    cases hqa : q.alive with
    | false => cases q <;> first | trivial | cases hqa
    | true =>
     refine ObjR_mono hst (upd_other _ _ e) (fun b hbb => ?_) (hok.obj i q hi)
     refine hw.block b (own_lt hok ⟨i, q, hi, hqa, hbb⟩) (fun e3 => e2 ?_)
     exact hok.inj i id q o b hi ho hqa ha hbb (.inl e3.symm)
 ·have k1 := pass_old ho hf hne ha hm hmo hb hi hqa hbi
  have k2 := pass_old ho hf hne ha hm hmo hb hj hra hbj
  rcases k1 with ⟨e1, k1⟩ | ⟨e1, e1', k1, k1'⟩
  ·rcases k2 with ⟨e2, _⟩ | ⟨e2, e2', k2, k2'⟩
   ·rw [e1, e2]
   ·exfalso
    rcases k1 with k1 | k1
    ·exact e2' (hok.inj j id r o b k2 ho hra ha k2' k1)
    ·have := own_lt hok ⟨j, r, k2, hra, k2'⟩
     omega
  ·rcases k2 with ⟨e2, k2⟩ | ⟨e2, e2', k2, k2'⟩
   ·exfalso
    rcases k2 with k2 | k2
    ·exact e1' (hok.inj i id q o b k1 ho hqa ha k1' k2)
    ·have := own_lt hok ⟨i, q, k1, hqa, k1'⟩
     omega
   ·exact hok.inj i j q r b k1 k2 hqa hra k1' k2'
 ·rcases pass_own ho hf hne ha hm hmo hb h with h | h
  ·exact hok.dis b h hF
  ·have := hok.fb b hF
   omega
end
/-! ### Append -/
theorem RL_anys (s : St) : ∀ (vs : List Value) (n : Nat), vs.length = n → RL s (List.replicate n .any) vs
 | [], _, rfl => by simp [RL]
 | v :: vs, _, rfl => by
  rw [List.length_cons, List.replicate_succ]
  simp only [RL]
  exact ⟨v, vs, rfl, by simp only [R], RL_anys s vs _ rfl⟩
theorem freeP_ok {h : Hp} {p : Nat} (hp : freeP h p = true) : Free h p := by
 unfold freeP at hp
 rw [Bool.or_eq_true] at hp
 rcases hp with hp | hp
 ·exact .inl (Nat.eq_of_beq_eq_true hp)
 ·split at hp
  ·rename_i e; exact .inr e
  ·cases hp
theorem csl_MG (hT : TbOk P tb) {s : St} (hok : Ok s) {o : Oper} {a : Act} {f : Tr} (hρ : ∀ x, R s (ev f.get x) (a.eval x)) {q : CslQ} (hq : cslO f o = some q) {fin : Tr → AV → Hp → Prop} (h : cslA tb q f s.h fin) : MG P o a s (fin f) := by
 unfold cslO at hq
 split at hq
 ·rename_i c ho
  split at hq
  ·rename_i x y t t' hc hargs htys
   split at hq
   ·rename_i id n cap id2 m cap2 hx hy ht
    cases hq
    have := Nat.eq_of_beq_eq_true ht
    subst this
    have rx := hρ x
    have ry := hρ y
    rw [hx] at rx
    rw [hy] at ry
    unfold cslA at h
    simp only at h
    split at h
    ·rename_i ti hl
     split at h
     ·rename_i e hk
      split at h
      ·rename_i te T cs T2 cs2 he hi hi2
       split at h
       ·rename_i hbq
        obtain ⟨⟨hcl, hnc, hml, hm1, hroom⟩, h⟩ := need_elim h
        obtain ⟨p, hp, h⟩ := h
        simp only [Bool.and_eq_true] at hbq
        have := Nat.eq_of_beq_eq_true hbq.1
        subst this
        have hzl := Nat.eq_of_beq_eq_true hbq.2
        have hf := freeP_ok hp
        have hne : id ≠ p := by
         rintro rfl
         have := hf.kn
         unfold kn at this
         rw [hi] at this
         cases this
        simp only [fN_eq, putK_eq] at h
        simp only [R] at rx ry
        obtain ⟨_, b, hcx, hσ⟩ := rx
        obtain ⟨_, b2, hcy, hσ2⟩ := ry
        have hσ := hσ _ _ hi
        have hσ2 := hσ2 _ _ hi2
        obtain ⟨b', vs, rest, e1, hg, hr, hv1⟩ := hok.obj id _ hi
        rw [hσ] at e1
        cases e1
        obtain ⟨b', vs2, rest2, e1, hg2, hr2, hv2⟩ := hok.obj id2 _ hi2
        rw [hσ2] at e1
        cases e1
        have hvl := RL_vals hr
        have hvl2 := RL_vals hr2
        have hu := slice_und hT hl hk
        obtain ⟨ie, z, hie, hsz, hby, hz, hzf⟩ := (tb_und hT he).info
        obtain ⟨hz1, hz2⟩ := zf_RL (s := s) hzf
        have hzn := RL_vals hz1
        obtain ⟨h63, h48⟩ := hroom
        have hnn : n * te.size ≤ cap * te.size := Nat.mul_le_mul_right _ hnc
        have c1 : ∀ j u, (vs.take (n * te.size))[j]? = some u → s.w.cell? ((⟨b, 0, none⟩ : Addr).add j) = some u := fun j u hju => by
         rw [List.getElem?_take] at hju
         split at hju
         ·rw [Addr.add_mid]
          simp only [World.cell?, hg]
          simp
          rw [List.getElem?_append_left (List.getElem?_eq_some_iff.1 hju).1]
          exact hju
         ·cases hju
        have c2 : ∀ j u, (vs2.take (m * te.size))[j]? = some u → s.w.cell? ((⟨b2, 0, none⟩ : Addr).add j) = some u := fun j u hju => by
         rw [List.getElem?_take] at hju
         split at hju
         ·rw [Addr.add_mid]
          simp only [World.cell?, hg2]
          simp
          rw [List.getElem?_append_left (List.getElem?_eq_some_iff.1 hju).1]
          exact hju
         ·cases hju
        have l1 : (vs.take (n * te.size)).length = n * ie.size := by rw [List.length_take, hvl, hcl, hsz]; omega
        have l2 : (vs2.take (m * te.size)).length = m * ie.size := by rw [List.length_take, hvl2, hsz]; omega
        have o1 : ∀ u ∈ vs2.take (m * te.size), u.oneCell' = true := fun u hu => hv2 u (List.mem_of_mem_take hu)
        have hexec : ∀ r w', (Builtin.append_ #[t, t] o.type #[.slice (some ⟨b, 0, none⟩) n cap, .slice (some ⟨b2, 0, none⟩) m cap2]).run P s.w = .ok r w' → (execOp a.eval o).run P s.w = .ok (.value r) w' := fun r w' hrr => by
         have ha : c.args = #[x, y] := by have := congrArg List.toArray hargs; simpa using this
         have hb : c.argTypes = #[t, t] := by have := congrArg List.toArray htys; simpa using this
         unfold execOp
         simp only [ho, resolve, hc, ha, hb, Sem.run_bind, Sem.run_pure, Result.andThen_ok, invoke, builtin]
         simp [hcx, hcy, hrr]
        have fin' : ∀ (k b3 : Nat) (w' : World) (rest3 vs3 : List Value), (Builtin.append_ #[t, t] o.type #[.slice (some ⟨b, 0, none⟩) n cap, .slice (some ⟨b2, 0, none⟩) m cap2]).run P s.w = .ok (.slice (some ⟨b3, 0, none⟩) (n + m) (n + m + k)) w' →
          Gb s.w w' (some b) → (b3 = b ∨ s.w.heap.size ≤ b3) → vs3.length = k * te.size → (∀ u ∈ vs3, u.oneCell' = true) → w'.heap[b3]? = some (.cells (vs.take (n * te.size) ++ (vs2.take (m * te.size) ++ vs3) ++ rest3).toArray T (0, 0)) → MG P o a s (fin f) := by
         intro k b3 w' rest3 vs3 hrun hgb hb3 hl3 ho3 hh3
         have hgb : Gb s.w w' (blkOf (s.σ id)) := by rw [hσ]; exact hgb
         have hbb : ∀ b', blkOf (.pointer (some ⟨b3, 0, none⟩)) = some b' → blkOf (s.σ id) = some b' ∨ s.w.heap.size ≤ b' := fun b' e => by
          cases e
          rcases hb3 with rfl | hb3
          ·exact .inl (by rw [hσ]; rfl)
          ·exact .inr hb3
         have hst := pass_step (ob := .cells T (cs.take (n * te.size) ++ (cs2.take (m * te.size) ++ List.replicate (k * te.size) AV.any))) hi hf hne rfl rfl rfl hgb hbb
         have hsame : (s.pass id p (.cells T (cs.take (n * te.size) ++ (cs2.take (m * te.size) ++ List.replicate (k * te.size) AV.any))) (.pointer (some ⟨b3, 0, none⟩)) w').σ p = .pointer (some ⟨b3, 0, none⟩) := upd_same _ _ _
         have hobj : ObjR (s.pass id p (.cells T (cs.take (n * te.size) ++ (cs2.take (m * te.size) ++ List.replicate (k * te.size) AV.any))) (.pointer (some ⟨b3, 0, none⟩)) w') p (.cells T (cs.take (n * te.size) ++ (cs2.take (m * te.size) ++ List.replicate (k * te.size) AV.any))) := by
          refine ⟨b3, vs.take (n * te.size) ++ (vs2.take (m * te.size) ++ vs3), rest3, hsame, hh3, RL_append (RL_mono hst _ _ (RL_take _ hr)) (RL_append (RL_mono hst _ _ (RL_take _ hr2)) (RL_anys _ _ _ hl3)), fun u hu => ?_⟩
          rcases List.mem_append.1 hu with hu | hu
          ·exact hv1 u (List.mem_of_mem_take hu)
          ·rcases List.mem_append.1 hu with hu | hu
           ·exact o1 u hu
           ·exact ho3 u hu
         refine ⟨.csl p (n + m) (n + m + k), _, s.pass id p (.cells T (cs.take (n * te.size) ++ (cs2.take (m * te.size) ++ List.replicate (k * te.size) AV.any))) (.pointer (some ⟨b3, 0, none⟩)) w', .inl (hexec _ _ hrun), hst, pass_ok hok hi hf hne rfl rfl rfl hgb hbb hobj, ?_, h k⟩
         simp only [R]
         refine ⟨?_, b3, rfl, fun _ _ _ => hsame⟩
         unfold kn
         rw [pass_get hi hf hne, if_pos rfl]
        have hfc : ∀ w : World, (∀ j u, (vs2.take (m * te.size))[j]? = some u → w.cell? ((⟨b2, 0, none⟩ : Addr).add j) = some u) → (Builtin.firstCells ie.size m (.slice (some ⟨b2, 0, none⟩) m cap2)).run P w = .ok (vs2.take (m * te.size)).toArray w := fun w hw => run_firstCells_some (P := P) w ie.size m ⟨b2, 0, none⟩ m cap2 _ l2 hw
        by_cases hle : n + m ≤ cap
        ·have hcap : cap = n + m + (cap - (n + m)) := by omega
         have hnm : n * te.size + m * te.size ≤ cap * te.size := by rw [← Nat.add_mul]; exact Nat.mul_le_mul_right _ hle
         have hstr := run_storeCells_at P b (n * te.size) T (vs2.take (m * te.size)) 0 _ s.w hg (by rw [l2, hsz]; simp; omega) o1
         have hrow : (vs ++ rest).toArray.toList.take (n * te.size) ++ vs2.take (m * te.size) ++ (vs ++ rest).toArray.toList.drop (n * te.size + (vs2.take (m * te.size)).length) = vs.take (n * te.size) ++ (vs2.take (m * te.size) ++ vs.drop (n * te.size + m * te.size)) ++ rest := by
          rw [List.toList_toArray, List.take_append_of_le_length (by omega), List.drop_append_of_le_length (by rw [l2, hsz]; omega), l2, hsz]
          simp only [List.append_assoc]
         simp only [Nat.add_zero] at hstr
         rw [hrow] at hstr
         refine fin' (cap - (n + m)) b _ rest (vs.drop (n * te.size + m * te.size)) ?_ (setRow_grownBy _ b _) (.inl rfl) ?_ (fun u hu => hv1 u (List.mem_of_mem_drop hu)) (setRow_heap _ _ _ _ _ _ hg)
         ·rw [← hcap]
          have hfc := hfc s.w c2
          rw [hsz] at hfc
          simp [Builtin.append_, run_underlying hu, Go.sizeOf, typeInfo, hie, Builtin.lenOf, hle, hfc, Addr.add_lit, hsz, hstr]
         ·rw [List.length_drop, hvl, hcl, ← Nat.add_mul, ← Nat.sub_mul]
        ·have hr := run_append_grow (P := P) s.w t o.type T ie z hu hie hz ⟨b, 0, none⟩ n cap _ l1 c1 ⟨b2, 0, none⟩ m cap2 _ l2 c2 (by omega) (by omega) (growslice_fits (by omega) (by rw [hby]; exact h48))
         have hge := grownCap_ge s.w (n + m) cap T
         have hcap : grownCap s.w (n + m) cap T = n + m + (grownCap s.w (n + m) cap T - (n + m)) := by omega
         rw [hcap] at hr
         refine fin' (grownCap s.w (n + m) cap T - (n + m)) s.w.heap.size _ [] (Builtin.zeroCells z.cells (grownCap s.w (n + m) cap T - (n + m))).toList (by simpa using hr) ?_ (.inr (Nat.le_refl _)) ?_ ?_ ?_
         ·exact ⟨rfl, rfl, rfl, Nat.le_succ _, by simp, fun k hk _ => heap_alloc_old s.w.drew _ hk⟩
         ·rw [Array.length_toList, size_zeroCells, ← Array.length_toList, hzn, hzl]
         ·intro u hu
          rw [zero_rep (by have := (tb_und hT he).pos; rw [← Array.length_toList]; omega)] at hu
          obtain ⟨l, hl, hul⟩ := List.mem_flatten.1 hu
          rw [List.eq_of_mem_replicate hl] at hul
          exact hz2 u hul
         ·exact (heap_alloc_new s.w.drew _).trans (by congr 2; apply Array.ext'; simp)
       ·exact h.elim
      ·exact h.elim
     ·exact h.elim
    ·exact h.elim
   ·cases hq
  ·cases hq
 ·cases hq
end Av
namespace Av
open Go

/-! ### What is known behind a piece of code -/
structure Post (s : St) (N : Nat) (ds : List Deferred) (K : Tr → Hp → Prop) (a : Act) (w : World) : Prop where
 get : ∃ s' f, s'.w = w ∧ Step s s' ∧ Ok s' ∧ FR s' f.get a ∧ K f s'.h
 dfr : a.defers = ds
 size : a.tmps.size = N
theorem put_size (a : Act) (d : Option Tmp) (v : Value) : (a.put d v).tmps.size = a.tmps.size := by cases d <;> simp [Act.put]
theorem put_defers (a : Act) (d : Option Tmp) (v : Value) : (a.put d v).defers = a.defers := by cases d <;> rfl
def dstOk (N : Nat) (o : Oper) : Bool := match o.dst with | some d => Nat.blt d N | none => true
def okCode (N : Nat) : Code → Bool
 | .region _ ops _ => ops.toList.all (dstOk N)
 | .seq a b => okCode N a && okCode N b
 | .cond _ a b => okCode N a && okCode N b
 | .block _ c => okCode N c
 | .loop c => okCode N c && !hasD c
 | .scope c => okCode N c
 | .rangeFunc _ ps x y => ps.toList.all (fun p => Nat.blt p N) && okCode N x && okCode N y
 | _ => true
section
variable {P : Program}
def CallOk (P : Program) (call : CallA) : Prop :=
 ∀ g xs h K, call g xs h K → Enters P g ∧ ∀ s, s.h = h → Ok s → ∀ cs, RL s xs cs →
  Calls P g cs.toArray s.w fun e w' => ∃ s' v cr, e = .returned cr ∧ s'.w = w' ∧ Step s s' ∧ Ok s' ∧ R s' v cr ∧ K v s'.h

theorem fin_ok {s s' : St} {N : Nat} {f : Tr} {a : Act} (hf : FR s f.get a) (hst : Step s s') (hok : Ok s') (hN : a.tmps.size = N) {o : Oper} (hd : dstOk N o = true) {v : AV} {cv : Value} (hv : R s' v cv) {K : Tr → Hp → Prop}
  (h : (match o.dst with | some d => force v fun v => f.setK d v fun f => K f s'.h | none => K f s'.h)) : Post s N a.defers K (a.put o.dst cv) s'.w := by
 refine ⟨?_, put_defers _ _ _, by rw [put_size]; exact hN⟩
 cases hdst : o.dst with
 | none =>
  rw [hdst] at h
  exact ⟨s', f, rfl, hst, hok, hf.step hst, h⟩
 | some d =>
  rw [hdst] at h
  simp only [force_eq, Tr.setK_eq] at h
  have hlt : d < a.tmps.size := by
   unfold dstOk at hd
   rw [hdst] at hd
   rw [hN]
   simpa using hd
  exact ⟨s', f.set d v, rfl, hst, hok, hf.put hst hlt hv, h⟩
theorem Post.trans {s s' : St} {N : Nat} {ds : List Deferred} {K : Tr → Hp → Prop} {a : Act} {w : World} (hst : Step s s') (h : Post s' N ds K a w) : Post s N ds K a w := by
 obtain ⟨⟨s2, f, h1, h2, h3, h4, h5⟩, h6, h7⟩ := h
 exact ⟨⟨s2, f, h1, hst.trans h2, h3, h4, h5⟩, h6, h7⟩
theorem plainA_ok {C : Cx} (hT : TbOk P C.tb) (hD : SpecsOk P C.specs) {s : St} (hok : Ok s) {N : Nat} {f : Tr} {a : Act} (hf : FR s f.get a) (hN : a.tmps.size = N) {o : Oper} (hd : dstOk N o = true) {K : Tr → Hp → Prop}
  (h : plainA C o (fun f v h => match o.dst with
  | some d => force v fun v => f.setK d v fun f => K f h
  | none => K f h) f s.h) {next : Act → World → Prop} {Q : Exit → Act → World → Prop} (hnext : ∀ a' w', Post s N a.defers K a' w' → next a' w') : o.wp P a s.w next Q := by
 unfold plainA at h
 rw [lenK_eq] at h
 obtain ⟨v, ob, his, hk⟩ := Res.sat_is h
 refine opR_ok hT hD hok (SubH.refl _) (.inl rfl) (ev_R hf) his next Q ?_
 intro cv s' hst hok' hv hh
 refine hnext _ _ (fin_ok hf hst hok' hN hd hv ?_)
 cases ob with
 | none =>
  rw [hh]
  exact hk
 | some ob =>
  rw [hh]
  simp only [forceO_eq, putK_eq] at hk
  exact hk
theorem stepA_ok {C : Cx} (hT : TbOk P C.tb) (hD : SpecsOk P C.specs) {call : CallA} (hcall : CallOk P call) {s : St} (hok : Ok s) {N : Nat} {f : Tr} {a : Act} (hf : FR s f.get a) (hN : a.tmps.size = N) {o : Oper} (hd : dstOk N o = true) {K : Tr → Hp → Prop}
  (h : stepA C call o f s.h K) {next : Act → World → Prop} {Q : Exit → Act → World → Prop} (hnext : ∀ a' w', Post s N a.defers K a' w' → next a' w') : o.wp P a s.w next Q := by
 unfold stepA at h
 simp only at h
 split at h
 ·rename_i q hq
  obtain ⟨v, cv, s', hr, hst, hok', hv, hK⟩ := csl_MG (P := P) hT hok (ev_R hf) hq h
  rcases hr with hr | ⟨hr, rfl⟩
  ·show o.upon P a next Q ((execOp a.eval o).run P s.w)
   rw [hr, Oper.upon_value]
   exact hnext _ _ (fin_ok hf hst hok' hN hd hv hK)
  ·show o.upon P a next Q ((execOp a.eval o).run P s.w)
   rw [hr, Oper.upon_skip]
   exact hnext _ _ (fin_ok hf hst hok' hN hd hv hK)
 split at h
 ·obtain ⟨v, cv, s', hr, hst, hok', hv, hK⟩ := mapA_ok (P := P) hT hok (ev_R hf) h
  rcases hr with hr | ⟨hr, rfl⟩
  ·show o.upon P a next Q ((execOp a.eval o).run P s.w)
   rw [hr, Oper.upon_value]
   exact hnext _ _ (fin_ok hf hst hok' hN hd hv hK)
  ·show o.upon P a next Q ((execOp a.eval o).run P s.w)
   rw [hr, Oper.upon_skip]
   exact hnext _ _ (fin_ok hf hst hok' hN hd hv hK)
 split at h
 ·rename_i g xs hraw
  rw [fl2_eq] at h
  obtain ⟨hg, hc⟩ := hcall g xs s.h _ h
  unfold rawCall at hraw
  split at hraw
  ·rename_i c ho
   split at hraw
   ·cases hraw
   ·split at hraw
    ·rename_i g' first caps hca
     split at hraw
     ·cases hraw
     ·cases hraw
      obtain ⟨us, ys, h1, h2, hcw⟩ := callee_wp hT (ev_R hf) ho hca hg
      have hall : RL s (first ++ (c.args.toList.map (ev f.get) ++ caps)) (us ++ (c.args.toList.map a.eval ++ ys)) := RL_append h1 (RL_append (RL_map (ev_R hf) _) h2)
      refine hcw _ next Q ?_
      refine Calls.mono (hc s rfl hok _ hall) ?_
      rintro e w' ⟨s', v, cr, rfl, rfl, hst, hok', hv, hK⟩
      exact hnext _ _ (fin_ok hf hst hok' hN hd hv hK)
    ·cases hraw
  ·cases hraw
 ·split at h
  ·obtain ⟨nz, hh⟩ := h
   obtain ⟨s1, f1, h1, h2, h3, h4, h5⟩ := normK_ok nz f s _ hok hf hh
   have := plainA_ok hT hD h2 h3 hN hd h5 (next := next) (Q := Q) (fun a' w' hp => hnext a' w' (hp.trans h1))
   rw [h4] at this
   exact this
  ·split at h
   ·obtain ⟨s1, f1, h1, h2, h3, h4, h5⟩ := normK1_ok _ f s _ hok hf h
    have := plainA_ok hT hD h2 h3 hN hd h5 (next := next) (Q := Q) (fun a' w' hp => hnext a' w' (hp.trans h1))
    rw [h4] at this
    exact this
   ·exact plainA_ok hT hD hok hf hN hd h hnext
theorem yielded_get {ops : Array Oper} {j t : Nat} (ht : (ops[j]?).bind (·.dst) = some t) {a : Act} (hlt : t < a.tmps.size) : yielded ops a.tmps j = match a.tmps.getD t undef with | .bool b => some b | _ => none := by
 unfold yielded
 rw [ht]
 simp only [Option.bind_some, Array.getD_eq_getD_getElem?, Array.getElem?_eq_getElem hlt, Option.getD_some]
 cases a.tmps[t] <;> rfl
theorem opsA_ok {C : Cx} (hT : TbOk P C.tb) (hD : SpecsOk P C.specs) {call : CallA} (hcall : CallOk P call) {ops : Array Oper} {N : Nat} (hops : ∀ o ∈ ops.toList, dstOk N o = true) {Q : Exit → Act → World → Prop} :
  ∀ (l : List Oper), (∀ o ∈ l, dstOk N o = true) → ∀ (s : St) (f : Tr) (a : Act) (K : Tr → Hp → Prop), Ok s → FR s f.get a → a.tmps.size = N → opsA C call ops l f s.h K → (∀ a' w', Post s N a.defers K a' w' → Q .normal a' w') → wpList P ops Q l a s.w
 | [], _, s, f, a, K, hok, hf, hN, h, hQ => hQ _ _ ⟨⟨s, f, rfl, Step.refl s, hok, hf, h⟩, rfl, hN⟩
 | o :: rest, hl, s, f, a, K, hok, hf, hN, h, hQ => by
  have hrest : ∀ (s' : St) (f' : Tr) (a' : Act), Step s s' → Ok s' → FR s' f'.get a' → a'.defers = a.defers → a'.tmps.size = N → opsA C call ops rest f' s'.h K → wpList P ops Q rest a' s'.w := fun s' f' a' hst hok' hf' hd hN' hk =>
   opsA_ok hT hD hcall hops rest (fun o ho => hl o (List.mem_cons_of_mem _ ho)) s' f' a' K hok' hf' hN' hk (fun a2 w2 hp => hQ a2 w2 (by rw [hd] at hp; exact hp.trans hst))
  have hd := hl o List.mem_cons_self
  have hrun : ∀ f', FR s f'.get a → stepA C call o f' s.h (fun f h => opsA C call ops rest f h K) → o.wp P a s.w (wpList P ops Q rest) Q := fun f' hf' hs =>
   stepA_ok hT hD hcall hok hf' hN hd hs (fun a' w' hp => by
    obtain ⟨⟨s', f2, rfl, h2, h3, h4, h5⟩, h6, h7⟩ := hp
    exact hrest s' f2 a' h2 h3 h4 h6 h7 h5)
  have hskip : ∀ f', FR s f'.get a → (match o.dst with | some d => f'.setK d .und fun f => opsA C call ops rest f s.h K | none => opsA C call ops rest f' s.h K) → wpList P ops Q rest (a.put o.dst undef) s.w := fun f' hf' hs => by
   cases hdst : o.dst with
   | none =>
    rw [hdst] at hs
    exact hrest s f' a (Step.refl s) hok hf' rfl hN hs
   | some d =>
    rw [hdst] at hs
    simp only [Tr.setK_eq] at hs
    have hlt : d < a.tmps.size := by
     unfold dstOk at hd
     rw [hdst] at hd
     rw [hN]
     simpa using hd
    exact hrest s (f'.set d .und) _ (Step.refl s) hok (hf'.put (Step.refl s) hlt (by simp only [R])) rfl (by rw [put_size]; exact hN) hs
  rw [opsA_cons] at h
  unfold wpList
  split at h
  ·rename_i hg
   rw [if_pos (by simp [Region.wanted, hg])]
   exact .inl (hrun f hf h)
  ·rename_i j want hg
   split at h
   ·exact h.elim
   ·rename_i t ht
    have hlt : t < a.tmps.size := by
     cases hj : ops[j]? with
     | none => rw [hj] at ht; cases ht
     | some oj =>
      rw [hj] at ht
      have hm : oj ∈ ops.toList := by
       obtain ⟨hl, he⟩ := Array.getElem?_eq_some_iff.1 hj
       rw [← he]
       exact Array.mem_toList_iff.2 (Array.getElem_mem hl)
      have := hops oj hm
      unfold dstOk at this
      simp only [Option.bind_some] at ht
      rw [ht] at this
      rw [hN]
      simpa using this
    have hy := yielded_get ht hlt
    have hw : Region.wanted o (yielded ops a.tmps) = (yielded ops a.tmps j == some want) := by simp [Region.wanted, hg]
    simp only at h
    split at h
    ·rename_i b hb
     have hrt := hf t
     rw [hb] at hrt
     simp only [R] at hrt
     rw [hrt] at hy
     simp only at hy
     have hset : ∀ b', b' = b → FR s (f.set t (.bool b')).get a := by
      intro b' e u
      subst e
      by_cases hu : u = t
      ·subst hu
       rcases Tr.get_set_eq f u (.bool b') with e | e <;> rw [e]
       ·simp only [R]; exact hrt
       ·simp only [R]
      ·rw [Tr.get_set_ne f t u _ hu]
       exact hf u
     cases want with
     | true =>
      simp only [Tr.setK_eq] at h
      rcases br_elim h with ⟨rfl, hk⟩ | ⟨rfl, hk⟩
      ·rw [if_pos (by rw [hw, hy]; rfl)]
       exact .inl (hrun _ (hset true rfl) hk)
      ·rw [if_neg (by rw [hw, hy]; decide)]
       exact hskip _ (hset false rfl) (by cases hq : o.dst <;> rw [hq] at hk <;> simpa only [Tr.setK_eq] using hk)
     | false =>
      simp only [Tr.setK_eq] at h
      rcases br_elim h with ⟨rfl, hk⟩ | ⟨rfl, hk⟩
      ·rw [if_neg (by rw [hw, hy]; decide)]
       exact hskip _ (hset true rfl) (by cases hq : o.dst <;> rw [hq] at hk <;> simpa only [Tr.setK_eq] using hk)
      ·rw [if_pos (by rw [hw, hy]; rfl)]
       exact .inl (hrun _ (hset false rfl) hk)
    ·rename_i hb
     have hrt := hf t
     rw [hb] at hrt
     simp only [R] at hrt
     rw [hrt] at hy
     rw [if_neg (by rw [hw, hy]; simp [undef])]
     exact hskip f hf h
    ·exact h.elim
theorem regA_ok {C : Cx} (hT : TbOk P C.tb) (hD : SpecsOk P C.specs) {call : CallA} (hcall : CallOk P call) {ops : Array Oper} {N : Nat} (hops : ∀ o ∈ ops.toList, dstOk N o = true) {Q : Exit → Act → World → Prop} {s : St} {f : Tr} {a : Act} {K : Tr → Hp → Prop} (hok : Ok s) (hf : FR s f.get a) (hN : a.tmps.size = N) (h : regA C call ops f s.h K) (hQ : ∀ a' w', Post s N a.defers K a' w' → Q .normal a' w') : wpList P ops Q ops.toList a s.w := by
 unfold regA at h
 split at h
 ·obtain ⟨nz, hh⟩ := h
  obtain ⟨s1, f1, h1, h2, h3, h4, h5⟩ := normK_ok nz f s _ hok hf hh
  have := opsA_ok hT hD hcall hops (Q := Q) ops.toList hops s1 f1 a K h2 h3 hN h5 (fun a' w' hp => hQ a' w' (hp.trans h1))
  rw [h4] at this
  exact this
 ·exact opsA_ok hT hD hcall hops ops.toList hops s f a K hok hf hN h hQ
theorem opA1_ok {C : Cx} (hT : TbOk P C.tb) (hD : SpecsOk P C.specs) {call : CallA} (hcall : CallOk P call) {ops : Array Oper} {N : Nat} (hops : ∀ o ∈ ops.toList, dstOk N o = true) {Q : Exit → Act → World → Prop}
  {j : Nat} {o : Oper} (hoj : ops[j]? = some o) (hd : dstOk N o = true) {s : St} {f : Tr} {a : Act} {K : Tr → Hp → Prop} (hok : Ok s) (hf : FR s f.get a) (hN : a.tmps.size = N) (h : opsA C call ops [o] f s.h K) {next : Act → World → Prop} (hnext : ∀ a' w', Post s N a.defers K a' w' → next a' w') : wpOp P ops Q j next a s.w := by
 have hrun : ∀ f', FR s f'.get a → stepA C call o f' s.h (fun f h => opsA C call ops [] f h K) → o.wp P a s.w next Q := fun f' hf' hs =>
  stepA_ok hT hD hcall hok hf' hN hd hs (fun a' w' hp => hnext a' w' hp)
 have hskip : ∀ f', FR s f'.get a → (match o.dst with | some d => f'.setK d .und fun f => opsA C call ops [] f s.h K | none => opsA C call ops [] f' s.h K) → next (a.put o.dst undef) s.w := fun f' hf' hs => by
  cases hdst : o.dst with
  | none =>
   rw [hdst] at hs
   exact hnext _ _ ⟨⟨s, f', rfl, Step.refl s, hok, hf', hs⟩, rfl, hN⟩
  | some d =>
   rw [hdst] at hs
   simp only [Tr.setK_eq] at hs
   have hlt : d < a.tmps.size := by
    unfold dstOk at hd
    rw [hdst] at hd
    rw [hN]
    simpa using hd
   exact hnext _ _ ⟨⟨s, f'.set d .und, rfl, Step.refl s, hok, hf'.put (Step.refl s) hlt (by simp only [R]), hs⟩, rfl, by rw [put_size]; exact hN⟩
 rw [opsA_cons] at h
 unfold wpOp
 rw [hoj]
 simp only
 split at h
 ·rename_i hg
  rw [if_pos (by simp [Region.wanted, hg])]
  exact .inl (hrun f hf h)
 ·rename_i j want hg
  split at h
  ·exact h.elim
  ·rename_i t ht
   have hlt : t < a.tmps.size := by
    cases hj : ops[j]? with
    | none => rw [hj] at ht; cases ht
    | some oj =>
     rw [hj] at ht
     have hm : oj ∈ ops.toList := by
      obtain ⟨hl, he⟩ := Array.getElem?_eq_some_iff.1 hj
      rw [← he]
      exact Array.mem_toList_iff.2 (Array.getElem_mem hl)
     have := hops oj hm
     unfold dstOk at this
     simp only [Option.bind_some] at ht
     rw [ht] at this
     rw [hN]
     simpa using this
   have hy := yielded_get ht hlt
   have hw : Region.wanted o (yielded ops a.tmps) = (yielded ops a.tmps j == some want) := by simp [Region.wanted, hg]
   simp only at h
   split at h
   ·rename_i b hb
    have hrt := hf t
    rw [hb] at hrt
    simp only [R] at hrt
    rw [hrt] at hy
    simp only at hy
    have hset : ∀ b', b' = b → FR s (f.set t (.bool b')).get a := by
     intro b' e u
     subst e
     by_cases hu : u = t
     ·subst hu
      rcases Tr.get_set_eq f u (.bool b') with e | e <;> rw [e]
      ·simp only [R]; exact hrt
      ·simp only [R]
     ·rw [Tr.get_set_ne f t u _ hu]
      exact hf u
    cases want with
    | true =>
     simp only [Tr.setK_eq] at h
     rcases br_elim h with ⟨rfl, hk⟩ | ⟨rfl, hk⟩
     ·rw [if_pos (by rw [hw, hy]; rfl)]
      exact .inl (hrun _ (hset true rfl) hk)
     ·rw [if_neg (by rw [hw, hy]; decide)]
      exact hskip _ (hset false rfl) (by cases hq : o.dst <;> rw [hq] at hk <;> simpa only [Tr.setK_eq] using hk)
    | false =>
     simp only [Tr.setK_eq] at h
     rcases br_elim h with ⟨rfl, hk⟩ | ⟨rfl, hk⟩
     ·rw [if_neg (by rw [hw, hy]; decide)]
      exact hskip _ (hset true rfl) (by cases hq : o.dst <;> rw [hq] at hk <;> simpa only [Tr.setK_eq] using hk)
     ·rw [if_pos (by rw [hw, hy]; rfl)]
      exact .inl (hrun _ (hset false rfl) hk)
   ·rename_i hb
    have hrt := hf t
    rw [hb] at hrt
    simp only [R] at hrt
    rw [hrt] at hy
    rw [if_neg (by rw [hw, hy]; simp [undef])]
    exact hskip f hf h
   ·exact h.elim
end
end Av
