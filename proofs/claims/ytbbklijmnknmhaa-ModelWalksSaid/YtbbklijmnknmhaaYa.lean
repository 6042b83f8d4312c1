/-
  slices.Insert at pairs, as what it makes of an array of the code's own.
  slices.Delete at pairs, as what it makes of an array of the code's own.
  The order of strings as a number, and lists without a fault: plain Lean.
  Tables: the place of a key, by the code.
  slices.Clone at pairs: an array of the caller's own.
  Differences behind others: plain Lean.
  The parts of a view; the newest entry of a key, by both.
  The map of a view, by the reference.
  The parts of a view: plain Lean.
  Views that are more than is looked at.
  Maps and items that are more than is looked at; items turned round.
  Tables: items applied one after the other, and in one go. Plain Lean.
  Differences applied to a map, by the reference.
  Writes to a map: plain Lean.
-/
import Derived.Test.YtbbklijmnknmhaaIa
import Derived.Test.YtbbklijmnknmhaaE5
import Derived.Shelf.SlicesE.Delete
import Derived.Test.YtbbklijmnknmhaaUe
namespace Go.Proofs.Ytbbklijmnknmhaa
open Av Go.Proofs Go.Lib

def insA (xs : List AV) (h : Hp) (K : AV → Hp → Prop) : Prop := match xs with
 | [.own id g n, .int .i64 i, .own id2 g2 m] => match h[id]?, h[id2]? with
  | some (.arr T (.st [.str, .str]) l _ g'), some (.arr _ (.st [.str, .str]) l2 _ g2') => match Nat.beq T 50 with
   | true => need (g' = g ∧ g2' = g2 ∧ n ≤ l.length ∧ 0 ≤ i ∧ i.toNat ≤ n ∧ m ≤ l2.length ∧ 0 < m ∧ n + m ≤ 1000000000 ∧ id ≠ id2)
     (putK h id (.arr T pairT (l.take i.toNat ++ (l2.take m ++ (l.take n).drop i.toNat)) false (g + 1)) fun h => K (.own id (g + 1) (n + m)) h)
   | false => False
  | _, _ => False
 | _ => False
theorem setCells_row {P : Program} {w : World} {b : Nat} {cur : Array Value} {T : TypeId} (hg : w.heap[b]? = some (.cells cur T (0, 0))) {o : Nat} {vs : List Value} (hle : o + vs.length ≤ cur.size) (h1 : ∀ v ∈ vs, v.oneCell' = true) :
  w.setCells b o vs = w.setRow b (cur.toList.take o ++ vs ++ cur.toList.drop (o + vs.length)).toArray := by
 have hc : ∀ j, j < cur.size → (w.cell? ⟨b, j, none⟩).isSome = true := fun j hj => by
  simp [World.cell?, hg, Array.getElem?_eq_getElem hj]
 have hf : ∀ j, w.frozen? ⟨b, j, none⟩ = false := fun j => by simp [World.frozen?, hg]
 have e1 := run_storeCells_at P b o T vs 0 cur w hg (by simpa using hle) h1
 have e2 := run_storeCells_cells (P := P) b o vs 0 w (fun j hj => hc _ (by omega)) (fun j hj => hf _) h1
 rw [e1] at e2
 simp only [Nat.add_zero] at e2
 injection e2 with _ e3
 exact e3.symm
theorem own_turn {s : St} (hok : Ok s) {id : Nat} {T : TypeId} {t : Ty} {l l' : List t.El} {f : Bool} {g : Nat} (ho : s.h[id]? = some (.arr T t l f g)) {v' : Value} {w' : World} {ys : List Value}
  (hown : w'.ownsRow 0 T t.size v' l'.length ys) (hrl : RL s (rowsA t l') ys) (h1 : ∀ u ∈ ys, u.oneCell' = true) (hw : Gb s.w w' (blkOf (s.σ id))) (hb : ∀ b, blkOf v' = some b → blkOf (s.σ id) = some b ∨ s.w.heap.size ≤ b) :
  Step s (s.turn id (.arr T t l' false (g + 1)) v' w') ∧ Ok (s.turn id (.arr T t l' false (g + 1)) v' w') := by
 have hcmp : Cmp (.arr T t l f g) (s.σ id) (.arr T t l' false (g + 1)) v' := .arr _ _ _ _ _ _ _ _ _ _ (Nat.le_succ _) (fun e => by omega)
 have hst := St.turn_step ho hcmp hw hb
 refine ⟨hst, St.turn_ok hok ho hcmp hw hb ⟨ys, ?_, h1, fun i x hi => RT_mono hst t x _ _ (fun _ _ hv => hv) (RL_rows hrl h1 i x hi), fun hq => by cases hq⟩⟩
 simp only [St.turn, upd_same]
 exact hown
set_option maxHeartbeats 1000000 in
theorem ins_ok {xs : List AV} {h : Hp} {K : AV → Hp → Prop} (hen : Av.Enters Try.prog 54) (hk : insA xs h K) : Av.Enters Try.prog 54 ∧ ∀ s, s.h = h → Ok s → ∀ cs, RL s xs cs →
  Calls Try.prog 54 cs.toArray s.w fun e w' => ∃ s' v cr, e = .returned cr ∧ s'.w = w' ∧ Step s s' ∧ Ok s' ∧ R s' v cr ∧ K v s'.h := by
 refine ⟨hen, fun s hs hok cs hr => ?_⟩
 subst hs
 unfold insA at hk
 split at hk
 ·rename_i id g n i id2 g2 m
  split at hk
  ·rename_i T l f g' T2 l2 f2 g2' ho ho2
   split at hk
   ·rename_i hT
    have hT := Nat.eq_of_beq_eq_true hT
    subst hT
    obtain ⟨⟨rfl, rfl, hnl, hi0, hin, hml, hm0, hbig, hne⟩, hk2⟩ := need_elim hk
    clear hk
    obtain ⟨i, rfl⟩ : ∃ q : Nat, i = q := ⟨i.toNat, by omega⟩
    simp only [Int.toNat_natCast] at hin hk2
    simp only [RL] at hr
    obtain ⟨v0, _, rfl, hv0, v1, _, rfl, hv1, v2, _, rfl, hv2, rfl⟩ := hr
    simp only [R] at hv0 hv1 hv2
    subst hv1
    obtain ⟨_, base, cap, rfl, hσ0⟩ := hv0
    obtain ⟨_, len, hσ⟩ := (hσ0 _ _ _ _ _ ho).2 rfl
    obtain ⟨_, base2, cap2, rfl, hσ20⟩ := hv2
    obtain ⟨_, len2, hσ2⟩ := (hσ20 _ _ _ _ _ ho2).2 rfl
    clear hσ0 hσ20
    have hlt := (List.getElem?_eq_some_iff.1 ho).1
    have hput : put s.h id (.arr 50 pairT (l.take i ++ (l2.take m ++ (l.take n).drop i)) false (g' + 1)) = s.h.set id (.arr 50 pairT (l.take i ++ (l2.take m ++ (l.take n).drop i)) false (g' + 1)) := by
     unfold put; rw [if_pos hlt]
    rw [putK_eq, hput] at hk2
    obtain ⟨ie, z, hie, hzs, hzb, hz0, hzc⟩ := prInfo
    -- the two rows
    obtain ⟨xs, hown, hone, hrow, _⟩ := hok.obj id _ ho
    obtain ⟨ys, hown2, hone2, hrow2, _⟩ := hok.obj id2 _ ho2
    have hRLx := rows_RL hown.1 hrow
    have hRLy := rows_RL hown2.1 hrow2
    have hxl : xs.length = l.length * 2 := hown.1
    have hyl : ys.length = l2.length * 2 := hown2.1
    rw [hσ] at hown
    rw [hσ2] at hown2
    have hts : Ty.size pairT = 2 := rfl
    obtain ⟨rfl, hlc, hRCx⟩ := own_RC hok ho hσ
    obtain ⟨rfl, hlc2, hRCy⟩ := own_RC hok ho2 hσ2
    have hl2ne : l2 ≠ [] := fun e => by rw [e] at hml; simp at hml; omega
    obtain ⟨vb, hvb, hRCv⟩ := hRCy hl2ne
    subst hvb
    rcases hown2.2 with ⟨he, _⟩ | ⟨vb', cap2', cur2, he, _, hg2, _, hcm2, hcs2, htake2⟩
    ·cases he
    cases he
    have hcs2 : cur2.size = cap2 * 2 := hcs2
    have htake2 : cur2.toList.take (l2.length * 2) = ys := htake2
    obtain ⟨vs, hvsd⟩ : ∃ vs, vs = ys.take (m * 2) := ⟨_, rfl⟩
    have hvl : vs.length = m * 2 := by rw [hvsd, List.length_take]; omega
    have hRLv : RL s (rowsA pairT (l2.take m)) vs := by rw [hvsd, ← rowsA_take]; exact RL_take _ hRLy
    have h1v : ∀ u ∈ vs, u.oneCell' = true := fun u hu => hone2 u (by rw [hvsd] at hu; exact List.mem_of_mem_take hu)
    have hvs : ∀ j v, vs[j]? = some v → s.w.cell? ⟨vb, 0 + j, none⟩ = some v := fun j v hj => by
     rw [hvsd, List.getElem?_take] at hj
     split at hj
     ·rw [← htake2, List.getElem?_take] at hj
      split at hj
      ·rw [Nat.zero_add]; simp [World.cell?, hg2]; simpa using hj
      ·cases hj
     ·cases hj
    obtain ⟨cs, hcsd⟩ : ∃ cs, cs = xs.take (n * 2) := ⟨_, rfl⟩
    have hcl : cs.length = n * 2 := by rw [hcsd, List.length_take]; omega
    have hRLc : RL s (rowsA pairT (l.take n)) cs := by rw [hcsd, ← rowsA_take]; exact RL_take _ hRLx
    have h1c : ∀ u ∈ cs, u.oneCell' = true := fun u hu => hone u (by rw [hcsd] at hu; exact List.mem_of_mem_take hu)
    -- what the new row is
    have hl'len : (l.take i ++ (l2.take m ++ (l.take n).drop i)).length = n + m := by
     simp only [List.length_append, List.length_take, List.length_drop]; omega
    have hRLn : RL s (rowsA pairT (l.take i ++ (l2.take m ++ (l.take n).drop i))) (cs.take (i * 2) ++ (vs ++ cs.drop (i * 2))) := by
     rw [rowsA_append, rowsA_append]
     refine RL_append ?_ (RL_append hRLv ?_)
     ·have e : l.take i = (l.take n).take i := by rw [List.take_take, Nat.min_eq_left hin]
      rw [e, ← rowsA_take pairT (l.take n) i]
      exact RL_take _ hRLc
     ·rw [← rowsA_drop pairT (l.take n) i]
      exact RL_drop _ hRLc
    have h1n : ∀ u ∈ cs.take (i * 2) ++ (vs ++ cs.drop (i * 2)), u.oneCell' = true := by
     intro u hu
     rcases List.mem_append.1 hu with hu | hu
     ·exact h1c u (List.mem_of_mem_take hu)
     ·rcases List.mem_append.1 hu with hu | hu
      ·exact h1v u hu
      ·exact h1c u (List.mem_of_mem_drop hu)
    -- the end of all roads
    have fin : ∀ (v' : Value) (w' : World) (zs : List Value), RL s (rowsA pairT (l.take i ++ (l2.take m ++ (l.take n).drop i))) zs → (∀ u ∈ zs, u.oneCell' = true) → (∃ b cp, v' = .slice (some ⟨b, 0, none⟩) (n + m) cp) → w'.ownsRow 0 50 2 v' (n + m) zs → Gb s.w w' (blkOf (s.σ id)) → (∀ b, blkOf v' = some b → blkOf (s.σ id) = some b ∨ s.w.heap.size ≤ b) →
      ∃ s' v cr, Ending.returned v' = .returned cr ∧ s'.w = w' ∧ Step s s' ∧ Ok s' ∧ R s' v cr ∧ K v s'.h := by
     intro v' w' zs hzr hz1 hv' hrow' hgb hbb
     obtain ⟨hst, hok'⟩ := own_turn hok ho (l' := l.take i ++ (l2.take m ++ (l.take n).drop i)) (by rw [hl'len]; exact hrow') hzr hz1 hgb hbb
     refine ⟨_, .own id (g' + 1) (n + m), v', rfl, rfl, hst, hok', ?_, hk2⟩
     obtain ⟨b, cp, rfl⟩ := hv'
     simp only [R]
     refine ⟨by unfold kn; rw [turn_get ho], _, _, rfl, fun T' t' l3 f3 g3 hq => ?_⟩
     rw [turn_get ho] at hq
     cases hq
     exact ⟨Nat.le_refl _, fun _ => ⟨by rw [hl'len]; exact Nat.le_refl _, n + m, by simp only [St.turn, upd_same]⟩⟩
    by_cases hie' : i = n
    ·-- at the end
     subst hie'
     have hb0 : base = none → i = 0 ∧ cap = 0 := by
      rintro rfl
      rcases hown.2 with ⟨he, hz⟩ | ⟨_, _, _, he, _⟩
      ·injection he with _ h1 h2; exact ⟨by omega, h2⟩
      ·cases he
     have hcm : cap ≤ 9223372036854775807 := by
      rcases hown.2 with ⟨he, hz⟩ | ⟨_, _, _, he, _, _, _, hcm, _⟩
      ·injection he with _ h1 h2; omega
      ·injection he with _ h1 h2; rw [h2]; exact hcm
     have hpre := own_prefix hown hnl hb0
     have hm2 : (l2.take m).length = m := by rw [List.length_take]; omega
     obtain ⟨v', w', news, hrun, hnews, h1news, hrow', hgb, hvb⟩ := append_run tbOk (T := 22) (e := 50) (ti := _) (te := _) rfl rfl rfl (t := pairT) rfl hpre (m := l2.take m) (cx := .slice (some ⟨vb, 0, none⟩) m cap2) ⟨some ⟨vb, 0, none⟩, cap2, by rw [hm2], fun _ => ⟨vb, 0, rfl, by rw [← rowsA_take]; simpa only [Nat.zero_add] using RC_take _ hRCv⟩⟩ (by rw [hm2]; exact ⟨by omega, by show (i + m) * 32 ≤ _; omega⟩) 0
     rw [hm2] at hrow'
     have hrunT : ∀ ty, (Builtin.append_ #[22, 22] ty #[.slice base i cap, .slice (some ⟨vb, 0, none⟩) m cap2]).run Try.prog s.w = .ok v' w' := fun ty => hrun
     refine Calls.mono (ins_end base i cap vb 0 m cap2 s.w w' v' hm0 (by omega) hcm hb0 hrunT) ?_
     rintro e w2 ⟨rfl, rfl⟩
     have hnil : (l.take i).drop i = [] := List.drop_eq_nil_of_le (by rw [List.length_take]; omega)
     have hblk : (Value.slice base i cap).ownBlock = blkOf (s.σ id) := by rw [hσ]; cases base <;> rfl
     refine fin v' w2 (cs ++ (news ++ [])) ?_ ?_ ?_ ?_ ?_ ?_
     ·rw [hnil, rowsA_append, rowsA_append]
      exact RL_append hRLc (RL_append hnews (by simp [rowsA, RL]))
     ·intro u hu
      rcases List.mem_append.1 hu with hu | hu
      ·exact h1c u hu
      ·rw [List.append_nil] at hu; exact h1news u hu
     ·rcases hrow'.2 with ⟨_, hz⟩ | ⟨b, cp, cur, he, _⟩
      ·omega
      ·exact ⟨b, cp, he⟩
     ·rw [List.append_nil, hcsd]; exact hrow'
     ·rw [← hblk]; exact hgb
     ·intro b hb
      rw [← hblk]
      rw [← ownBlock_blk hrow'] at hb
      rcases hvb with h | h
      ·rw [h] at hb; exact .inl hb
      ·rw [h] at hb; cases hb; exact .inr (Nat.le_refl _)
    ·have hilt : i < n := by omega
     have hlne : l ≠ [] := fun e => by rw [e] at hnl; simp at hnl; omega
     obtain ⟨b, hb, _⟩ := hRCx hlne
     subst hb
     rcases hown.2 with ⟨he, _⟩ | ⟨b', cap', cur, he, _, hg, _, hcm, hcsz, htake⟩
     ·cases he
     cases he
     have hcsz : cur.size = cap * 2 := hcsz
     have htake : cur.toList.take (l.length * 2) = xs := htake
     have hcm : cap ≤ 9223372036854775807 := hcm
     have hcsc : cs = cur.toList.take (n * 2) := by rw [hcsd, ← htake, List.take_take, Nat.min_eq_left (by omega)]
     have hcell : ∀ j v, cs[j]? = some v → s.w.cell? ⟨b, 0 + j, none⟩ = some v := fun j v hj => by
      rw [hcsc, List.getElem?_take] at hj
      split at hj
      ·rw [Nat.zero_add]; simp [World.cell?, hg]; simpa using hj
      ·cases hj
     have hbne : vb ≠ b := by
      rintro rfl
      exact hne (hok.inj id id2 _ _ vb ho ho2 rfl rfl (.inl (by rw [hσ]; rfl)) (.inl (by rw [hσ2]; rfl)))
     by_cases hroom : n + m ≤ cap
     ·refine Calls.mono (ins_shift b 0 n cap i vb 0 m cap2 cs vs s.w hilt hm0 hroom hcm hbne hcl hvl hcell (fun j hj => by rw [Nat.zero_add]; simp [World.cell?, hg]; omega) (fun j _ => by simp [World.frozen?, hg]) hvs h1c h1v _ _ _ _ (by simp [World.shape?, hg2]; exact ⟨rfl, rfl⟩) (by simp [World.shape?, hg]; exact ⟨rfl, rfl⟩) (by omega) (by simp [World.frozen?, hg2]) (by simp [World.frozen?, hg2])) ?_
      rintro e w2 ⟨rfl, rfl⟩
      have hCl : (cs.drop (i * 2)).length = (n - i) * 2 := by rw [List.length_drop, hcl]; omega
      have h1C : ∀ u ∈ cs.drop (i * 2), u.oneCell' = true := fun u hu => h1c u (List.mem_of_mem_drop hu)
      rw [Nat.zero_add, Nat.zero_add]
      have hg0 : s.w.drew.heap[b]? = some (.cells cur 50 (0, 0)) := hg
      rw [setCells_row (P := Try.prog) hg0 (by rw [hCl]; omega) h1C]
      obtain ⟨cur1, hcur1⟩ : ∃ cur1 : Array Value, cur1 = (cur.toList.take ((i + m) * 2) ++ cs.drop (i * 2) ++ cur.toList.drop ((i + m) * 2 + (cs.drop (i * 2)).length)).toArray := ⟨_, rfl⟩
      have hcl0 : cur.toList.length = cap * 2 := by rw [Array.length_toList, hcsz]
      have hs1 : cur1.size = cap * 2 := by
       rw [hcur1]
       simp only [List.size_toArray, List.length_append, List.length_take, List.length_drop, hcl0, hCl]
       omega
      rw [← hcur1]
      have hg1 := setRow_heap s.w.drew b cur cur1 _ _ hg0
      rw [setCells_row (P := Try.prog) hg1 (by rw [hvl]; omega) h1v]
      obtain ⟨cur2', hcur2⟩ : ∃ c2 : Array Value, c2 = (cur1.toList.take (i * 2) ++ vs ++ cur1.toList.drop (i * 2 + vs.length)).toArray := ⟨_, rfl⟩
      have hcl1 : cur1.toList.length = cap * 2 := by rw [Array.length_toList, hs1]
      have hs2 : cur2'.size = cap * 2 := by
       rw [hcur2]
       simp only [List.size_toArray, List.length_append, List.length_take, List.length_drop, hcl1, hvl]
       omega
      rw [← hcur2]
      have hg2' := setRow_heap _ b cur1 cur2' _ _ hg1
      refine fin _ _ _ hRLn h1n ⟨_, _, rfl⟩ ⟨?_, .inr ⟨b, cap, cur2', rfl, Nat.zero_le _, hg2', hroom, hcm, hs2, ?_⟩⟩ ?_ (fun b' hb' => .inl (by rw [hσ]; exact hb'))
      ·simp only [List.length_append, List.length_take, hCl, hvl, hcl]; omega
      ·have e1 : cur1.toList.take (i * 2) = cs.take (i * 2) := by
        rw [hcur1]
        simp only [List.append_assoc]
        rw [List.take_append_of_le_length (by rw [List.length_take, hcl0]; omega), List.take_take, Nat.min_eq_left (by omega), hcsc, List.take_take, Nat.min_eq_left (by omega)]
       have e2 : cur1.toList.drop (i * 2 + vs.length) = cs.drop (i * 2) ++ cur.toList.drop ((i + m) * 2 + (cs.drop (i * 2)).length) := by
        rw [hcur1]
        simp only [List.append_assoc]
        rw [List.drop_append_of_le_length (by rw [List.length_take, hcl0, hvl]; omega), List.drop_eq_nil_of_le (by rw [List.length_take, hcl0, hvl]; omega), List.nil_append]
       rw [hcur2]
       show (cur1.toList.take (i * 2) ++ vs ++ cur1.toList.drop (i * 2 + vs.length)).take ((n + m) * 2) = _
       rw [e1, e2, ← List.append_assoc, List.take_append_of_le_length (by simp only [List.length_append, List.length_take, hCl, hvl, hcl]; omega), List.take_of_length_le (by simp only [List.length_append, List.length_take, hCl, hvl, hcl]; omega), List.append_assoc]
      ·rw [hσ]
       refine ⟨rfl, rfl, rfl, Nat.le_succ _, by simp only [World.setRow, Array.size_modify]; exact Nat.le_refl _, fun k _ hk => ?_⟩
       have hkb : k ≠ b := fun e => hk (by rw [e]; rfl)
       rw [setRow_other _ b k _ hkb, setRow_other _ b k _ hkb]
       rfl
     ·refine Calls.mono (ins_grow ie z hie hzs hzb hz0 hzc b 0 n cap i vb 0 m cap2 cs vs s.w hilt hm0 (by omega) (by omega) (by omega) hcl hvl hcell hvs h1c h1v) ?_
      rintro e w2 ⟨rfl, rfl⟩
      have hCl : (cs.drop (i * 2)).length = (n - i) * 2 := by rw [List.length_drop, hcl]; omega
      have h1C : ∀ u ∈ cs.drop (i * 2), u.oneCell' = true := fun u hu => h1c u (List.mem_of_mem_drop hu)
      have hGge := grownCap_ge s.w (n + m) cap 50
      have hGle := grownCap_le_maxLen s.w (n + m) cap 50 (by unfold maxLen; omega)
      generalize grownCap s.w (n + m) cap 50 = G at hGge hGle ⊢
      obtain ⟨ROW, hROW⟩ : ∃ ROW : Array Value, ROW = (cs.take (i * 2)).toArray ++ Builtin.zeroCells z.cells (n + m - i) ++ Builtin.zeroCells z.cells (G - (n + m)) := ⟨_, rfl⟩
      rw [← hROW]
      have hzl : ∀ q, (Builtin.zeroCells z.cells q).size = q * 2 := fun q => by simp [Builtin.zeroCells, hzc]
      have hRs : ROW.size = G * 2 := by
       rw [hROW]
       simp only [Array.size_append, List.size_toArray, List.length_take, hcl, hzl]
       omega
      have hRt : ROW.toList.take (i * 2) = cs.take (i * 2) := by
       rw [hROW]
       simp only [Array.toList_append, List.append_assoc]
       rw [List.take_append_of_le_length (by simp only [List.length_take, hcl]; omega)]
       exact List.take_of_length_le (by simp only [List.length_take, hcl]; omega)
      have hRl : ROW.toList.length = G * 2 := by rw [Array.length_toList, hRs]
      have hg0 : (s.w.alloc (.cells ROW 50)).drew.heap[s.w.heap.size]? = some (.cells ROW 50 (0, 0)) := World.alloc_heap_new s.w _
      rw [setCells_row (P := Try.prog) hg0 (by rw [hvl]; omega) h1v]
      obtain ⟨cur1, hcur1⟩ : ∃ cur1 : Array Value, cur1 = (ROW.toList.take (i * 2) ++ vs ++ ROW.toList.drop (i * 2 + vs.length)).toArray := ⟨_, rfl⟩
      have hs1 : cur1.size = G * 2 := by
       rw [hcur1]
       simp only [List.size_toArray, List.length_append, List.length_take, List.length_drop, hRl, hvl]
       omega
      rw [← hcur1]
      have hg1 := setRow_heap _ s.w.heap.size ROW cur1 _ _ hg0
      have hg1' : ((s.w.alloc (.cells ROW 50)).drew.setRow s.w.heap.size cur1).drew.heap[s.w.heap.size]? = some (.cells cur1 50 (0, 0)) := hg1
      rw [setCells_row (P := Try.prog) hg1' (by rw [hCl]; omega) h1C]
      obtain ⟨cur2', hcur2⟩ : ∃ c2 : Array Value, c2 = (cur1.toList.take ((i + m) * 2) ++ cs.drop (i * 2) ++ cur1.toList.drop ((i + m) * 2 + (cs.drop (i * 2)).length)).toArray := ⟨_, rfl⟩
      have hcl1 : cur1.toList.length = G * 2 := by rw [Array.length_toList, hs1]
      have hs2 : cur2'.size = G * 2 := by
       rw [hcur2]
       simp only [List.size_toArray, List.length_append, List.length_take, List.length_drop, hcl1, hCl]
       omega
      rw [← hcur2]
      have hg2' := setRow_heap _ s.w.heap.size cur1 cur2' _ _ hg1'
      refine fin _ _ _ hRLn h1n ⟨_, _, rfl⟩ ⟨?_, .inr ⟨s.w.heap.size, G, cur2', rfl, Nat.zero_le _, hg2', hGge, hGle, hs2, ?_⟩⟩ ?_ (fun b' hb' => .inr (by cases hb'; exact Nat.le_refl _))
      ·simp only [List.length_append, List.length_take, hCl, hvl, hcl]; omega
      ·have e1 : cur1.toList.take ((i + m) * 2) = cs.take (i * 2) ++ vs := by
        rw [hcur1]
        show (ROW.toList.take (i * 2) ++ vs ++ ROW.toList.drop (i * 2 + vs.length)).take ((i + m) * 2) = _
        rw [hRt, List.take_append_of_le_length (by simp only [List.length_append, List.length_take, hvl, hcl]; omega), List.take_of_length_le (by simp only [List.length_append, List.length_take, hvl, hcl]; omega)]
       rw [hcur2]
       show (cur1.toList.take ((i + m) * 2) ++ cs.drop (i * 2) ++ cur1.toList.drop ((i + m) * 2 + (cs.drop (i * 2)).length)).take ((n + m) * 2) = _
       rw [e1, List.take_append_of_le_length (by simp only [List.length_append, List.length_take, hCl, hvl, hcl]; omega), List.take_of_length_le (by simp only [List.length_append, List.length_take, hCl, hvl, hcl]; omega), List.append_assoc]
      ·refine ⟨rfl, rfl, rfl, by show _ ≤ s.w.drawn + 1 + 1; omega, ?_, fun k hkl _ => ?_⟩
       ·simp only [World.setRow, Array.size_modify]
        show _ ≤ ((s.w.alloc _).drew.setRow _ _).heap.size
        simp only [World.setRow, Array.size_modify]
        show _ ≤ (s.w.alloc _).heap.size
        rw [World.size_alloc]
        omega
       ·have hkb : k ≠ s.w.heap.size := by omega
        rw [setRow_other _ s.w.heap.size k _ hkb]
        show ((s.w.alloc _).drew.setRow _ _).heap[k]? = _
        rw [setRow_other _ s.w.heap.size k _ hkb]
        show (s.w.alloc _).heap[k]? = _
        exact Go.heap_alloc_old s.w _ hkl
   ·exact hk.elim
  ·exact hk.elim
 ·exact hk.elim
end Go.Proofs.Ytbbklijmnknmhaa
set_option linter.unusedVariables false
set_option linter.unusedSimpArgs false
namespace Go.Proofs.Ytbbklijmnknmhaa
open Go.Shelf Go.RowKit Go.Lib Go.Proofs

section
variable {P : Program}
theorem run_clear_k (w : World) (t e ty : TypeId) (z : Value) (ht : P.underlying t = some (.slice e)) (hv : ∀ w, (zeroValue e).run P w = .ok z w) (b o n c : Nat) (hn : 0 < n)
  (h1 : ∀ v ∈ (Builtin.zeroCells z.cells n).toList, v.oneCell' = true) (hc : ∀ j, j < (Builtin.zeroCells z.cells n).toList.length → (w.cell? ⟨b, o + j, none⟩).isSome = true) (hf : ∀ j, j < (Builtin.zeroCells z.cells n).toList.length → w.frozen? ⟨b, o + j, none⟩ = false) :
  (Builtin.clear_ #[t] ty #[.slice (some ⟨b, o, none⟩) n c]).run P w = .ok (.tuple #[]) (w.setCells b o (Builtin.zeroCells z.cells n).toList) := by
 have hst := run_storeCells_cells (P := P) b o (Builtin.zeroCells z.cells n).toList 0 w (by simpa using hc) (by simpa using hf) h1
 simp only [Nat.add_zero] at hst
 obtain ⟨m, rfl⟩ : ∃ m, n = m + 1 := ⟨n - 1, by omega⟩
 simp [Builtin.clear_, run_underlying ht, hv, hst]
end
abbrev zP : Value := .agg #[.string ⟨#[]⟩, .string ⟨#[]⟩]
theorem zP_len (q : Nat) : (Builtin.zeroCells zP.cells q).toList.length = q * 2 := by simp [Builtin.zeroCells, Value.cells]
theorem zP_one (q : Nat) : ∀ v ∈ (Builtin.zeroCells zP.cells q).toList, v.oneCell' = true := by
 intro v hv
 simp only [Builtin.zeroCells, Array.toList_map, List.mem_map] at hv
 obtain ⟨i, _, rfl⟩ := hv
 have : i % (Value.cells zP).size = 0 ∨ i % (Value.cells zP).size = 1 := by
  have : (Value.cells zP).size = 2 := rfl
  rw [this]
  omega
 rcases this with h | h <;> rw [h] <;> rfl
set_option maxHeartbeats 4000000 in
set_option maxRecDepth 1000000 in
theorem del_run (b off n c i j : Nat) (cs : List Value) (w : World) (hij : i < j) (hj : j ≤ n) (hnc : n ≤ c) (hm : c ≤ 9223372036854775807) (hcl : cs.length = n * 2)
  (hcs : ∀ t v, cs[t]? = some v → w.cell? ⟨b, off + t, none⟩ = some v) (hfz : ∀ t, w.frozen? ⟨b, off + t, none⟩ = false) (h1c : ∀ v ∈ cs, v.oneCell' = true) :
  Calls Try.prog 53 #[.slice (some ⟨b, off, none⟩) n c, .int .i64 i, .int .i64 j] w fun e w' =>
   e = .returned (.slice (some ⟨b, off, none⟩) (n - (j - i)) c) ∧ w' = (w.drew.setCells b (off + i * 2) (cs.drop (j * 2))).setCells b (off + (i + (n - j)) * 2) (Builtin.zeroCells zP.cells (n - (i + (n - j)))).toList := by
 have mixed := mixed
 obtain ⟨ie, z, hie, hzs, hzb, hz0, hzc⟩ := prInfo
 have hcell : ∀ t, t < n * 2 → (w.cell? ⟨b, off + t, none⟩).isSome = true := fun t ht => by
  rw [hcs t _ (List.getElem?_eq_getElem (by omega))]; rfl
 obtain ⟨news, hnews⟩ : ∃ news, news = cs.drop (j * 2) := ⟨_, rfl⟩
 have hlen : news.length = (n - j) * 2 := by rw [hnews, List.length_drop, hcl]; omega
 obtain ⟨A, hA, hsrc⟩ : ∃ A : Addr, (if c = j then some (⟨b, off, none⟩ : Addr) else some ⟨b, off + j * 2, none⟩) = some A ∧ Hid (∀ t u, news[t]? = some u → w.drew.cell? (A.add t) = some u) := by
  by_cases h : c = j
  ·refine ⟨⟨b, off, none⟩, by simp [h], fun t u hu => ?_⟩
   have h0 : news.length = 0 := by rw [hlen]; omega
   rw [List.length_eq_zero_iff.1 h0] at hu
   simp at hu
  ·refine ⟨⟨b, off + j * 2, none⟩, by simp [h], fun t u hu => ?_⟩
   rw [hnews, List.getElem?_drop] at hu
   rw [Addr.add_lit, Nat.add_assoc]
   exact hcs (j * 2 + t) u hu
 have s1 : Hid (news.length = (n - j) * 2) := hlen
 have s2 : Hid (∀ u ∈ news, u.oneCell' = true) := by
  intro u hu
  rw [hnews] at hu
  exact h1c u (List.mem_of_mem_drop hu)
 have s3 : Hid (∀ t, t < news.length → (w.drew.cell? ⟨b, off + i * 2 + t, none⟩).isSome = true ∧ w.drew.frozen? ⟨b, off + i * 2 + t, none⟩ = false) := by
  intro t ht
  rw [hlen] at ht
  rw [Nat.add_assoc]
  exact ⟨hcell _ (by omega), hfz _⟩
 obtain ⟨W1, hW1⟩ : ∃ W1, W1 = w.drew.setCells b (off + i * 2) news := ⟨_, rfl⟩
 have hcell1 : ∀ t, t < n * 2 → (W1.cell? ⟨b, off + t, none⟩).isSome = true := fun t ht => by
  rw [hW1]
  exact isSome_setCells b _ _ _ (fun q hq => by rw [Nat.add_assoc]; exact hcell _ (by omega)) _ (hcell t ht)
 have hfz1 : ∀ t, W1.frozen? ⟨b, off + t, none⟩ = false := fun t => by rw [hW1, World.frozen?_setCells]; exact hfz t
 have hcl2 : ∀ ty, (Builtin.clear_ #[22] ty #[.slice (some ⟨b, off + (i + (n - j)) * 2, none⟩) (n - (i + (n - j))) (c - (i + (n - j)))]).run Try.prog W1 = .ok (.tuple #[]) (W1.setCells b (off + (i + (n - j)) * 2) (Builtin.zeroCells zP.cells (n - (i + (n - j)))).toList) :=
  fun ty => run_clear_k W1 _ 50 ty _ Try.underlying22 Try.zeroValue50 b (off + (i + (n - j)) * 2) _ _ (by omega) (zP_one _)
   (fun t ht => by rw [zP_len] at ht; rw [Nat.add_assoc]; exact hcell1 _ (by omega)) (fun t ht => by rw [Nat.add_assoc]; exact hfz1 _)
 have X : Aside (W1 = w.drew.setCells b (off + i * 2) (cs.drop (j * 2))) := by rw [hW1, hnews]; exact rfl
 have hW : Hid (W1 = w.drew.setCells b (off + i * 2) news) := hW1
 have hic : i ≤ c := by omega
 have hjc : j ≤ c := by omega
 clear hW1 hnews hlen hcell1 hfz1 hcell
 go_enter Try.func53, Try.ntmps53
 go_wp2_with fail
 go_region_law_o (refine step_append_room rfl (.tmp 22) (.tmp 25) 22 rfl 50 ie 2 Try.underlying22 hie hzs b off i c (by simp [Act.eval, Act.put]) A (n - j) (c - j) news (by simp [Act.eval, Act.put]) s1.out hsrc.out s2.out (by omega) s3.out ?_; rw [← hW.out])
 go_wp2
 go_ret
 refine ⟨by rw [show n - (j - i) = i + (n - j) by omega]; rfl, ?_⟩
 rw [← X.out]
 rfl
end Go.Proofs.Ytbbklijmnknmhaa
namespace Go.Proofs.Ytbbklijmnknmhaa
open Av Go.Proofs Go.Lib
def delA (xs : List AV) (h : Hp) (K : AV → Hp → Prop) : Prop := match xs with
 | [.own id g n, .int .i64 i, .int .i64 j] => match h[id]? with
  | some (.arr T (.st [.str, .str]) l _ g') => match Nat.beq T 50 with
   | true => need (g' = g ∧ n ≤ l.length ∧ 0 ≤ i ∧ i < j ∧ j.toNat ≤ n)
     (putK h id (.arr T pairT (l.take i.toNat ++ (l.take n).drop j.toNat) false (g + 1)) fun h => K (.own id (g + 1) (n - (j.toNat - i.toNat))) h)
   | false => False
  | _ => False
 | _ => False
set_option maxHeartbeats 1000000 in
theorem del_ok {xs : List AV} {h : Hp} {K : AV → Hp → Prop} (hen : Av.Enters Try.prog 53) (hk : delA xs h K) : Av.Enters Try.prog 53 ∧ ∀ s, s.h = h → Ok s → ∀ cs, RL s xs cs →
  Calls Try.prog 53 cs.toArray s.w fun e w' => ∃ s' v cr, e = .returned cr ∧ s'.w = w' ∧ Step s s' ∧ Ok s' ∧ R s' v cr ∧ K v s'.h := by
 refine ⟨hen, fun s hs hok cs hr => ?_⟩
 subst hs
 unfold delA at hk
 split at hk
 ·rename_i id g n i j
  split at hk
  ·rename_i T l f g' ho
   split at hk
   ·rename_i hT
    have hT := Nat.eq_of_beq_eq_true hT
    subst hT
    obtain ⟨⟨rfl, hnl, hi0, hij, hjn⟩, hk2⟩ := need_elim hk
    clear hk
    obtain ⟨i, rfl⟩ : ∃ q : Nat, i = q := ⟨i.toNat, by omega⟩
    obtain ⟨j, rfl⟩ : ∃ q : Nat, j = q := ⟨j.toNat, by omega⟩
    simp only [Int.toNat_natCast] at hjn hk2
    have hij : i < j := by omega
    simp only [RL] at hr
    obtain ⟨v0, _, rfl, hv0, v1, _, rfl, hv1, v2, _, rfl, hv2, rfl⟩ := hr
    simp only [R] at hv0 hv1 hv2
    subst hv1 hv2
    obtain ⟨_, base, cap, rfl, hσ0⟩ := hv0
    obtain ⟨_, len, hσ⟩ := (hσ0 _ _ _ _ _ ho).2 rfl
    clear hσ0
    have hlt := (List.getElem?_eq_some_iff.1 ho).1
    have hput : put s.h id (.arr 50 pairT (l.take i ++ (l.take n).drop j) false (g' + 1)) = s.h.set id (.arr 50 pairT (l.take i ++ (l.take n).drop j) false (g' + 1)) := by
     unfold put; rw [if_pos hlt]
    rw [putK_eq, hput] at hk2
    obtain ⟨xs, hown, hone, hrow, _⟩ := hok.obj id _ ho
    have hRLx := rows_RL hown.1 hrow
    have hxl : xs.length = l.length * 2 := hown.1
    rw [hσ] at hown
    obtain ⟨rfl, hlc, hRCx⟩ := own_RC hok ho hσ
    have hlne : l ≠ [] := fun e => by rw [e] at hnl; simp at hnl; omega
    obtain ⟨b, hb, _⟩ := hRCx hlne
    subst hb
    rcases hown.2 with ⟨he, _⟩ | ⟨b', cap', cur, he, _, hg, _, hcm, hcsz, htake⟩
    ·cases he
    cases he
    have hcsz : cur.size = cap * 2 := hcsz
    have htake : cur.toList.take (l.length * 2) = xs := htake
    have hcm : cap ≤ 9223372036854775807 := hcm
    obtain ⟨cs, hcsd⟩ : ∃ cs, cs = xs.take (n * 2) := ⟨_, rfl⟩
    have hcl : cs.length = n * 2 := by rw [hcsd, List.length_take]; omega
    have hRLc : RL s (rowsA pairT (l.take n)) cs := by
     have : RL s (rowsA pairT (l.take n)) (xs.take (n * 2)) := by rw [← rowsA_take]; exact RL_take _ hRLx
     rw [hcsd]; exact this
    have h1c : ∀ u ∈ cs, u.oneCell' = true := fun u hu => hone u (by rw [hcsd] at hu; exact List.mem_of_mem_take hu)
    have hcsc : cs = cur.toList.take (n * 2) := by rw [hcsd, ← htake, List.take_take, Nat.min_eq_left (by omega)]
    have hcell : ∀ q v, cs[q]? = some v → s.w.cell? ⟨b, 0 + q, none⟩ = some v := fun q v hq => by
     rw [hcsc, List.getElem?_take] at hq
     split at hq
     ·rw [Nat.zero_add]; simp [World.cell?, hg]; simpa using hq
     ·cases hq
    have hl'len : (l.take i ++ (l.take n).drop j).length = n - (j - i) := by
     simp only [List.length_append, List.length_take, List.length_drop]; omega
    have hRLn : RL s (rowsA pairT (l.take i ++ (l.take n).drop j)) (cs.take (i * 2) ++ cs.drop (j * 2)) := by
     rw [rowsA_append]
     refine RL_append ?_ ?_
     ·have e : l.take i = (l.take n).take i := by rw [List.take_take, Nat.min_eq_left (by omega)]
      rw [e, ← rowsA_take pairT (l.take n) i]
      exact RL_take _ hRLc
     ·rw [← rowsA_drop pairT (l.take n) j]
      exact RL_drop _ hRLc
    have h1n : ∀ u ∈ cs.take (i * 2) ++ cs.drop (j * 2), u.oneCell' = true := by
     intro u hu
     rcases List.mem_append.1 hu with hu | hu
     ·exact h1c u (List.mem_of_mem_take hu)
     ·exact h1c u (List.mem_of_mem_drop hu)
    refine Calls.mono (del_run b 0 n cap i j cs s.w hij hjn (by omega) hcm hcl hcell (fun q => by simp [World.frozen?, hg]) h1c) ?_
    rintro e w2 ⟨rfl, rfl⟩
    have hCl : (cs.drop (j * 2)).length = (n - j) * 2 := by rw [List.length_drop, hcl]; omega
    have h1C : ∀ u ∈ cs.drop (j * 2), u.oneCell' = true := fun u hu => h1c u (List.mem_of_mem_drop hu)
    rw [Nat.zero_add, Nat.zero_add]
    have hg0 : s.w.drew.heap[b]? = some (.cells cur 50 (0, 0)) := hg
    rw [setCells_row (P := Try.prog) hg0 (by rw [hCl]; omega) h1C]
    obtain ⟨cur1, hcur1⟩ : ∃ cur1 : Array Value, cur1 = (cur.toList.take (i * 2) ++ cs.drop (j * 2) ++ cur.toList.drop (i * 2 + (cs.drop (j * 2)).length)).toArray := ⟨_, rfl⟩
    have hcl0 : cur.toList.length = cap * 2 := by rw [Array.length_toList, hcsz]
    have hs1 : cur1.size = cap * 2 := by
     rw [hcur1]
     simp only [List.size_toArray, List.length_append, List.length_take, List.length_drop, hcl0, hCl]
     omega
    rw [← hcur1]
    have hg1 := setRow_heap s.w.drew b cur cur1 _ _ hg0
    rw [setCells_row (P := Try.prog) hg1 (by rw [zP_len]; omega) (zP_one _)]
    obtain ⟨Z, hZ⟩ : ∃ Z, Z = (Builtin.zeroCells zP.cells (n - (i + (n - j)))).toList := ⟨_, rfl⟩
    have hZl : Z.length = (n - (i + (n - j))) * 2 := by rw [hZ, zP_len]
    rw [← hZ]
    obtain ⟨cur2, hcur2⟩ : ∃ c2 : Array Value, c2 = (cur1.toList.take ((i + (n - j)) * 2) ++ Z ++ cur1.toList.drop ((i + (n - j)) * 2 + Z.length)).toArray := ⟨_, rfl⟩
    have hcl1 : cur1.toList.length = cap * 2 := by rw [Array.length_toList, hs1]
    have hs2 : cur2.size = cap * 2 := by
     rw [hcur2]
     simp only [List.size_toArray, List.length_append, List.length_take, List.length_drop, hcl1, hZl]
     omega
    rw [← hcur2]
    have hg2 := setRow_heap _ b cur1 cur2 _ _ hg1
    have hgb : Gb s.w ((s.w.drew.setRow b cur1).setRow b cur2) (blkOf (s.σ id)) := by
     rw [hσ]
     refine ⟨rfl, rfl, rfl, Nat.le_succ _, by simp only [World.setRow, Array.size_modify]; exact Nat.le_refl _, fun k _ hk => ?_⟩
     have hkb : k ≠ b := fun e => hk (by rw [e]; rfl)
     rw [setRow_other _ b k _ hkb, setRow_other _ b k _ hkb]
     rfl
    have hrow2 : ((s.w.drew.setRow b cur1).setRow b cur2).ownsRow 0 50 2 (.slice (some ⟨b, 0, none⟩) (n - (j - i)) cap) (n - (j - i)) (cs.take (i * 2) ++ cs.drop (j * 2)) := by
     refine ⟨?_, .inr ⟨b, cap, cur2, rfl, Nat.zero_le _, hg2, by omega, hcm, hs2, ?_⟩⟩
     ·simp only [List.length_append, List.length_take, hCl, hcl]; omega
     ·have e1 : cur1.toList.take ((i + (n - j)) * 2) = cs.take (i * 2) ++ cs.drop (j * 2) := by
       rw [hcur1]
       show (cur.toList.take (i * 2) ++ cs.drop (j * 2) ++ cur.toList.drop (i * 2 + (cs.drop (j * 2)).length)).take ((i + (n - j)) * 2) = _
       rw [List.take_append_of_le_length (by simp only [List.length_append, List.length_take, hCl, hcl0]; omega), List.take_of_length_le (by simp only [List.length_append, List.length_take, hCl, hcl0]; omega), hcsc, List.take_take, Nat.min_eq_left (by omega)]
      rw [hcur2]
      show (cur1.toList.take ((i + (n - j)) * 2) ++ Z ++ cur1.toList.drop ((i + (n - j)) * 2 + Z.length)).take ((n - (j - i)) * 2) = _
      rw [e1, List.append_assoc, List.take_append_of_le_length (by simp only [List.length_append, List.length_take, hCl, hcl]; omega), List.take_of_length_le (by simp only [List.length_append, List.length_take, hCl, hcl]; omega)]
    obtain ⟨hst, hok'⟩ := own_turn hok ho (l' := l.take i ++ (l.take n).drop j) (by rw [hl'len]; exact hrow2) hRLn h1n hgb (fun b' hb' => .inl (by rw [hσ]; exact hb'))
    refine ⟨_, .own id (g' + 1) (n - (j - i)), _, rfl, rfl, hst, hok', ?_, hk2⟩
    simp only [R]
    refine ⟨by unfold kn; rw [turn_get ho], _, _, rfl, fun T' t' l3 f3 g3 hq => ?_⟩
    rw [turn_get ho] at hq
    cases hq
    exact ⟨Nat.le_refl _, fun _ => ⟨by rw [hl'len]; exact Nat.le_refl _, n - (j - i), by simp only [St.turn, upd_same]⟩⟩
   ·exact hk.elim
  ·exact hk.elim
 ·exact hk.elim
/-! ### Calls with contracts of their own, others that are walked through -/
abbrev RawA := List AV → Hp → (AV → Hp → Prop) → Prop
def RawOk (P : Program) (g : FuncId) (f : RawA) : Prop := ∀ (xs : List AV) (h : Hp) (K : AV → Hp → Prop), f xs h K → Av.Enters P g ∧ ∀ s, s.h = h → Ok s → ∀ cs, RL s xs cs →
  Calls P g cs.toArray s.w fun e w' => ∃ s' v cr, e = .returned cr ∧ s'.w = w' ∧ Step s s' ∧ Ok s' ∧ R s' v cr ∧ K v s'.h
def lkr : List (FuncId × RawA) → FuncId → Option RawA
 | [], _ => none
 | p :: l, f => bif Nat.beq p.1 f then some p.2 else lkr l f
def RawsOk (P : Program) (Rs : List (FuncId × RawA)) : Prop := ∀ g f, lkr Rs g = some f → RawOk P g f
theorem RawsOk.nil {P : Program} : RawsOk P [] := fun g f h => by cases h
theorem RawsOk.cons {P : Program} {g : FuncId} {f : RawA} {l : List (FuncId × RawA)} (h : RawOk P g f) (hl : RawsOk P l) : RawsOk P ((g, f) :: l) := by
 intro g' f' h'
 simp only [lkr] at h'
 cases hb : Nat.beq g g' with
 | true =>
  rw [hb] at h'
  have := Nat.eq_of_beq_eq_true hb
  cases h'
  exact this ▸ h
 | false =>
  rw [hb] at h'
  exact hl g' f' h'
def cd0 : CallDA := fun _ _ _ _ _ => False
theorem cd0_ok {P : Program} : CallDOk P cd0 := fun _ _ _ _ _ hk => hk.elim
noncomputable def callR (Rs : List (FuncId × RawA)) (C : Cx) : Nat → CallA
 | 0, _, _, _, _ => False
 | n + 1, g, xs, h, K => match lkr Rs g with
  | some f => f xs h K
  | none => match lkf C.fns g with
   | some fn => bodyE C (fun g xs h K => callR Rs C n g xs h K) [] cd0 fn xs h K
   | none => False
theorem callR_ok {P : Program} {Rs : List (FuncId × RawA)} {C : Cx} (hm : P.follows .mixedOrders = true) (hT : TbOk P C.tb) (hD : SpecsOk P C.specs) (hF : FnsOk P C.fns) (hR : RawsOk P Rs) : ∀ n, CallOk P (callR Rs C n)
 | 0 => fun g xs h K hk => hk.elim
 | n + 1 => fun g xs h K hk => by
  simp only [callR] at hk
  split at hk
  ·rename_i f hl
   exact hR g f hl _ _ _ hk
  ·split at hk
   ·rename_i fn hl
    have hfn := hF g fn hl
    refine ⟨hfn.enters, fun s hs hok cs hr => ?_⟩
    subst hs
    exact bodyE_ok hm hT hD (callR_ok hm hT hD hF hR n) PSpecsOk.nil cd0_ok hfn hk hok hr
   ·exact hk.elim
set_option maxRecDepth 100000 in
theorem fnOk_insPr : FnOk Try.prog 54 Try.f54 := ⟨by rfl, by kernel_rfl, by
 show okCode _ _ = true ∧ drawsOk _ = true
 exact ⟨by kernel_rfl, by kernel_rfl⟩⟩
set_option maxRecDepth 100000 in
theorem fnOk_delPr : FnOk Try.prog 53 Try.f53 := ⟨by rfl, by kernel_rfl, by
 show okCode _ _ = true ∧ drawsOk _ = true
 exact ⟨by kernel_rfl, by kernel_rfl⟩⟩
theorem insPr_ok : RawOk Try.prog 54 insA := fun _ _ _ hk => ins_ok fnOk_insPr.enters hk
theorem delPr_ok : RawOk Try.prog 53 delA := fun _ _ _ hk => del_ok fnOk_delPr.enters hk
end Go.Proofs.Ytbbklijmnknmhaa
namespace Go.Proofs.Ytbbklijmnknmhaa
open Av Bk

theorem ordS_lt {a b : ByteArray} : ordS a b < 0 ↔ sLt a b = true := by
 unfold ordS
 split
 ·rename_i h; simp [h]
 ·rename_i h; split <;> simp [h]
theorem ordS_eq {a b : ByteArray} : ordS a b = 0 ↔ sEq a b = true := by
 unfold ordS
 split
 ·rename_i h
  simp only [sEq_iff]
  exact ⟨fun e => by omega, fun e => absurd e (sLt_ne h)⟩
 ·rename_i h
  split
  ·rename_i h2
   simp only [sEq_iff]
   exact ⟨fun e => by omega, fun e => absurd e.symm (sLt_ne h2)⟩
  ·rename_i h2
   simp only [sEq_iff, true_iff]
   exact sLt_ext (by simpa using h) (by simpa using h2)
theorem two_int {a b c d : Int} (h1 : a = c) (h2 : b = d) : [AV.int .i64 a, .int .i64 b] = [AV.int .i64 c, .int .i64 d] := by rw [h1, h2]
end Go.Proofs.Ytbbklijmnknmhaa
namespace Go.Proofs.Ytbbklijmnknmhaa
open Av Bk

def spFd : DSpec
 | [.lst (.st [.str, .str]) m, .str k] => some (ascP m ∧ m.length ≤ 100000, .tup [.int .i64 (lbP k m), .bool (lkV m k).isSome])
 | _ => none
set_option maxRecDepth 100000 in
theorem fnOk_bSrP : FnOk Try.prog 86 Try.f86 := ⟨by rfl, by kernel_rfl, by
 show okCode _ _ = true ∧ drawsOk _ = true
 exact ⟨by kernel_rfl, by kernel_rfl⟩⟩
end Go.Proofs.Ytbbklijmnknmhaa
namespace Go.Proofs.Ytbbklijmnknmhaa
open Av Go.Proofs Go.Lib

set_option maxRecDepth 100000 in
theorem fnOk_cloneP : FnOk Try.prog 51 Try.f51 := ⟨by rfl, by kernel_rfl, by
 show okCode _ _ = true ∧ drawsOk _ = true
 exact ⟨by kernel_rfl, by kernel_rfl⟩⟩
theorem eq_run (w : World) (a : Option Addr) (cap : Nat) : (Go.binOp BinOp.eql 22 (.slice a 0 cap) (.slice none 0 0)).run Try.prog w = .ok (.bool a.isNone) w := by
 have h : (Op.equal 22 (.slice a 0 cap) (.slice none 0 0)).run Try.prog w = .ok a.isNone w := sliceEq_run 9999 _ _ Try.underlying22 a 0 cap w
 have hb : Go.binOp BinOp.eql 22 (.slice a 0 cap) (.slice none 0 0) = (do pure (.bool (← Op.equal 22 (.slice a 0 cap) (.slice none 0 0)))) := rfl
 rw [hb]
 simp only [Sem.run_bind, h, Result.andThen_ok, Sem.run_pure]
theorem bs_run (w : World) : (Instr.buildSlice 22 0 #[]).run Try.prog w = .ok (.slice (some ⟨w.heap.size, 0, none⟩) 0 0) (w.alloc (.cells #[] 50)) := by
 obtain ⟨ie, z, hie, hzs, hzb, hz0, hzc⟩ := prInfo
 simp [Instr.buildSlice, run_underlying Try.underlying22, sizeOf, typeInfo, zeroValue, hie, hz0, newRow, Instr.fill]
 have h0 : (Array.range 0).map (fun _ => (default : Value)) = #[] := by simp
 first | rw [h0] | simp
theorem ap_run (w : World) (ty : TypeId) (b : Nat) (a : Option Addr) (cap : Nat) : (Builtin.append_ #[22, 22] ty #[.slice (some ⟨b, 0, none⟩) 0 0, .slice a 0 cap]).run Try.prog w = .ok (.slice (some ⟨b, 0, none⟩) 0 0) w := by
 obtain ⟨ie, z, hie, hzs, hzb, hz0, hzc⟩ := prInfo
 cases a <;> simp [Builtin.append_, run_underlying Try.underlying22, Builtin.lenOf, Builtin.firstCells, sizeOf, typeInfo, hie, loadCells, storeCells, loadCellsFrom]
set_option maxHeartbeats 4000000 in
set_option maxRecDepth 100000 in
theorem clone_none (w : World) (a : Option Addr) (cap : Nat) :
  Calls Try.prog 51 #[.slice a 0 cap] w fun e w' => (e = .returned (.slice none 0 0) ∧ w' = w) ∨ (e = .returned (.slice (some ⟨w.heap.size, 0, none⟩) 0 0) ∧ w' = w.alloc (.cells #[] 50)) := by
 have mixed := mixed
 go_enter Try.func51, Try.ntmps51
 cases a with
 | none =>
  go_wp2_with (simp only [eq_run])
  go_ret
  exact .inl ⟨rfl, rfl⟩
 | some a =>
  go_wp2_with (first | simp only [eq_run] | simp only [bs_run] | (at_builtin; refine Lib.wpList_append_run _ rfl _ _ _ _ rfl _ _ rfl rfl _ _ (ap_run _ _ _ _ _) ?_))
  go_ret
  exact .inr ⟨rfl, rfl⟩
def spClP : FSpec
 | [.lst (.st [.str, .str]) m] => some (m.length ≤ 100000, ⟨50, pairT, m⟩)
 | _ => none
def spClP1 : FSpec
 | [.lst (.st [.str, .str]) m] => some (1 ≤ m.length ∧ m.length ≤ 100000, ⟨50, pairT, m⟩)
 | _ => none
set_option maxRecDepth 100000 in
set_option maxHeartbeats 2000000 in
theorem cloneP1_ok : FreshOk Try.prog 51 spClP1 := by
 refine fresh_body (C := cx0) mixed tbOk SpecsOk.nil (callN_ok (C := cx0) mixed tbOk SpecsOk.nil FnsOk.nil 0) fnOk_cloneP ?_
 intro ys p r h hp
 unfold spClP1 at h
 split at h
 ·rename_i ks
  cases h
  obtain ⟨h1, h2⟩ := hp
  conv => whnf
  repeat' first | ((first | refine auT ?_ | refine auF ?_ | with_reducible first | refine auKt ?_ | refine auKf ?_ | refine auNt ?_ | refine auNf ?_ | refine auEt ?_ | refine auEf ?_); conv => whnf) | ((with_reducible first | refine br_dec ?_ ?_ | refine br_ndec ?_ ?_ | refine br_ne ?_ ?_ | refine br_eq ?_ ?_) <;> intro h <;> first | (exfalso; omega) | conv => whnf) | (refine br_intro ?_ ?_ <;> intro h <;> conv => whnf) | ((first | refine auNd ?_ | refine idx_nat (by omega) (fun x hx => ?_) | refine frz_auto ?_ | refine draw_plain ?_ | refine auIx (fun x hx => ?_)); conv => whnf)
  exact ⟨1, 1, false, by simp only [cast_self, Nat.zero_add], by simp only [cast_self, List.take_zero, List.nil_append]; rfl⟩
 ·cases h
theorem cloneP_ok : FreshOk Try.prog 51 spClP := by
 refine ⟨cloneP1_ok.1, fun ys p r hsp hp s hok hh cs hr => ?_⟩
 unfold spClP at hsp
 split at hsp
 ·rename_i m
  cases hsp
  rcases m with _ | ⟨x, m⟩
  ·simp only [RL, R] at hr
   obtain ⟨v, _, rfl, ⟨a, cap, rfl, _, _⟩, rfl⟩ := hr
   have hf : Free s.h 0 := by rw [hh]; exact .inl rfl
   refine Calls.mono (clone_none s.w a cap) ?_
   have key : ∀ (v : Value) (w' : World), Grew s.w w' → (∀ b, blkOf v = some b → s.w.heap.size ≤ b) → w'.ownsRow 0 50 (Ty.size pairT) v 0 [] → (∃ base cap, v = .slice base 0 cap) →
     ∃ s' cr g' f', Ending.returned v = .returned cr ∧ s'.w = w' ∧ Step s s' ∧ Ok s' ∧ s'.h = [.arr 50 pairT [] f' g'] ∧ R s' (.own 0 g' 0) cr := by
    intro v w' hg hb hrow hv
    have hhp : put s.h 0 (.arr 50 pairT [] false 0) = [.arr 50 pairT [] false 0] := by rw [hh]; rfl
    refine ⟨s.new 0 (.arr 50 pairT [] false 0) v w', v, 0, false, rfl, rfl, St.new_step hf hg hb, St.new_ok hok hf hg hb ⟨[], ?_, by simp, fun i x hi => by simp at hi, fun h => by cases h⟩, hhp, ?_⟩
    ·simp only [St.new, upd_same]
     exact hrow
    ·obtain ⟨base, cap, rfl⟩ := hv
     simp only [R]
     refine ⟨by unfold Av.kn; simp only [St.new]; rw [hhp]; rfl, base, cap, rfl, fun T t l f g0 ho => ?_⟩
     simp only [St.new] at ho
     rw [hhp] at ho
     cases ho
     exact ⟨Nat.le_refl _, fun _ => ⟨Nat.le_refl _, 0, by simp only [St.new, upd_same]⟩⟩
   rintro e w' (⟨rfl, rfl⟩ | ⟨rfl, rfl⟩)
   ·exact key _ _ (Grew.refl _) (fun b hb => by cases hb) ⟨rfl, .inl ⟨rfl, rfl⟩⟩ ⟨_, _, rfl⟩
   ·exact key _ _ (Grew.alloc _ _) (fun b hb => by cases hb; exact Nat.le_refl _) ⟨rfl, .inr ⟨_, 0, #[], rfl, Nat.zero_le _, Go.heap_alloc_new _ _, Nat.le_refl _, by decide, rfl, rfl⟩⟩ ⟨_, _, rfl⟩
  ·exact cloneP1_ok.2 _ _ _ (show spClP1 [.lst (.st [.str, .str]) (x :: m)] = some (_, _) from rfl) ⟨by simp, hp⟩ s hok hh cs hr
 ·cases hsp
end Go.Proofs.Ytbbklijmnknmhaa
namespace Go.Proofs.Ytbbklijmnknmhaa
open Av Bk

end Go.Proofs.Ytbbklijmnknmhaa
namespace Go.Proofs.Ytbbklijmnknmhaa
open Av Bk

/-! ### Views without a fault -/
/-! ### Parts -/
end Go.Proofs.Ytbbklijmnknmhaa
namespace Go.Proofs.Ytbbklijmnknmhaa
open Av Bk

end Go.Proofs.Ytbbklijmnknmhaa
namespace Go.Proofs.Ytbbklijmnknmhaa
open Av Bk

end Go.Proofs.Ytbbklijmnknmhaa
namespace Go.Proofs.Ytbbklijmnknmhaa
open Av Bk

theorem any_at {α : Type} {p : α → Bool} {l : List α} {i : Nat} {x : α} (hx : l[i]? = some x) (h : p x = true) : l.any p = true :=
 List.any_eq_true.2 ⟨x, List.mem_of_getElem? hx, h⟩
theorem any_end {α : Type} {p : α → Bool} {l : List α} {i : Nat} (hall : ∀ y ∈ l.take i, p y = false) (hi : l.length ≤ i) : l.any p = false := by
 rw [List.take_of_length_le hi] at hall
 rw [List.any_eq_false]
 intro x hx
 simp [hall x hx]
end Go.Proofs.Ytbbklijmnknmhaa
namespace Go.Proofs.Ytbbklijmnknmhaa
open Av Bk

def turnI (x : itemT.El) : itemT.El := mkI (if x.1 = 1 ∨ x.1 = 2 then 3 - x.1 else x.1) x.2.1 x.2.2.2.1 x.2.2.1
theorem map_take {l : List itemT.El} {i : Nat} {x : itemT.El} (hx : l[i]? = some x) : (l.take (i + 1)).map turnI = (l.take i).map turnI ++ [turnI x] := by
 rw [List.take_add_one, hx, List.map_append]; rfl
end Go.Proofs.Ytbbklijmnknmhaa
namespace Go.Proofs.Ytbbklijmnknmhaa
open Av Bk

/-! ### One after the other -/
end Go.Proofs.Ytbbklijmnknmhaa
namespace Go.Proofs.Ytbbklijmnknmhaa
open Av Bk

set_option maxRecDepth 100000 in
theorem fnOk_rPlace : FnOk Try.prog 61 Try.f61 := ⟨by rfl, by kernel_rfl, by
 show okCode _ _ = true ∧ drawsOk _ = true
 exact ⟨by kernel_rfl, by kernel_rfl⟩⟩
def spPl : DSpec
 | [.lst (.st [.str, .str]) m, .str k] => some (m.length ≤ 4611686018427387904, .int .i64 (lbP k m))
 | _ => none
set_option maxRecDepth 100000 in
set_option maxHeartbeats 4000000 in
theorem rPlace_ok : SpecOk Try.prog 61 spPl := by
 refine spec_body (C := cx0) mixed tbOk SpecsOk.nil (callN_ok (C := cx0) mixed tbOk SpecsOk.nil FnsOk.nil 0) fnOk_rPlace ?_
 intro ys p r h hp
 unfold spPl at h
 split at h
 ·rename_i m k
  cases h
  conv => whnf
  repeat' first | ((first | refine auIk ?_ | refine auIi ?_ | refine auT ?_ | refine auF ?_ | with_reducible first | refine auKt ?_ | refine auKf ?_ | refine auNt ?_ | refine auNf ?_ | refine auEt ?_ | refine auEf ?_); conv => whnf) | ((with_reducible first | refine br_dec ?_ ?_ | refine br_ndec ?_ ?_ | refine br_ne ?_ ?_ | refine br_eq ?_ ?_) <;> intro h <;> first | (exfalso; omega) | conv => whnf) | (refine br_intro ?_ ?_ <;> intro h <;> conv => whnf) | ((first | refine auNd ?_ | refine idx_nat (by omega) (fun x hx => ?_) | refine frz_auto ?_ | refine draw_plain ?_ | refine auIx (fun x hx => ?_)); conv => whnf)
  refine loop_inv [] [5] (fun vs h => ∃ i : Nat, vs = [.int .i64 (i : Int)] ∧ h = [] ∧ i ≤ m.length ∧ ∀ p ∈ m.take i, sLt p.1 k = true) (fun vs _ => match vs with | [.int _ k] => m.length - k.toNat | _ => 0) ?_
  conv => whnf
  refine ⟨⟨0, rfl, rfl, Nat.zero_le _, by simp⟩, ?_⟩
  rintro vs h' - ⟨i, rfl, rfl, hi, hall⟩
  by_cases hil : i < m.length
  ·obtain ⟨y, hy⟩ : ∃ y, m[i]? = some y := ⟨_, List.getElem?_eq_getElem hil⟩
   by_cases hyn : sLt y.1 k = true
   ·conv => whnf
    repeat' first | ((first | refine auIk ?_ | refine auIi ?_ | refine auT ?_ | refine auF ?_ | with_reducible first | refine auKt ?_ | refine auKf ?_ | refine auNt ?_ | refine auNf ?_ | refine auEt ?_ | refine auEf ?_); conv => whnf) | ((with_reducible first | refine br_dec ?_ ?_ | refine br_ndec ?_ ?_ | refine br_ne ?_ ?_ | refine br_eq ?_ ?_) <;> intro h <;> first | (exfalso; omega) | conv => whnf) | (refine br_intro ?_ ?_ <;> intro h <;> conv => whnf) | ((first | refine auNd ?_ | refine idx_nat (by omega) (fun x hx => ?_) | refine frz_auto ?_ | refine draw_plain ?_ | refine auIx (fun x hx => ?_)); conv => whnf)
    refine back_intro (by conv => whnf) rfl ⟨i + 1, rfl, rfl, by omega, fun z hz => ?_⟩ ?_
    ·rw [List.take_add_one, hy] at hz
     rcases List.mem_append.1 hz with hz | hz
     ·exact hall z hz
     ·have : z = y := by simpa using hz
      rw [this]; exact hyn
    ·show m.length - ((i : Int) + 1).toNat < m.length - (i : Int).toNat
     omega
   ·have hyn : sLt y.1 k = false := by simpa using hyn
    conv => whnf
    repeat' first | ((first | refine auIk ?_ | refine auIi ?_ | refine auT ?_ | refine auF ?_ | with_reducible first | refine auKt ?_ | refine auKf ?_ | refine auNt ?_ | refine auNf ?_ | refine auEt ?_ | refine auEf ?_); conv => whnf) | ((with_reducible first | refine br_dec ?_ ?_ | refine br_ndec ?_ ?_ | refine br_ne ?_ ?_ | refine br_eq ?_ ?_) <;> intro h <;> first | (exfalso; omega) | conv => whnf) | (refine br_intro ?_ ?_ <;> intro h <;> conv => whnf) | ((first | refine auNd ?_ | refine idx_nat (by omega) (fun x hx => ?_) | refine frz_auto ?_ | refine draw_plain ?_ | refine auIx (fun x hx => ?_)); conv => whnf)
    rw [lbP_at hall hi (.inr ⟨y, hy, hyn⟩)]
  ·conv => whnf
   repeat' first | ((first | refine auIk ?_ | refine auIi ?_ | refine auT ?_ | refine auF ?_ | with_reducible first | refine auKt ?_ | refine auKf ?_ | refine auNt ?_ | refine auNf ?_ | refine auEt ?_ | refine auEf ?_); conv => whnf) | ((with_reducible first | refine br_dec ?_ ?_ | refine br_ndec ?_ ?_ | refine br_ne ?_ ?_ | refine br_eq ?_ ?_) <;> intro h <;> first | (exfalso; omega) | conv => whnf) | (refine br_intro ?_ ?_ <;> intro h <;> conv => whnf) | ((first | refine auNd ?_ | refine idx_nat (by omega) (fun x hx => ?_) | refine frz_auto ?_ | refine draw_plain ?_ | refine auIx (fun x hx => ?_)); conv => whnf)
   rw [lbP_at hall hi (.inl (by omega))]
 ·cases h
end Go.Proofs.Ytbbklijmnknmhaa
namespace Go.Proofs.Ytbbklijmnknmhaa
open Av Bk

theorem ch_cut {m : List pairT.El} (ha : ascP m) (k : ByteArray) (o : Option ByteArray) : chT m k o = m.take (lbP k m) ++ ((match o with | some v => [mkP k v] | none => []) ++ m.drop (lbP k m + if (lkV m k).isSome = true then 1 else 0)) := by
 cases h : lkV m k with
 | none =>
  rw [if_neg (by decide), Nat.add_zero]
  cases o with
  | some v => exact (fresh_cut ha v h).symm
  | none =>
   show m.filter _ = _
   rw [filt_id (lkV_none.1 h)]
   exact (List.take_append_drop _ _).symm
 | some v =>
  rw [if_pos (by rfl)]
  cases o with
  | none => exact (gone_cut ha h).symm
  | some w =>
   rw [← other_cut ha w h]
   obtain ⟨a, b, h1, h2, _⟩ := tab_some ha h
   rw [← h2, h1, List.set_append_right _ _ (Nat.le_refl _)]
   simp
abbrev wrT : Ty := .st [.str, .str, .bool]
abbrev wOf (w : wrT.El) : Option ByteArray := if w.2.2.1 = true then none else some w.2.1
def wr1 (m : List pairT.El) (w : wrT.El) : List pairT.El := chT m w.1 (wOf w)
def wE1 (w : wrT.El) : Int := if 32 < (w.1.size : Int) ∨ 64 < (w.2.1.size : Int) then 3 else if w.2.2.1 = true ∧ sEq w.2.1 ⟨#[]⟩ = false then 6 else 0
def wEs : List wrT.El → Int
 | [] => 0
 | w :: l => if wE1 w ≠ 0 then wE1 w else wEs l
def wEL (l : List wrT.El) : Int := if l.length = 0 then 6 else if 8 < (l.length : Int) then 3 else wEs l
def wrR (m : List pairT.El) (l : List wrT.El) : List pairT.El × Int :=
 if (mcL m).2 ≠ 0 then ([], (mcL m).2) else if wEL l ≠ 0 then ([], wEL l) else if 4000 < ((l.foldl wr1 m).length : Int) then ([], 5) else (l.foldl wr1 m, 0)
theorem wEs_at : ∀ {l : List wrT.El} {i : Nat} {w : wrT.El}, (∀ y ∈ l.take i, wE1 y = 0) → l[i]? = some w → wE1 w ≠ 0 → wEs l = wE1 w
 | [], i, w, _, h, _ => by simp at h
 | y :: l, 0, w, _, h, he => by
  cases h
  unfold wEs
  rw [if_pos he]
 | y :: l, i + 1, w, ha, h, he => by
  unfold wEs
  rw [if_neg (by simp [ha y (by simp)])]
  exact wEs_at (i := i) (fun z hz => ha z (by simp [hz])) (by simpa using h) he
theorem wEs_end : ∀ {l : List wrT.El}, (∀ y ∈ l, wE1 y = 0) → wEs l = 0
 | [], _ => rfl
 | y :: l, h => by
  unfold wEs
  rw [if_neg (by simp [h y (by simp)])]
  exact wEs_end (fun z hz => h z (by simp [hz]))
theorem wEs_zero : ∀ {l : List wrT.El}, wEs l = 0 → ∀ y ∈ l, wE1 y = 0
 | [], _, y, hy => by cases hy
 | x :: l, h, y, hy => by
  unfold wEs at h
  by_cases he : wE1 x ≠ 0
  ·rw [if_pos he] at h; exact absurd h he
  ·rw [if_neg he] at h
   rcases List.mem_cons.1 hy with rfl | hy
   ·simpa using he
   ·exact wEs_zero h y hy
theorem wr_asc : ∀ {l : List wrT.El} {m : List pairT.El}, ascP m → ascP (l.foldl wr1 m)
 | [], _, h => h
 | w :: l, m, h => wr_asc (l := l) (m := wr1 m w) (chT_asc h _ _)
theorem wr_take {l : List wrT.El} {i : Nat} {w : wrT.El} {m : List pairT.El} (h : l[i]? = some w) : (l.take (i + 1)).foldl wr1 m = wr1 ((l.take i).foldl wr1 m) w := by
 rw [List.take_add_one, h, List.foldl_append]
 rfl
theorem wr_len : ∀ {l : List wrT.El} {m : List pairT.El}, (l.foldl wr1 m).length ≤ m.length + l.length
 | [], m => by simp
 | w :: l, m => by
  have h1 := wr_len (l := l) (m := wr1 m w)
  have h2 : (wr1 m w).length ≤ m.length + 1 := chT_len _ _
  show (l.foldl wr1 (wr1 m w)).length ≤ _
  rw [List.length_cons]
  omega
end Go.Proofs.Ytbbklijmnknmhaa
