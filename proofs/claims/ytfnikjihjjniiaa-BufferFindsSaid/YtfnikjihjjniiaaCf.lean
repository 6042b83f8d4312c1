/-
  Writes into a buffer.
  Batches of writes into a buffer.
  Whether the buffer is awake; its first laws.
  Writes into a buffer, by the reference.
  Batches of writes into a buffer, by the reference; the law of writes.
  The law of writes into a buffer.
  What a buffer has of a key; the law of the work.
  Entries that are newer than a number, by both.
-/
import Derived.Test.YtfnikjihjjniiaaC3
namespace Go.Proofs.Ytfnikjihjjniiaa
open Av Bk

def put1 (out : List entT.El) (x : entT.El) : List entT.El := if foundK x.1 out = true then out.set (lb x.1 out) x else out.take (lb x.1 out) ++ x :: out.drop (lb x.1 out)
def wk1 (out : List entT.El) (x : entT.El) : Int := (out.length : Int) - lb x.1 out + (if foundK x.1 out = true then 0 else 1)
def wrGo (m : Int) : List entT.El → List entT.El → Int → List entT.El × Int × Bool
  | [], out, w => (out, w, true)
  | x :: l, out, w => if foundK x.1 out = true then wrGo m l (put1 out x) (w + wk1 out x) else if (out.length : Int) = m then (out, w + wk1 out x, false) else wrGo m l (put1 out x) (w + wk1 out x)
theorem foundK_lt {key : ByteArray} {l : List entT.El} (h : foundK key l = true) : ∃ y, l[lb key l]? = some y ∧ y.1 = key := by
  unfold foundK at h
  split at h
  · rename_i y hy
    exact ⟨y, hy, sEq_eq h⟩
  · cases h
theorem ins_get {out : List entT.El} {x : entT.El} {j : Nat} (hj : j ≤ out.length) (i : Nat) : (out.take j ++ x :: out.drop j)[i]? = if i < j then out[i]? else if i = j then some x else out[i - 1]? := by
  have hl : (out.take j).length = j := by rw [List.length_take]; omega
  by_cases h : i < j
  · rw [if_pos h, List.getElem?_append_left (by omega), List.getElem?_take, if_pos h]
  · rw [if_neg h, List.getElem?_append_right (by omega), hl]
    by_cases h2 : i = j
    · rw [if_pos h2, h2, Nat.sub_self]; rfl
    · rw [if_neg h2]
      obtain ⟨m, hm⟩ : ∃ m, i - j = m + 1 := ⟨i - j - 1, by omega⟩
      rw [hm, List.getElem?_cons_succ, List.getElem?_drop]
      congr 1
      omega
theorem put1_asc {out : List entT.El} (ha : ascS out) (x : entT.El) : ascS (put1 out x) := by
  have hle := lb_le x.1 out
  unfold put1
  split
  · rename_i hf
    obtain ⟨y, hy, hk⟩ := foundK_lt hf
    have hlt := (List.getElem?_eq_some_iff.1 hy).1
    intro k a b h1 h2
    rw [List.getElem?_set] at h1 h2
    by_cases c1 : lb x.1 out = k
    · rw [if_pos c1, if_pos (by omega)] at h1
      rw [if_neg (by omega)] at h2
      cases h1
      rw [c1] at hy
      rw [← hk]
      exact ha k y b hy h2
    · rw [if_neg c1] at h1
      by_cases c2 : lb x.1 out = k + 1
      · rw [if_pos c2, if_pos (by omega)] at h2
        cases h2
        rw [c2] at hy
        rw [← hk]
        exact ha k a y h1 hy
      · rw [if_neg c2] at h2
        exact ha k a b h1 h2
  · rename_i hf
    intro k a b h1 h2
    rw [ins_get hle] at h1 h2
    by_cases c1 : k + 1 < lb x.1 out
    · rw [if_pos (by omega)] at h1 h2
      exact ha k a b h1 h2
    · rw [if_neg (by omega)] at h2
      by_cases c2 : k + 1 = lb x.1 out
      · rw [if_pos (by omega)] at h1
        rw [if_pos c2] at h2
        cases h2
        exact lb_lt (by omega) h1
      · rw [if_neg c2] at h2
        rw [if_neg (by omega)] at h1
        by_cases c3 : k = lb x.1 out
        · rw [if_pos c3] at h1
          cases h1
          have h2 : out[k]? = some b := h2
          have h3 := lb_ge (key := x.1) ha (by omega) h2
          cases h4 : sLt x.1 b.1 with
          | true => rfl
          | false =>
            exfalso
            apply hf
            unfold foundK
            rw [← c3, h2]
            have := bl_total _ _ h3 h4
            simp [sEq, this]
        · rw [if_neg c3] at h1
          have h2 : out[k]? = some b := h2
          exact ha (k - 1) a b h1 (by rw [show k - 1 + 1 = k by omega]; exact h2)
/-- What the shift of an array's end and a store leave. -/
theorem shift_take {L : List entT.El} {c i M : Nat} {x : entT.El} (hL : L.length = M + 1) (hc : c ≤ M) (hi : i ≤ c) (n : Nat) (hn : n = c - i) :
    ((L.take (i + 1) ++ (((L.drop i).take (c + 1 - i)).take n ++ L.drop (i + 1 + (((L.drop i).take (c + 1 - i)).take n).length))).set i x).take (c + 1) = (L.take c).take i ++ x :: (L.take c).drop i := by
  subst hn
  apply List.ext_getElem?
  intro k
  rw [ins_get (by rw [List.length_take]; omega), List.getElem?_take, List.getElem?_set]
  have hl1 : (L.take (i + 1)).length = i + 1 := by rw [List.length_take]; omega
  have hl2 : (((L.drop i).take (c + 1 - i)).take (c - i)).length = c - i := by simp only [List.length_take, List.length_drop]; omega
  by_cases h1 : k < c + 1
  · rw [if_pos h1]
    by_cases h2 : i = k
    · subst h2
      rw [if_pos rfl, if_pos (by simp only [List.length_append, hl1, hl2, List.length_drop]; omega), if_neg (by omega), if_pos rfl]
    · rw [if_neg h2]
      by_cases h3 : k < i
      · rw [if_pos h3, List.getElem?_append_left (by omega), List.getElem?_take, List.getElem?_take, if_pos (by omega), if_pos (by omega)]
      · rw [if_neg h3, if_neg (by omega), List.getElem?_append_right (by omega), hl1, List.getElem?_append_left (by rw [hl2]; omega), List.getElem?_take, if_pos (by omega), List.getElem?_take, if_pos (by omega), List.getElem?_drop, List.getElem?_take, if_pos (by omega)]
        congr 1
        omega
  · rw [if_neg h1, if_neg (by omega), if_neg (by omega), List.getElem?_take, if_neg (by omega)]
theorem set_take {L : List entT.El} {c i : Nat} {x : entT.El} : (L.set i x).take c = (L.take c).set i x := by
  rw [List.take_set]
theorem wr_vs {n m : Nat} {a b c : AV} {id g : Nat} (h : n = m) : [AV.own id g n, a, b, c] = [AV.own id g m, a, b, c] := by rw [h]
theorem wr_h {o p : AObj} {T : TypeId} {t : Ty} {f : Bool} {g : Nat} {l m : List t.El} (h : l = m) : [o, p, .resv, .resv, .resv, .arr T t l f g] = [o, p, .resv, .resv, .resv, AObj.arr T t m f g] := by rw [h]
theorem wr_vs2 {a c d : AV} {w v : Int} (h : w = v) : [a, AV.int .i64 w, c, d] = [a, AV.int .i64 v, c, d] := by rw [h]
theorem wr_step {m : Int} {l out : List entT.El} {w : Int} {i : Nat} {x : entT.El} (hx : l[i]? = some x) : wrGo m (l.drop i) out w = if foundK x.1 out = true then wrGo m (l.drop (i + 1)) (put1 out x) (w + wk1 out x) else if (out.length : Int) = m then (out, w + wk1 out x, false) else wrGo m (l.drop (i + 1)) (put1 out x) (w + wk1 out x) := by
  rw [List.drop_eq_getElem_cons (List.getElem?_eq_some_iff.1 hx).1, (List.getElem?_eq_some_iff.1 hx).2]
  rfl
theorem wr_vs3 {n m id g : Nat} {c d : AV} {w v : Int} (h1 : n = m) (h2 : w = v) : [AV.own id g n, AV.int .i64 w, c, d] = [AV.own id g m, AV.int .i64 v, c, d] := by rw [h1, h2]
def spWrite : DSpec
  | [.agg [.int .i64 m, .lst (.st [.str, .str, .bool, .int .i64]) b], .lst (.st [.str, .str, .bool, .int .i64]) l] => some (0 ≤ m ∧ m ≤ 1000 ∧ (b.length : Int) ≤ m ∧ ascS b ∧ l.length ≤ 100000, .tup [.lst entT (wrGo m l b 0).1, .int .i64 (wrGo m l b 0).2.1, .bool (wrGo m l b 0).2.2])
  | _ => none
set_option maxRecDepth 100000 in
theorem fnOk_bWrite0 : FnOk Try.prog 32 Try.f32 := ⟨by rfl, by kernel_rfl, by
  show okCode _ _ = true ∧ drawsOk _ = true
  exact ⟨by kernel_rfl, by kernel_rfl⟩⟩
noncomputable def cx31 : Cx := ⟨tb, [], [(39, spFind)]⟩
theorem specs31 : SpecsOk Try.prog cx31.specs := .cons bFind_ok .nil
set_option maxRecDepth 100000 in
set_option maxHeartbeats 4000000 in
theorem bWrite0_ok : SpecOk Try.prog 32 spWrite := by
  refine spec_body (C := cx31) mixed tbOk specs31 (callN_ok (C := cx31) mixed tbOk specs31 FnsOk.nil 0) fnOk_bWrite0 ?_
  intro ys p r h hp
  unfold spWrite at h
  split at h
  · rename_i m b l
    cases h
    obtain ⟨hm0, hm1, hbm, hb, hl⟩ := hp
    obtain ⟨M, rfl⟩ : ∃ M : Nat, m = M := ⟨m.toNat, by omega⟩
    conv => whnf
    repeat' first
      | ((first | refine auT ?_ | refine auF ?_ | with_reducible first | refine auKt ?_ | refine auKf ?_ | refine auNt ?_ | refine auNf ?_ | refine auEt ?_ | refine auEf ?_); conv => whnf)
      | ((with_reducible first | refine br_dec (fun h => ?_) (fun h => ?_) | refine br_ndec (fun h => ?_) (fun h => ?_) | refine br_ne (fun h => ?_) (fun h => ?_) | refine br_eq (fun h => ?_) (fun h => ?_)) <;> first | (exfalso; omega) | conv => whnf)
      | (refine br_intro (fun h => ?_) (fun h => ?_) <;> conv => whnf)
      | ((first | refine auNd ?_ | refine idx_nat (by omega) (fun x hx => ?_) | refine frz_auto ?_ | refine draw_plain ?_ | refine auIx (fun x hx => ?_)); conv => whnf)
    · refine loop_inv [] [4, 5, 6, 20] (fun vs h => ∃ (i c : Nat) (w : Int) (L : List entT.El), vs = [.own 5 0 c, .int .i64 w, .bool true, .int .i64 (i : Int)] ∧ h = [.cells 24 [.int .i64 (M : Int), .lst entT b], .arr 35 entT [] false 0, .resv, .resv, .resv, .arr 35 entT L true 0] ∧ i ≤ l.length ∧ L.length = M + 1 ∧ c ≤ M ∧ ascS (L.take c) ∧ 0 ≤ w ∧ w ≤ 2000 * i ∧ wrGo M l b 0 = wrGo M (l.drop i) (L.take c) w) (fun vs _ => match vs with | [_, _, _, .int _ k] => l.length - k.toNat | _ => 0) ?_
      conv => whnf
      refine ⟨⟨0, b.length, 0, b ++ List.replicate (M + 1 - b.length) (mkE ⟨#[]⟩ ⟨#[]⟩ false 0), wr_vs (Nat.zero_add _), wr_h ?_, Nat.zero_le _, by simp; omega, by omega, by rw [List.take_left']; exact hb; rfl, Int.le_refl _, by omega, by rw [List.take_left']; rfl; rfl⟩, ?_⟩
      · have e : (M : Int) + 1 = ((M + 1 : Nat) : Int) := by omega
        simp only [cast_self]
        rw [e, Int.toNat_natCast, Int.toNat_zero, List.take_zero, List.nil_append, Nat.zero_add, List.drop_replicate]
      rintro vs h' - ⟨i, c, w, L, rfl, rfl, hi, hL, hc, ha, hw0, hw1, hgo⟩
      have hcl : (L.take c).length = c := by rw [List.length_take]; omega
      have hA : ascS (L.take c) ∧ (L.take c).length ≤ 100000 := ⟨ha, by omega⟩
      have hlb : ∀ k, lb k (L.take c) ≤ c := fun k => by have := lb_le k (L.take c); omega
      conv => whnf
      repeat' first
        | ((first | refine auT ?_ | refine auF ?_ | with_reducible first | refine auKt ?_ | refine auKf ?_ | refine auNt ?_ | refine auNf ?_ | refine auEt ?_ | refine auEf ?_); conv => whnf)
        | ((with_reducible first | refine br_dec (fun h => ?_) (fun h => ?_) | refine br_ndec (fun h => ?_) (fun h => ?_) | refine br_ne (fun h => ?_) (fun h => ?_) | refine br_eq (fun h => ?_) (fun h => ?_)) <;> first | (exfalso; omega) | conv => whnf)
        | (refine br_intro (fun h => ?_) (fun h => ?_) <;> conv => whnf)
        | ((first | refine auNd ?_ | refine idx_nat (by omega) (fun x hx => ?_) | refine frz_auto ?_ | refine draw_plain ?_ | refine auIx (fun x hx => ?_)); conv => whnf)
      · obtain ⟨y, hyx⟩ : ∃ y, y = x := ⟨x, rfl⟩
        subst hyx
        have hlb := hlb y.1
        have hstep := wr_step (m := (M : Int)) (out := L.take c) (w := w) hx
        rw [hcl] at hstep
        cases hfd : foundK y.1 (L.take c) with
        | true =>
          have hfl : lb y.1 (L.take c) < c := by
            obtain ⟨z, hz, _⟩ := foundK_lt hfd
            have := (List.getElem?_eq_some_iff.1 hz).1
            omega
          have hk : wk1 (L.take c) y = (c : Int) - lb y.1 (L.take c) := by rw [wk1, hcl, if_pos hfd]; omega
          have hp : put1 (L.take c) y = (L.set (lb y.1 (L.take c)) y).take c := by rw [put1, if_pos hfd, set_take]
          rw [if_pos hfd, hp] at hstep
          repeat' first
            | ((first | refine auT ?_ | refine auF ?_ | with_reducible first | refine auKt ?_ | refine auKf ?_ | refine auNt ?_ | refine auNf ?_ | refine auEt ?_ | refine auEf ?_); conv => whnf)
            | ((with_reducible first | refine br_dec (fun h => ?_) (fun h => ?_) | refine br_ndec (fun h => ?_) (fun h => ?_) | refine br_ne (fun h => ?_) (fun h => ?_) | refine br_eq (fun h => ?_) (fun h => ?_)) <;> first | (exfalso; omega) | conv => whnf)
            | (refine br_intro (fun h => ?_) (fun h => ?_) <;> conv => whnf)
            | ((first | refine auNd ?_ | refine idx_nat (by omega) (fun x hx => ?_) | refine frz_auto ?_ | refine draw_plain ?_ | refine auIx (fun x hx => ?_)); conv => whnf)
          refine back_intro (by conv => whnf) rfl ⟨i + 1, c, w + wk1 (L.take c) y, L.set (lb y.1 (L.take c)) y, wr_vs2 ?_, wr_h ?_, by omega, by rw [List.length_set]; exact hL, hc, ?_, by omega, by omega, hgo.trans hstep⟩ ?_
          · omega
          · rw [Int.toNat_natCast]
          · rw [← hp]; exact put1_asc ha y
          · show l.length - ((i : Int) + 1).toNat < l.length - (i : Int).toNat
            omega
        | false =>
          have hk : wk1 (L.take c) y = (c : Int) - lb y.1 (L.take c) + 1 := by rw [wk1, hcl, if_neg (by rw [hfd]; decide)]
          have hp : put1 (L.take c) y = (L.take c).take (lb y.1 (L.take c)) ++ y :: (L.take c).drop (lb y.1 (L.take c)) := by rw [put1, if_neg (by rw [hfd]; decide)]
          rw [if_neg (by rw [hfd]; decide)] at hstep
          repeat' first
            | ((first | refine auT ?_ | refine auF ?_ | with_reducible first | refine auKt ?_ | refine auKf ?_ | refine auNt ?_ | refine auNf ?_ | refine auEt ?_ | refine auEf ?_); conv => whnf)
            | ((with_reducible first | refine br_dec (fun h => ?_) (fun h => ?_) | refine br_ndec (fun h => ?_) (fun h => ?_) | refine br_ne (fun h => ?_) (fun h => ?_) | refine br_eq (fun h => ?_) (fun h => ?_)) <;> first | (exfalso; omega) | conv => whnf)
            | (refine br_intro (fun h => ?_) (fun h => ?_) <;> conv => whnf)
            | ((first | refine auNd ?_ | refine idx_nat (by omega) (fun x hx => ?_) | refine frz_auto ?_ | refine draw_plain ?_ | refine auIx (fun x hx => ?_)); conv => whnf)
          · rw [hgo, hstep, if_pos (by omega), hk]
            done
          · rw [if_neg (by omega)] at hstep
            have hs := shift_take (L := L) (x := y) hL hc hlb (c + 1 - (lb y.1 (L.take c) + 1)) (by omega)
            have e1 : ((lb y.1 (L.take c) : Int) + 1).toNat = lb y.1 (L.take c) + 1 := by omega
            have e2 : ((c : Int) + 1).toNat = c + 1 := by omega
            refine back_intro (by conv => whnf) rfl ⟨i + 1, c + 1, w + wk1 (L.take c) y, (L.take (lb y.1 (L.take c) + 1) ++ (((L.drop (lb y.1 (L.take c))).take (c + 1 - lb y.1 (L.take c))).take (c + 1 - (lb y.1 (L.take c) + 1)) ++ L.drop (lb y.1 (L.take c) + 1 + (((L.drop (lb y.1 (L.take c))).take (c + 1 - lb y.1 (L.take c))).take (c + 1 - (lb y.1 (L.take c) + 1))).length))).set (lb y.1 (L.take c)) y, wr_vs3 e2 ?_, wr_h ?_, by omega, ?_, by omega, ?_, by omega, by omega, ?_⟩ ?_
            · omega
            · simp only [cast_self, Int.toNat_natCast, e1, e2]
            · simp only [List.length_set, List.length_append, List.length_take, List.length_drop]
              omega
            · rw [hs, ← hp]; exact put1_asc ha y
            · rw [hs, ← hp]; exact hgo.trans hstep
            · show l.length - ((i : Int) + 1).toNat < l.length - (i : Int).toNat
              omega
      · have e : l.length ≤ i := by omega
        rw [List.drop_eq_nil_of_le e] at hgo
        rw [hgo]
        rfl
    · exfalso
      simp at h
      omega
  · cases h
end Go.Proofs.Ytfnikjihjjniiaa
namespace Go.Proofs.Ytfnikjihjjniiaa
open Av Bk

def asE (m : Int) (b l : List entT.El) : Int := if (chB m b).2 ≠ 0 then (chB m b).2 else if 16 < l.length then 3 else errGo l
theorem clGo_zero : ∀ {l : List entT.El} {i : Int} {pv : Option ByteArray}, (clGo pv i l).2 = 0 → (∀ x ∈ l, errX x = 0) ∧ ascS l ∧ ∀ x, l[0]? = some x → falls pv x = false
  | [], _, _, _ => ⟨by simp, fun k x y h => by simp at h, by simp⟩
  | y :: l, i, pv, h => by
    rw [clGo] at h
    split at h
    · rename_i he; exact absurd h he
    · rename_i he
      split at h
      · cases h
      · rename_i hf
        obtain ⟨h1, h2, h3⟩ := clGo_zero h
        refine ⟨fun x hx => ?_, fun k a b ha hb => ?_, fun x hx => ?_⟩
        · rcases List.mem_cons.1 hx with rfl | hx
          · simpa using he
          · exact h1 x hx
        · cases k with
          | zero =>
            cases ha
            have := h3 b (by simpa using hb)
            simpa [falls] using this
          | succ k => exact h2 k a b (by simpa using ha) (by simpa using hb)
        · cases hx
          simpa using hf
theorem chB_zero {m : Int} {b : List entT.El} (h : (chB m b).2 = 0) : 1 ≤ m ∧ m ≤ 16 ∧ (b.length : Int) ≤ m ∧ ascS b ∧ ∀ x ∈ b, errX x = 0 := by
  unfold chB at h
  split at h
  · cases h
  · split at h
    · cases h
    · obtain ⟨h1, h2, _⟩ := clGo_zero h
      exact ⟨by omega, by omega, by omega, h2, h1⟩
theorem asE_zero {m : Int} {b l : List entT.El} (h : asE m b l = 0) : (chB m b).2 = 0 ∧ l.length ≤ 16 ∧ errGo l = 0 := by
  unfold asE at h
  split at h
  · rename_i h1; exact absurd h h1
  · rename_i h1
    split at h
    · cases h
    · exact ⟨by simpa using h1, by omega, h⟩
theorem asE_wr {m : Int} {b l : List entT.El} (h : asE m b l = 0) : 0 ≤ m ∧ m ≤ 1000 ∧ (b.length : Int) ≤ m ∧ ascS b ∧ l.length ≤ 100000 := by
  obtain ⟨h1, h2, h3⟩ := asE_zero h
  obtain ⟨a1, a2, a3, a4, _⟩ := chB_zero h1
  exact ⟨by omega, by omega, a3, a4, by omega⟩
def spAsk : DSpec
  | [.agg [.int .i64 m, .lst (.st [.str, .str, .bool, .int .i64]) b], .lst (.st [.str, .str, .bool, .int .i64]) l] => some (True, .int .i64 (asE m b l))
  | _ => none
set_option maxRecDepth 100000 in
theorem fnOk_bAsk : FnOk Try.prog 31 Try.f31 := ⟨by rfl, by kernel_rfl, by
  show okCode _ _ = true ∧ drawsOk _ = true
  exact ⟨by kernel_rfl, by kernel_rfl⟩⟩
noncomputable def cx32 : Cx := ⟨tb, [], [(24, spChB), (36, spCheck)]⟩
theorem specs32 : SpecsOk Try.prog cx32.specs := .cons bChk_ok (.cons entCheck_ok .nil)
set_option maxRecDepth 100000 in
set_option maxHeartbeats 4000000 in
theorem bAsk_ok : SpecOk Try.prog 31 spAsk := by
  refine spec_body (C := cx32) mixed tbOk specs32 (callN_ok (C := cx32) mixed tbOk specs32 FnsOk.nil 0) fnOk_bAsk ?_
  intro ys p r h hp
  unfold spAsk at h
  split at h
  · rename_i m b l
    cases h
    conv => whnf
    repeat' first
      | ((first | refine auT ?_ | refine auF ?_ | with_reducible first | refine auKt ?_ | refine auKf ?_ | refine auNt ?_ | refine auNf ?_ | refine auEt ?_ | refine auEf ?_); conv => whnf)
      | ((with_reducible first | refine br_dec (fun h => ?_) (fun h => ?_) | refine br_ndec (fun h => ?_) (fun h => ?_) | refine br_ne (fun h => ?_) (fun h => ?_) | refine br_eq (fun h => ?_) (fun h => ?_)) <;> first | (exfalso; omega) | conv => whnf)
      | (refine br_intro (fun h => ?_) (fun h => ?_) <;> conv => whnf)
      | ((first | refine auNd ?_ | refine idx_nat (by omega) (fun x hx => ?_) | refine frz_auto ?_ | refine draw_plain ?_ | refine auIx (fun x hx => ?_)); conv => whnf)
    · rw [asE, if_pos h]
    · rename_i h1
      rw [asE, if_neg (by simpa using h1), if_pos (by omega)]
    · rename_i h1
      have hE : asE m b l = errGo l := by rw [asE, if_neg (by simpa using h1), if_neg (by omega)]
      rw [hE]
      refine loop_inv [] [23] (fun vs h => ∃ i : Nat, vs = [.int .i64 (i : Int)] ∧ h = [.cells 24 [.int .i64 m, .lst entT b]] ∧ i ≤ l.length ∧ ∀ x ∈ l.take i, errX x = 0) (fun vs _ => match vs with | [.int _ k] => l.length - k.toNat | _ => 0) ?_
      refine ⟨⟨0, rfl, rfl, by omega, by simp⟩, ?_⟩
      rintro vs h' - ⟨i, rfl, rfl, hi, hall⟩
      conv => whnf
      repeat' first
        | ((first | refine auT ?_ | refine auF ?_ | with_reducible first | refine auKt ?_ | refine auKf ?_ | refine auNt ?_ | refine auNf ?_ | refine auEt ?_ | refine auEf ?_); conv => whnf)
        | ((with_reducible first | refine br_dec (fun h => ?_) (fun h => ?_) | refine br_ndec (fun h => ?_) (fun h => ?_) | refine br_ne (fun h => ?_) (fun h => ?_) | refine br_eq (fun h => ?_) (fun h => ?_)) <;> first | (exfalso; omega) | conv => whnf)
        | (refine br_intro (fun h => ?_) (fun h => ?_) <;> conv => whnf)
        | ((first | refine auNd ?_ | refine idx_nat (by omega) (fun x hx => ?_) | refine frz_auto ?_ | refine draw_plain ?_ | refine auIx (fun x hx => ?_)); conv => whnf)
      · exact congrArg (AV.int .i64) (errGo_at l i x hall hx h).symm
      · refine back_intro (by conv => whnf) rfl ⟨i + 1, rfl, rfl, by omega, take_succ_all hall hx h⟩ ?_
        show l.length - ((i : Int) + 1).toNat < l.length - (i : Int).toNat
        omega
      · refine congrArg (AV.int .i64) (errGo_zero l (fun y hy => hall y ?_)).symm
        rw [show i = l.length by omega, List.take_length]
        exact hy
  · cases h
def spFits : DSpec
  | [.agg [.int .i64 m, .lst (.st [.str, .str, .bool, .int .i64]) b], .lst (.st [.str, .str, .bool, .int .i64]) l] => some (True, .tup [.bool (asE m b l == 0 && (wrGo m l b 0).2.2), .int .i64 (asE m b l)])
  | _ => none
set_option maxRecDepth 100000 in
theorem fnOk_bFits : FnOk Try.prog 12 Try.f12 := ⟨by rfl, by kernel_rfl, by
  show okCode _ _ = true ∧ drawsOk _ = true
  exact ⟨by kernel_rfl, by kernel_rfl⟩⟩
noncomputable def cx33 : Cx := ⟨tb, [], [(31, spAsk), (32, spWrite)]⟩
theorem specs33 : SpecsOk Try.prog cx33.specs := .cons bAsk_ok (.cons bWrite0_ok .nil)
set_option maxRecDepth 100000 in
set_option maxHeartbeats 4000000 in
theorem bFits_ok : SpecOk Try.prog 12 spFits := by
  refine spec_body (C := cx33) mixed tbOk specs33 (callN_ok (C := cx33) mixed tbOk specs33 FnsOk.nil 0) fnOk_bFits ?_
  intro ys p r h hp
  unfold spFits at h
  split at h
  · rename_i m b l
    cases h
    conv => whnf
    repeat' first
      | ((first | refine auT ?_ | refine auF ?_ | with_reducible first | refine auKt ?_ | refine auKf ?_ | refine auNt ?_ | refine auNf ?_ | refine auEt ?_ | refine auEf ?_); conv => whnf)
      | ((with_reducible first | refine br_dec (fun h => ?_) (fun h => ?_) | refine br_ndec (fun h => ?_) (fun h => ?_) | refine br_ne (fun h => ?_) (fun h => ?_) | refine br_eq (fun h => ?_) (fun h => ?_)) <;> first | (exfalso; omega) | conv => whnf)
      | (refine br_intro (fun h => ?_) (fun h => ?_) <;> conv => whnf)
      | ((first | refine auNd ?_ | refine idx_nat (by omega) (fun x hx => ?_) | refine frz_auto ?_ | refine draw_plain ?_ | refine auIx (fun x hx => ?_)); conv => whnf)
    · rw [beq_eq_false_iff_ne.2 h]; rfl
    · refine need_in (asE_wr h) ?_
      conv => whnf
      rw [h]; rfl
  · cases h
def bt (m : Int) (b l : List entT.El) : Int × List entT.El × Int × Int := if asE m b l ≠ 0 then (0, [], 0, asE m b l) else if (wrGo m l b 0).2.2 = false then (0, [], 0, 5) else (m, (wrGo m l b 0).1, (wrGo m l b 0).2.1, 0)
def spBatch : DSpec
  | [.agg [.int .i64 m, .lst (.st [.str, .str, .bool, .int .i64]) b], .lst (.st [.str, .str, .bool, .int .i64]) l] => some (True, .tup [.agg [.int .i64 (bt m b l).1, .lst entT (bt m b l).2.1], .int .i64 (bt m b l).2.2.1, .int .i64 (bt m b l).2.2.2])
  | _ => none
theorem bt_eq {a c d : Int} {x : List entT.El} {q : Int × List entT.El × Int × Int} (h : q = (a, x, c, d)) : AV.tup [.agg [.int .i64 a, .lst entT x], .int .i64 c, .int .i64 d] = AV.tup [.agg [.int .i64 q.1, .lst entT q.2.1], .int .i64 q.2.2.1, .int .i64 q.2.2.2] := by rw [h]
set_option maxRecDepth 100000 in
theorem fnOk_bBatch : FnOk Try.prog 14 Try.f14 := ⟨by rfl, by kernel_rfl, by
  show okCode _ _ = true ∧ drawsOk _ = true
  exact ⟨by kernel_rfl, by kernel_rfl⟩⟩
set_option maxRecDepth 100000 in
set_option maxHeartbeats 4000000 in
theorem bBatch_ok : SpecOk Try.prog 14 spBatch := by
  refine spec_body (C := cx33) mixed tbOk specs33 (callN_ok (C := cx33) mixed tbOk specs33 FnsOk.nil 0) fnOk_bBatch ?_
  intro ys p r h hp
  unfold spBatch at h
  split at h
  · rename_i m b l
    cases h
    conv => whnf
    repeat' first
      | ((first | refine auT ?_ | refine auF ?_ | with_reducible first | refine auKt ?_ | refine auKf ?_ | refine auNt ?_ | refine auNf ?_ | refine auEt ?_ | refine auEf ?_); conv => whnf)
      | ((with_reducible first | refine br_dec (fun h => ?_) (fun h => ?_) | refine br_ndec (fun h => ?_) (fun h => ?_) | refine br_ne (fun h => ?_) (fun h => ?_) | refine br_eq (fun h => ?_) (fun h => ?_)) <;> first | (exfalso; omega) | conv => whnf)
      | (refine br_intro (fun h => ?_) (fun h => ?_) <;> conv => whnf)
      | ((first | refine auNd ?_ | refine idx_nat (by omega) (fun x hx => ?_) | refine frz_auto ?_ | refine draw_plain ?_ | refine auIx (fun x hx => ?_)); conv => whnf)
    · refine bt_eq ?_
      rw [bt, if_pos h]
    · have hz := h
      refine need_in (asE_wr hz) ?_
      conv => whnf
      repeat' first
        | ((first | refine auT ?_ | refine auF ?_ | with_reducible first | refine auKt ?_ | refine auKf ?_ | refine auNt ?_ | refine auNf ?_ | refine auEt ?_ | refine auEf ?_); conv => whnf)
        | ((with_reducible first | refine br_dec (fun h => ?_) (fun h => ?_) | refine br_ndec (fun h => ?_) (fun h => ?_) | refine br_ne (fun h => ?_) (fun h => ?_) | refine br_eq (fun h => ?_) (fun h => ?_)) <;> first | (exfalso; omega) | conv => whnf)
        | (refine br_intro (fun h => ?_) (fun h => ?_) <;> conv => whnf)
        | ((first | refine auNd ?_ | refine idx_nat (by omega) (fun x hx => ?_) | refine frz_auto ?_ | refine draw_plain ?_ | refine auIx (fun x hx => ?_)); conv => whnf)
      · refine bt_eq ?_
        rw [bt, if_neg (by simp [hz]), if_pos (bnt h)]
      · refine bt_eq ?_
        rw [bt, if_neg (by simp [hz]), if_neg (by rw [bnf h]; decide)]
  · cases h
def spWr1 : DSpec
  | [.agg [.int .i64 m, .lst (.st [.str, .str, .bool, .int .i64]) b], .agg [.str k, .str v, .bool d, .int .i64 s]] => some (True, .tup [.agg [.int .i64 (bt m b [mkE k v d s]).1, .lst entT (bt m b [mkE k v d s]).2.1], .int .i64 (bt m b [mkE k v d s]).2.2.1, .int .i64 (bt m b [mkE k v d s]).2.2.2])
  | _ => none
set_option maxRecDepth 100000 in
theorem fnOk_bWr1 : FnOk Try.prog 17 Try.f17 := ⟨by rfl, by kernel_rfl, by
  show okCode _ _ = true ∧ drawsOk _ = true
  exact ⟨by kernel_rfl, by kernel_rfl⟩⟩
noncomputable def cx34 : Cx := ⟨tb, [], [(14, spBatch)]⟩
theorem specs34 : SpecsOk Try.prog cx34.specs := .cons bBatch_ok .nil
set_option maxRecDepth 100000 in
set_option maxHeartbeats 4000000 in
theorem bWr1_ok : SpecOk Try.prog 17 spWr1 := by
  refine spec_body (C := cx34) mixed tbOk specs34 (callN_ok (C := cx34) mixed tbOk specs34 FnsOk.nil 0) fnOk_bWr1 ?_
  intro ys p r h hp
  unfold spWr1 at h
  split at h
  · rename_i m b k v d s
    cases h
    conv => whnf
    repeat' first
      | ((first | refine auT ?_ | refine auF ?_ | with_reducible first | refine auKt ?_ | refine auKf ?_ | refine auNt ?_ | refine auNf ?_ | refine auEt ?_ | refine auEf ?_); conv => whnf)
      | ((with_reducible first | refine br_dec (fun h => ?_) (fun h => ?_) | refine br_ndec (fun h => ?_) (fun h => ?_) | refine br_ne (fun h => ?_) (fun h => ?_) | refine br_eq (fun h => ?_) (fun h => ?_)) <;> first | (exfalso; omega) | conv => whnf)
      | (refine br_intro (fun h => ?_) (fun h => ?_) <;> conv => whnf)
      | ((first | refine auNd ?_ | refine idx_nat (by omega) (fun x hx => ?_) | refine frz_auto ?_ | refine draw_plain ?_ | refine auIx (fun x hx => ?_)); conv => whnf)
    all_goals rfl
  · cases h
end Go.Proofs.Ytfnikjihjjniiaa
namespace Go.Proofs.Ytfnikjihjjniiaa
open Av Bk

set_option maxRecDepth 100000 in
theorem fnOk_lPut : FnOk Try.prog 30 Try.f30 := ⟨by rfl, by kernel_rfl, by
  show okCode _ _ = true ∧ drawsOk _ = true
  exact ⟨by kernel_rfl, by kernel_rfl⟩⟩
def spPut : DSpec
  | [.str k, .int .i64 s] => some (True, .agg [.str k, .str ⟨#[118]⟩, .bool false, .int .i64 s])
  | _ => none
theorem lPut_ok : SpecOk Try.prog 30 spPut := by
  refine spec_body (C := cx0) mixed tbOk SpecsOk.nil (callN_ok (C := cx0) mixed tbOk SpecsOk.nil FnsOk.nil 0) fnOk_lPut ?_
  intro ys p r h hp
  unfold spPut at h
  split at h
  · cases h
    conv => whnf
  · cases h
set_option maxRecDepth 100000 in
theorem fnOk_shown : FnOk Try.prog 11 Try.f11 := ⟨by rfl, by kernel_rfl, by
  show okCode _ _ = true ∧ drawsOk _ = true
  exact ⟨by kernel_rfl, by kernel_rfl⟩⟩
noncomputable def cx35 : Cx := ⟨tb, [], [(30, spPut), (17, spWr1), (12, spFits), (19, spSeal), (21, spSame), (16, spBSame)]⟩
theorem specs35 : SpecsOk Try.prog cx35.specs := .cons lPut_ok (.cons bWr1_ok (.cons bFits_ok (.cons bSeal_ok (.cons rSameL_ok (.cons rSame_ok .nil)))))
def spShown : DSpec
  | [] => some (True, .bool true)
  | _ => none
set_option maxRecDepth 100000 in
set_option maxHeartbeats 8000000 in
theorem shown_ok : SpecOk Try.prog 11 spShown := by
  refine spec_body (C := cx35) mixed tbOk specs35 (callN_ok (C := cx35) mixed tbOk specs35 FnsOk.nil 0) fnOk_shown ?_
  intro ys p r h hp
  unfold spShown at h
  split at h
  · cases h
    conv => whnf
    repeat' first
      | (refine br_true (by first | with_reducible exact rfl | decide | rfl) ?_; conv => whnf)
      | (refine br_false (by first | with_reducible exact rfl | decide | rfl) ?_; conv => whnf)
      | (refine need_in (by first | exact trivial | exact ⟨rfl, Nat.le_refl _⟩ | decide | (simp only [inR]; omega) | omega) ?_; conv => whnf)
      | (refine frz_auto ?_; conv => whnf)
      | (refine idx_cl ?_; (conv => whnf); refine ⟨by decide, ?_⟩; conv => whnf)
      | fail
    refine .mk [.frz 0 [] [(1, 1)]] ?_
    conv => whnf
    repeat' first
      | (refine br_true (by first | with_reducible exact rfl | decide | rfl) ?_; conv => whnf)
      | (refine br_false (by first | with_reducible exact rfl | decide | rfl) ?_; conv => whnf)
      | (refine need_in (by first | exact trivial | exact ⟨rfl, Nat.le_refl _⟩ | decide | (simp only [inR]; omega) | omega) ?_; conv => whnf)
      | (refine frz_auto ?_; conv => whnf)
      | (refine draw_plain ?_; conv => whnf)
      | (refine idx_cl ?_; (conv => whnf); refine ⟨by decide, ?_⟩; conv => whnf)
      | fail
    refine congrArg AV.bool ?_
    first | rfl | decide
  · cases h
set_option maxRecDepth 100000 in
theorem fnOk_lLong : FnOk Try.prog 10 Try.f10 := ⟨by rfl, by kernel_rfl, by
  show okCode _ _ = true ∧ drawsOk _ = true
  exact ⟨by kernel_rfl, by kernel_rfl⟩⟩
def wide (x : entT.El) : Bool := decide (100 < (x.1.size : Int)) || decide (100 < (x.2.1.size : Int))
def longL (l : List entT.El) : Bool := (l.take 40).any wide || decide (30 < (l.length : Int))
def spLong : DSpec
  | [.lst (.st [.str, .str, .bool, .int .i64]) l] => some (True, .bool (longL l))
  | _ => none
theorem any_take {l : List entT.El} {i : Nat} {x : entT.El} (h : (l.take i).any wide = false) (hx : l[i]? = some x) (hw : wide x = false) : (l.take (i + 1)).any wide = false := by
  rw [List.take_add_one, hx, List.any_append, h]
  simp [hw]
theorem any_hit {l : List entT.El} {i n : Nat} {x : entT.El} (hin : i < n) (hx : l[i]? = some x) (hw : wide x = true) : (l.take n).any wide = true := by
  rw [List.any_eq_true]
  exact ⟨x, List.mem_iff_getElem?.2 ⟨i, by rw [List.getElem?_take, if_pos hin]; exact hx⟩, hw⟩
set_option maxRecDepth 100000 in
set_option maxHeartbeats 2000000 in
theorem lLong_ok : SpecOk Try.prog 10 spLong := by
  refine spec_body (C := cx0) mixed tbOk SpecsOk.nil (callN_ok (C := cx0) mixed tbOk SpecsOk.nil FnsOk.nil 0) fnOk_lLong ?_
  intro ys p r h hp
  unfold spLong at h
  split at h
  · rename_i l
    cases h
    conv => whnf
    refine loop_inv [] [3] (fun vs h => ∃ i : Nat, vs = [.int .i64 (i : Int)] ∧ h = [] ∧ i ≤ l.length ∧ i ≤ 40 ∧ (l.take i).any wide = false) (fun vs _ => match vs with | [.int _ k] => l.length - k.toNat | _ => 0) ?_
    refine ⟨⟨0, rfl, rfl, Nat.zero_le _, Nat.zero_le _, rfl⟩, ?_⟩
    rintro vs h' - ⟨i, rfl, rfl, hi, hi2, hs⟩
    conv => whnf
    repeat' first
      | ((first | refine auT ?_ | refine auF ?_ | with_reducible first | refine auKt ?_ | refine auKf ?_ | refine auNt ?_ | refine auNf ?_ | refine auEt ?_ | refine auEf ?_); conv => whnf)
      | ((with_reducible first | refine br_dec (fun h => ?_) (fun h => ?_) | refine br_ndec (fun h => ?_) (fun h => ?_) | refine br_ne (fun h => ?_) (fun h => ?_) | refine br_eq (fun h => ?_) (fun h => ?_)) <;> first | (exfalso; omega) | conv => whnf)
      | (refine br_intro (fun h => ?_) (fun h => ?_) <;> conv => whnf)
      | ((first | refine auNd ?_ | refine idx_nat (by omega) (fun x hx => ?_) | refine frz_auto ?_ | refine draw_plain ?_ | refine auIx (fun x hx => ?_)); conv => whnf)
    · refine congrArg AV.bool ?_
      rw [longL, any_hit (i := i) (by omega) hx (by simp [wide, h])]; rfl
    · refine congrArg AV.bool ?_
      rw [longL, any_hit (i := i) (by omega) hx (by simp [wide, h])]; rfl
    · rename_i y hy hk
      obtain rfl := Option.some.inj (hy.symm.trans hx)
      refine back_intro (by conv => whnf) rfl ⟨i + 1, rfl, rfl, by omega, by omega, any_take hs hx (by rw [wide, decide_eq_false hk, decide_eq_false h]; rfl)⟩ ?_
      show l.length - ((i : Int) + 1).toNat < l.length - (i : Int).toNat
      omega
    · refine congrArg AV.bool ?_
      rw [longL, show 40 = i by omega, hs]; rfl
    · refine congrArg AV.bool ?_
      have e : l.take 40 = l.take i := by rw [List.take_of_length_le (by omega), List.take_of_length_le (by omega)]
      rw [longL, e, hs]; rfl
  · cases h
theorem longL_len {l : List entT.El} (h : longL l = false) : l.length ≤ 30 := by
  unfold longL at h
  rw [Bool.or_eq_false_iff] at h
  have := of_decide_eq_false h.2
  omega
abbrev bufT : Ty := .st [.int .i64, .sl entT]
end Go.Proofs.Ytfnikjihjjniiaa
namespace Go.Proofs.Ytfnikjihjjniiaa
open Av Bk

end Go.Proofs.Ytfnikjihjjniiaa
namespace Go.Proofs.Ytfnikjihjjniiaa
open Av Bk

end Go.Proofs.Ytfnikjihjjniiaa
namespace Go.Proofs.Ytfnikjihjjniiaa
open Av Bk

end Go.Proofs.Ytfnikjihjjniiaa
namespace Go.Proofs.Ytfnikjihjjniiaa
open Av Bk

def gtE (m : Int) (l : List entT.El) (key : ByteArray) : Int := if (chB m l).2 ≠ 0 then (chB m l).2 else if 32 < (key.size : Int) then 3 else if foundK key l = true then 0 else 4
def gtX (m : Int) (l : List entT.El) (key : ByteArray) : entT.El := if gtE m l key = 0 then (l[lb key l]?).getD (mkE ⟨#[]⟩ ⟨#[]⟩ false 0) else mkE ⟨#[]⟩ ⟨#[]⟩ false 0
def spGet : DSpec
  | [.agg [.int .i64 m, .lst (.st [.str, .str, .bool, .int .i64]) l], .str key] => some (True, .tup [.agg [.str (gtX m l key).1, .str (gtX m l key).2.1, .bool (gtX m l key).2.2.1, .int .i64 (gtX m l key).2.2.2.1], .int .i64 (gtE m l key)])
  | _ => none
theorem get_eq {x y : entT.El} {a b : Int} (h : y = x) (h2 : b = a) : AV.tup [.agg [.str x.1, .str x.2.1, .bool x.2.2.1, .int .i64 x.2.2.2.1], .int .i64 a] = AV.tup [.agg [.str y.1, .str y.2.1, .bool y.2.2.1, .int .i64 y.2.2.2.1], .int .i64 b] := by rw [h, h2]
set_option maxRecDepth 100000 in
theorem fnOk_bGet : FnOk Try.prog 26 Try.f26 := ⟨by rfl, by kernel_rfl, by
  show okCode _ _ = true ∧ drawsOk _ = true
  exact ⟨by kernel_rfl, by kernel_rfl⟩⟩
noncomputable def cx50 : Cx := ⟨tb, [], [(24, spChB), (38, spKey), (39, spFind)]⟩
theorem specs50 : SpecsOk Try.prog cx50.specs := .cons bChk_ok (.cons keysCheck_ok (.cons bFind_ok .nil))
set_option maxRecDepth 100000 in
set_option maxHeartbeats 4000000 in
theorem bGet_ok : SpecOk Try.prog 26 spGet := by
  refine spec_body (C := cx50) mixed tbOk specs50 (callN_ok (C := cx50) mixed tbOk specs50 FnsOk.nil 0) fnOk_bGet ?_
  intro ys p r h hp
  unfold spGet at h
  split at h
  · rename_i m l key
    cases h
    have hne : (chB m l).2 ≠ 0 → gtE m l key = (chB m l).2 ∧ gtX m l key = mkE ⟨#[]⟩ ⟨#[]⟩ false 0 := fun hc => by
      have e : gtE m l key = (chB m l).2 := by rw [gtE, if_pos hc]
      exact ⟨e, by rw [gtX, if_neg (by rw [e]; exact hc)]⟩
    conv => whnf
    repeat' first
      | ((first | refine auT ?_ | refine auF ?_ | with_reducible first | refine auKt ?_ | refine auKf ?_ | refine auNt ?_ | refine auNf ?_ | refine auEt ?_ | refine auEf ?_); conv => whnf)
      | ((with_reducible first | refine br_dec (fun h => ?_) (fun h => ?_) | refine br_ndec (fun h => ?_) (fun h => ?_) | refine br_ne (fun h => ?_) (fun h => ?_) | refine br_eq (fun h => ?_) (fun h => ?_)) <;> first | (exfalso; omega) | conv => whnf)
      | (refine br_intro (fun h => ?_) (fun h => ?_) <;> conv => whnf)
      | ((first | refine auNd ?_ | refine idx_nat (by omega) (fun x hx => ?_) | refine frz_auto ?_ | refine draw_plain ?_ | refine auIx (fun x hx => ?_)); conv => whnf)
    · obtain ⟨e1, e2⟩ := hne (by assumption)
      exact get_eq e2 e1
    · rename_i h0
      by_cases hk : 32 < (key.size : Int)
      · have e : gtE m l key = 3 := by rw [gtE, if_neg (by simpa using h0), if_pos hk]
        exact get_eq (x := mkE ⟨#[]⟩ ⟨#[]⟩ false 0) (y := gtX m l key) (by rw [gtX, if_neg (by rw [e]; decide)]) (by rw [e]; simp [hk])
      · exact absurd (by simp [hk]) h
    · rename_i h0
      have hk : ¬ 32 < (key.size : Int) := fun hk => by simp [hk] at h
      obtain ⟨a1, a2, a3, a4, a5⟩ := chB_zero h0
      have hlt : foundK key l = true → lb key l < l.length := fun hf => by
        obtain ⟨y, hy, _⟩ := foundK_lt hf
        exact (List.getElem?_eq_some_iff.1 hy).1
      refine need_in ⟨a4, by omega⟩ ?_
      cases hf : foundK key l with
      | true =>
        have hlt := hlt hf
        conv => whnf
        repeat' first
          | ((first | refine auT ?_ | refine auF ?_ | with_reducible first | refine auKt ?_ | refine auKf ?_ | refine auNt ?_ | refine auNf ?_ | refine auEt ?_ | refine auEf ?_); conv => whnf)
          | ((with_reducible first | refine br_dec (fun h => ?_) (fun h => ?_) | refine br_ndec (fun h => ?_) (fun h => ?_) | refine br_ne (fun h => ?_) (fun h => ?_) | refine br_eq (fun h => ?_) (fun h => ?_)) <;> first | (exfalso; omega) | conv => whnf)
          | (refine br_intro (fun h => ?_) (fun h => ?_) <;> conv => whnf)
          | ((first | refine auNd ?_ | refine idx_nat (by omega) (fun x hx => ?_) | refine frz_auto ?_ | refine draw_plain ?_ | refine auIx (fun x hx => ?_)); conv => whnf)
        have e : gtE m l key = 0 := by rw [gtE, if_neg (by simpa using h0), if_neg hk, if_pos hf]
        have hx : l[lb key l]? = some x := by simpa using hx
        exact get_eq (by rw [gtX, if_pos e, hx]; rfl) e
      | false =>
        conv => whnf
        repeat' first
          | ((first | refine auT ?_ | refine auF ?_ | with_reducible first | refine auKt ?_ | refine auKf ?_ | refine auNt ?_ | refine auNf ?_ | refine auEt ?_ | refine auEf ?_); conv => whnf)
          | ((with_reducible first | refine br_dec (fun h => ?_) (fun h => ?_) | refine br_ndec (fun h => ?_) (fun h => ?_) | refine br_ne (fun h => ?_) (fun h => ?_) | refine br_eq (fun h => ?_) (fun h => ?_)) <;> first | (exfalso; omega) | conv => whnf)
          | (refine br_intro (fun h => ?_) (fun h => ?_) <;> conv => whnf)
          | ((first | refine auNd ?_ | refine idx_nat (by omega) (fun x hx => ?_) | refine frz_auto ?_ | refine draw_plain ?_ | refine auIx (fun x hx => ?_)); conv => whnf)
        have e : gtE m l key = 4 := by rw [gtE, if_neg (by simpa using h0), if_neg hk, if_neg (by rw [hf]; decide)]
        exact get_eq (x := mkE ⟨#[]⟩ ⟨#[]⟩ false 0) (y := gtX m l key) (by rw [gtX, if_neg (by rw [e]; decide)]) e
  · cases h
theorem lb_eq {key : ByteArray} {l : List entT.El} {k : Nat} {y : entT.El} (ha : ascS l) (hy : l[k]? = some y) (he : y.1 = key) : lb key l = k ∧ foundK key l = true := by
  have hk : lb key l = k := by
    rcases Nat.lt_trichotomy (lb key l) k with h | h | h
    · exfalso
      have hlt : lb key l < l.length := Nat.lt_trans h (List.getElem?_eq_some_iff.1 hy).1
      have hz : l[lb key l]? = some l[lb key l] := List.getElem?_eq_getElem hlt
      have h1 := lb_ge ha (Nat.le_refl _) hz
      -- what lies ahead of k is less than its key
      have h2 : sLt (l[lb key l]).1 y.1 = true := by
        have : ∀ (d : Nat) (a b : entT.El), l[lb key l]? = some a → l[lb key l + (d + 1)]? = some b → sLt a.1 b.1 = true := by
          intro d
          induction d with
          | zero => intro a b h3 h4; exact ha _ a b h3 h4
          | succ d ih =>
            intro a b h3 h4
            have hlt2 : lb key l + (d + 1) < l.length := by have := (List.getElem?_eq_some_iff.1 h4).1; omega
            exact sLt_trans (ih a _ h3 (List.getElem?_eq_getElem hlt2)) (ha _ _ b (List.getElem?_eq_getElem hlt2) h4)
        obtain ⟨d, hd⟩ : ∃ d, k = lb key l + (d + 1) := ⟨k - lb key l - 1, by omega⟩
        exact this d _ y hz (by rw [← hd]; exact hy)
      rw [he] at h2
      rw [h1] at h2
      cases h2
    · exact h
    · have := lb_lt h hy
      rw [he, sLt_irrefl] at this
      cases this
  refine ⟨hk, ?_⟩
  unfold foundK
  rw [hk, hy]
  show sEq y.1 key = true
  rw [he]; exact sEq_refl _
end Go.Proofs.Ytfnikjihjjniiaa
namespace Go.Proofs.Ytfnikjihjjniiaa
open Av Bk

/-- An array of which elements are left out, in place: at the beginning what stays of the first ones. -/
structure DelE (q : entT.El → Bool) (m cur : List entT.El) (i j : Nat) : Prop where
  len : cur.length = m.length
  le : i ≤ j
  hd : cur.take i = (m.take j).filter q
  tl : cur.drop j = m.drop j
theorem filterE_snoc {q : entT.El → Bool} {l : List entT.El} {i : Nat} {x : entT.El} (hx : l[i]? = some x) : (l.take (i + 1)).filter q = (l.take i).filter q ++ (if q x = true then [x] else []) := by
  rw [List.take_add_one, hx, List.filter_append]
  congr 1
  show List.filter _ [x] = _
  rw [List.filter_cons]
  rfl
theorem dele_get {q : entT.El → Bool} {m cur : List entT.El} {i j : Nat} (h : DelE q m cur i j) : cur[j]? = m[j]? := by
  have h1 : (cur.drop j)[0]? = (m.drop j)[0]? := by rw [h.tl]
  rw [List.getElem?_drop, List.getElem?_drop] at h1
  simpa using h1
theorem dele_keep {q : entT.El → Bool} {m cur : List entT.El} {i j : Nat} {x : entT.El} (h : DelE q m cur i j) (hj : j < m.length) (hx : cur[j]? = some x) (hq : q x = true) : DelE q m (cur.set i x) (i + 1) (j + 1) where
  len := by rw [List.length_set]; exact h.len
  le := by have := h.le; omega
  hd := by
    have hi : i < (cur.set i x).length := by rw [List.length_set, h.len]; have := h.le; omega
    rw [List.take_succ_eq_append_getElem hi, List.getElem_set_self, List.take_set_of_le (Nat.le_refl _), h.hd, filterE_snoc ((dele_get h).symm.trans hx), if_pos hq]
  tl := by
    rw [List.drop_set_of_lt (by have := h.le; omega), ← List.drop_drop, ← List.drop_drop, h.tl]
theorem dele_drop {q : entT.El → Bool} {m cur : List entT.El} {i j : Nat} {x : entT.El} (h : DelE q m cur i j) (hx : cur[j]? = some x) (hq : q x = false) : DelE q m cur i (j + 1) where
  len := h.len
  le := by have := h.le; omega
  hd := by rw [h.hd, filterE_snoc ((dele_get h).symm.trans hx), if_neg (by simp [hq]), List.append_nil]
  tl := by rw [← List.drop_drop, ← List.drop_drop, h.tl]
theorem dele_start {q : entT.El → Bool} {m : List entT.El} {i : Nat} {x : entT.El} (hall : ∀ p ∈ m.take i, q p = true) (hx : m[i]? = some x) (hq : q x = false) : DelE q m m i (i + 1) where
  len := rfl
  le := Nat.le_succ _
  hd := by rw [filterE_snoc hx, if_neg (by simp [hq]), List.append_nil, List.filter_eq_self.2 hall]
  tl := rfl

def siE (m : Int) (l : List entT.El) (n : Int) : Int := if (chB m l).2 ≠ 0 then (chB m l).2 else if n < 0 then 7 else 0
def siL (m : Int) (l : List entT.El) (n : Int) : List entT.El := if siE m l n = 0 then srtQ (newQ n l) else []
def spSince : DSpec
  | [.agg [.int .i64 m, .lst (.st [.str, .str, .bool, .int .i64]) l], .int .i64 n] => some (True, .tup [.lst entT (siL m l n), .int .i64 (siE m l n)])
  | _ => none
theorem since_eq {l k : List entT.El} {a b : Int} (h : k = l) (h2 : b = a) : AV.tup [.lst entT l, .int .i64 a] = AV.tup [.lst entT k, .int .i64 b] := by rw [h, h2]
theorem since_err {m : Int} {l : List entT.El} {n : Int} (h : (chB m l).2 ≠ 0) : siE m l n = (chB m l).2 ∧ siL m l n = [] := by
  have e : siE m l n = (chB m l).2 := by rw [siE, if_pos h]
  exact ⟨e, by rw [siL, if_neg (by rw [e]; exact h)]⟩
theorem since_neg {m : Int} {l : List entT.El} {n : Int} (h : (chB m l).2 = 0) (hn : n < 0) : siE m l n = 7 ∧ siL m l n = [] := by
  have e : siE m l n = 7 := by rw [siE, if_neg (by simpa using h), if_pos hn]
  exact ⟨e, by rw [siL, if_neg (by rw [e]; decide)]⟩
theorem since_ok {m : Int} {l : List entT.El} {n : Int} (h : (chB m l).2 = 0) (hn : ¬ n < 0) : siE m l n = 0 ∧ siL m l n = srtQ (newQ n l) := by
  have e : siE m l n = 0 := by rw [siE, if_neg (by simpa using h), if_neg hn]
  exact ⟨e, by rw [siL, if_pos e]⟩
theorem twoQ {A B : List entT.El} {c : AV} (h : A = B) : [AV.lst entT A, c] = [AV.lst entT B, c] := by rw [h]
theorem dropQ {S : List entT.El} {j : Nat} {x y : entT.El} (hj : 0 < j) (hy : S[j - 1]? = some y) (h : ltQ x y = true) (hat : ∀ z ∈ S.drop j, ltQ x z = true) : ∀ z ∈ S.drop (j - 1), ltQ x z = true := by
  obtain ⟨k, rfl⟩ : ∃ k, j = k + 1 := ⟨j - 1, by omega⟩
  obtain ⟨hk, rfl⟩ := List.getElem?_eq_some_iff.1 hy
  intro z hz
  rw [Nat.add_sub_cancel, List.drop_eq_getElem_cons (by simpa using hk)] at hz
  rcases List.mem_cons.1 hz with rfl | hz
  · exact h
  · exact hat z hz

set_option maxRecDepth 100000 in
theorem fnOk_rSince : FnOk Try.prog 29 Try.f29 := ⟨by rfl, by kernel_rfl, by
  show okCode _ _ = true ∧ drawsOk _ = true
  exact ⟨by kernel_rfl, by kernel_rfl⟩⟩
noncomputable def cx60 : Cx := ⟨tb, [], [(25, spChB)]⟩
theorem specs60 : SpecsOk Try.prog cx60.specs := .cons rChk_ok .nil
set_option maxRecDepth 100000 in
set_option maxHeartbeats 4000000 in
theorem rSince_ok : SpecOk Try.prog 29 spSince := by
  refine spec_body (C := cx60) mixed tbOk specs60 (callN_ok (C := cx60) mixed tbOk specs60 FnsOk.nil 0) fnOk_rSince ?_
  intro ys p r h hp
  unfold spSince at h
  split at h
  · rename_i m l n
    cases h
    have hl := @chB_len m l
    by_cases hc : (chB m l).2 = 0
    · by_cases hn : n < 0
      · obtain ⟨e1, e2⟩ := since_neg hc hn
        conv => whnf
        repeat' first
          | ((first | refine auIk ?_ | refine auIi ?_ | refine auT ?_ | refine auF ?_ | with_reducible first | refine auKt ?_ | refine auKf ?_ | refine auNt ?_ | refine auNf ?_ | refine auEt ?_ | refine auEf ?_); conv => whnf)
          | ((with_reducible first | refine br_dec (fun h => ?_) (fun h => ?_) | refine br_ndec (fun h => ?_) (fun h => ?_) | refine br_ne (fun h => ?_) (fun h => ?_) | refine br_eq (fun h => ?_) (fun h => ?_)) <;> first | (exfalso; omega) | conv => whnf)
          | (refine br_intro (fun h => ?_) (fun h => ?_) <;> conv => whnf)
          | ((first | refine auNd ?_ | refine idx_nat (by omega) (fun x hx => ?_) | refine frz_auto ?_ | refine draw_plain ?_ | refine auIx (fun x hx => ?_)); conv => whnf)
        all_goals exact since_eq e2 e1
      · obtain ⟨e1, e2⟩ := since_ok hc hn
        have hl := hl hc
        conv => whnf
        repeat' first
          | ((first | refine auIk ?_ | refine auIi ?_ | refine auT ?_ | refine auF ?_ | with_reducible first | refine auKt ?_ | refine auKf ?_ | refine auNt ?_ | refine auNf ?_ | refine auEt ?_ | refine auEf ?_); conv => whnf)
          | ((with_reducible first | refine br_dec (fun h => ?_) (fun h => ?_) | refine br_ndec (fun h => ?_) (fun h => ?_) | refine br_ne (fun h => ?_) (fun h => ?_) | refine br_eq (fun h => ?_) (fun h => ?_)) <;> first | (exfalso; omega) | conv => whnf)
          | (refine br_intro (fun h => ?_) (fun h => ?_) <;> conv => whnf)
          | ((first | refine auNd ?_ | refine idx_nat (by omega) (fun x hx => ?_) | refine frz_auto ?_ | refine draw_plain ?_ | refine auIx (fun x hx => ?_)); conv => whnf)
        rw [show AV.tup [.lst entT (siL m l n), .int .i64 (siE m l n)] = AV.tup [.lst entT (srtQ (newQ n l)), .int .i64 0] by rw [e1, e2]]
        refine loop_inv [.lst 8 entT] [8, 9] (fun vs h => ∃ i : Nat, vs = [.lst entT (srtQ (newQ n (l.take i))), .int .i64 (i : Int)] ∧ h = [.cells 24 [.int .i64 m, .lst entT l], .arr 35 entT [] false 0, .dead] ∧ i ≤ l.length) (fun vs _ => match vs with | [_, .int _ k] => l.length - k.toNat | _ => 0) ?_
        conv => whnf
        refine need_in ⟨rfl, Nat.le_refl _⟩ ?_
        conv => whnf
        refine ⟨⟨0, rfl, rfl, Nat.zero_le _⟩, ?_⟩
        rintro vs h' - ⟨i, rfl, rfl, hi⟩
        have hso := srtQ_len (newQ n (l.take i))
        have hsl := newQ_len n (l.take i)
        have htk : (l.take i).length = i := by rw [List.length_take]; omega
        rw [htk] at hsl
        by_cases hil : i < l.length
        · obtain ⟨x, hx⟩ : ∃ x, l[i]? = some x := ⟨_, List.getElem?_eq_getElem hil⟩
          have hnt := newQ_take (n := n) hx
          by_cases hq : n < sqE x
          · rw [if_pos hq] at hnt
            have hst : srtQ (newQ n (l.take (i + 1))) = insQ x (srtQ (newQ n (l.take i))) := by rw [hnt, srtQ_snoc]
            clear hnt
            have hnn : ¬ sqE x ≤ n := by omega
            conv => whnf
            repeat' first
              | ((first | refine auIk ?_ | refine auIi ?_ | refine auT ?_ | refine auF ?_ | with_reducible first | refine auKt ?_ | refine auKf ?_ | refine auNt ?_ | refine auNf ?_ | refine auEt ?_ | refine auEf ?_); conv => whnf)
              | ((with_reducible first | refine br_dec (fun h => ?_) (fun h => ?_) | refine br_ndec (fun h => ?_) (fun h => ?_) | refine br_ne (fun h => ?_) (fun h => ?_) | refine br_eq (fun h => ?_) (fun h => ?_)) <;> first | (exfalso; omega) | conv => whnf)
              | (refine br_intro (fun h => ?_) (fun h => ?_) <;> conv => whnf)
              | ((first | refine auNd ?_ | refine idx_nat (by omega) (fun x hx => ?_) | refine frz_auto ?_ | refine draw_plain ?_ | refine auIx (fun x hx => ?_)); conv => whnf)
            generalize srtQ (newQ n (l.take i)) = S at hso hst ⊢
            refine loop_inv [] [11] (fun vs h => ∃ j : Nat, vs = [.int .i64 (j : Int)] ∧ h = [.cells 24 [.int .i64 m, .lst entT l], .arr 35 entT [] false 0, .dead, .cells 35 [.str x.1, .str x.2.1, .bool x.2.2.1, .int .i64 x.2.2.2.1]] ∧ j ≤ S.length ∧ ∀ y ∈ S.drop j, ltQ x y = true) (fun vs _ => match vs with | [.int _ k] => k.toNat | _ => 0) ?_
            conv => whnf
            refine ⟨⟨S.length, rfl, rfl, Nat.le_refl _, by rw [List.drop_length]; intro y hy; cases hy⟩, ?_⟩
            rintro vs h' - ⟨j, rfl, rfl, hj, hat⟩
            have hj1 : 0 < j → ((j : Int) - 1).toNat = j - 1 := fun _ => by omega
            conv => whnf
            repeat' first
              | ((first | refine auIk ?_ | refine auIi ?_ | refine auT ?_ | refine auF ?_ | with_reducible first | refine auKt ?_ | refine auKf ?_ | refine auNt ?_ | refine auNf ?_ | refine auEt ?_ | refine auEf ?_); conv => whnf)
              | ((with_reducible first | refine br_dec (fun h => ?_) (fun h => ?_) | refine br_ndec (fun h => ?_) (fun h => ?_) | refine br_ne (fun h => ?_) (fun h => ?_) | refine br_eq (fun h => ?_) (fun h => ?_)) <;> first | (exfalso; omega) | conv => whnf)
              | (refine br_intro (fun h => ?_) (fun h => ?_) <;> conv => whnf)
              | ((first | refine auNd ?_ | refine idx_nat (by omega) (fun x hx => ?_) | refine frz_auto ?_ | refine draw_plain ?_ | refine auIx (fun x hx => ?_)); conv => whnf)
            · rw [hj1 (by omega)] at hx
              refine back_intro (by conv => whnf) rfl ⟨j - 1, congrArg (fun z : Int => [AV.int .i64 z]) (by omega), rfl, by omega, dropQ (by omega) hx (decide_eq_true h) hat⟩ ?_
              show ((j : Int) - 1).toNat < (j : Int).toNat
              omega
            · exact absurd h (by simp)
            · rename_i hn1
              rw [hj1 (by omega)] at hx
              refine back_intro (by conv => whnf) rfl ⟨i + 1, ?_, rfl, by omega⟩ ?_
              · refine twoQ (Eq.trans ?_ hst.symm)
                rw [insQ_at hat hj (.inr ⟨x, hx, decide_eq_false hn1⟩)]
                simp [cast_self, List.take_of_length_le]
                rw [List.take_of_length_le (by simp only [List.length_cons, List.length_drop]; omega)]
              · show l.length - ((i : Int) + 1).toNat < l.length - (i : Int).toNat
                omega
            · exact absurd h (by simp)
            · refine back_intro (by conv => whnf) rfl ⟨i + 1, ?_, rfl, by omega⟩ ?_
              · refine twoQ (Eq.trans ?_ hst.symm)
                obtain rfl : j = 0 := by omega
                rw [insQ_at hat hj (.inl rfl)]
                simp [cast_self, List.take_of_length_le]
                first
                  | rfl
                  | (rw [List.take_of_length_le (by simp only [List.length_cons]; omega)])
              · show l.length - ((i : Int) + 1).toNat < l.length - (i : Int).toNat
                omega
          · rw [if_neg hq, List.append_nil] at hnt
            have hnn : sqE x ≤ n := by omega
            conv => whnf
            repeat' first
              | ((first | refine auIk ?_ | refine auIi ?_ | refine auT ?_ | refine auF ?_ | with_reducible first | refine auKt ?_ | refine auKf ?_ | refine auNt ?_ | refine auNf ?_ | refine auEt ?_ | refine auEf ?_); conv => whnf)
              | ((with_reducible first | refine br_dec (fun h => ?_) (fun h => ?_) | refine br_ndec (fun h => ?_) (fun h => ?_) | refine br_ne (fun h => ?_) (fun h => ?_) | refine br_eq (fun h => ?_) (fun h => ?_)) <;> first | (exfalso; omega) | conv => whnf)
              | (refine br_intro (fun h => ?_) (fun h => ?_) <;> conv => whnf)
              | ((first | refine auNd ?_ | refine idx_nat (by omega) (fun x hx => ?_) | refine frz_auto ?_ | refine draw_plain ?_ | refine auIx (fun x hx => ?_)); conv => whnf)
            refine back_intro (by conv => whnf) rfl ⟨i + 1, by rw [hnt]; rfl, rfl, by omega⟩ ?_
            show l.length - ((i : Int) + 1).toNat < l.length - (i : Int).toNat
            omega
        · conv => whnf
          repeat' first
            | ((first | refine auIk ?_ | refine auIi ?_ | refine auT ?_ | refine auF ?_ | with_reducible first | refine auKt ?_ | refine auKf ?_ | refine auNt ?_ | refine auNf ?_ | refine auEt ?_ | refine auEf ?_); conv => whnf)
            | ((with_reducible first | refine br_dec (fun h => ?_) (fun h => ?_) | refine br_ndec (fun h => ?_) (fun h => ?_) | refine br_ne (fun h => ?_) (fun h => ?_) | refine br_eq (fun h => ?_) (fun h => ?_)) <;> first | (exfalso; omega) | conv => whnf)
            | (refine br_intro (fun h => ?_) (fun h => ?_) <;> conv => whnf)
            | ((first | refine auNd ?_ | refine idx_nat (by omega) (fun x hx => ?_) | refine frz_auto ?_ | refine draw_plain ?_ | refine auIx (fun x hx => ?_)); conv => whnf)
          rw [List.take_of_length_le (by omega)]
    · obtain ⟨e1, e2⟩ := since_err hc (n := n)
      conv => whnf
      repeat' first
        | ((first | refine auIk ?_ | refine auIi ?_ | refine auT ?_ | refine auF ?_ | with_reducible first | refine auKt ?_ | refine auKf ?_ | refine auNt ?_ | refine auNf ?_ | refine auEt ?_ | refine auEf ?_); conv => whnf)
        | ((with_reducible first | refine br_dec (fun h => ?_) (fun h => ?_) | refine br_ndec (fun h => ?_) (fun h => ?_) | refine br_ne (fun h => ?_) (fun h => ?_) | refine br_eq (fun h => ?_) (fun h => ?_)) <;> first | (exfalso; omega) | conv => whnf)
        | (refine br_intro (fun h => ?_) (fun h => ?_) <;> conv => whnf)
        | ((first | refine auNd ?_ | refine idx_nat (by omega) (fun x hx => ?_) | refine frz_auto ?_ | refine draw_plain ?_ | refine auIx (fun x hx => ?_)); conv => whnf)
      all_goals exact since_eq e2 e1
  · cases h
end Go.Proofs.Ytfnikjihjjniiaa
