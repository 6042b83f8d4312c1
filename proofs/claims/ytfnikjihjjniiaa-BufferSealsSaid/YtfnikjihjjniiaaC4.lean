/-
  Writes into a buffer.
-/
import Derived.Test.YtfnikjihjjniiaaC3
namespace Go.Proofs.Ytfnikjihjjniiaa
open Av Bk

def put1 (out : List entT.El) (x : entT.El) : List entT.El := if foundK x.1 out = true then out.set (lb x.1 out) x else out.take (lb x.1 out) ++ x :: out.drop (lb x.1 out)
def wk1 (out : List entT.El) (x : entT.El) : Int := (out.length : Int) - lb x.1 out + (if foundK x.1 out = true then 0 else 1)
def wrGo (m : Int) : List entT.El → List entT.El → Int → List entT.El × Int × Bool
  | [], out, w => (out, w, true)
  | x :: l, out, w => if foundK x.1 out = true then wrGo m l (put1 out x) (w + wk1 out x) else if (out.length : Int) = m then (out, w + wk1 out x, false) else wrGo m l (put1 out x) (w + wk1 out x)
theorem foundK_lt {key : ByteArray} {l : List entT.El} (h : foundK key l = true) : ∃ y, l[lb key l]? = some y ∧ y.1 = key := by
  unfold foundK at h
  split at h
  · rename_i y hy
    exact ⟨y, hy, sEq_eq h⟩
  · cases h
theorem put1_len {out : List entT.El} {x : entT.El} : (put1 out x).length = if foundK x.1 out = true then out.length else out.length + 1 := by
  have := lb_le x.1 out
  unfold put1
  split
  · simp
  · simp only [List.length_append, List.length_take, List.length_cons, List.length_drop]; omega
theorem ins_get {out : List entT.El} {x : entT.El} {j : Nat} (hj : j ≤ out.length) (i : Nat) : (out.take j ++ x :: out.drop j)[i]? = if i < j then out[i]? else if i = j then some x else out[i - 1]? := by
  have hl : (out.take j).length = j := by rw [List.length_take]; omega
  by_cases h : i < j
  · rw [if_pos h, List.getElem?_append_left (by omega), List.getElem?_take, if_pos h]
  · rw [if_neg h, List.getElem?_append_right (by omega), hl]
    by_cases h2 : i = j
    · rw [if_pos h2, h2, Nat.sub_self]; rfl
    · rw [if_neg h2]
      obtain ⟨m, hm⟩ : ∃ m, i - j = m + 1 := ⟨i - j - 1, by omega⟩
      rw [hm, List.getElem?_cons_succ, List.getElem?_drop]
      congr 1
      omega
theorem put1_asc {out : List entT.El} (ha : ascS out) (x : entT.El) : ascS (put1 out x) := by
  have hle := lb_le x.1 out
  unfold put1
  split
  · rename_i hf
    obtain ⟨y, hy, hk⟩ := foundK_lt hf
    have hlt := (List.getElem?_eq_some_iff.1 hy).1
    intro k a b h1 h2
    rw [List.getElem?_set] at h1 h2
    by_cases c1 : lb x.1 out = k
    · rw [if_pos c1, if_pos (by omega)] at h1
      rw [if_neg (by omega)] at h2
      cases h1
      rw [c1] at hy
      rw [← hk]
      exact ha k y b hy h2
    · rw [if_neg c1] at h1
      by_cases c2 : lb x.1 out = k + 1
      · rw [if_pos c2, if_pos (by omega)] at h2
        cases h2
        rw [c2] at hy
        rw [← hk]
        exact ha k a y h1 hy
      · rw [if_neg c2] at h2
        exact ha k a b h1 h2
  · rename_i hf
    intro k a b h1 h2
    rw [ins_get hle] at h1 h2
    by_cases c1 : k + 1 < lb x.1 out
    · rw [if_pos (by omega)] at h1 h2
      exact ha k a b h1 h2
    · rw [if_neg (by omega)] at h2
      by_cases c2 : k + 1 = lb x.1 out
      · rw [if_pos (by omega)] at h1
        rw [if_pos c2] at h2
        cases h2
        exact lb_lt (by omega) h1
      · rw [if_neg c2] at h2
        rw [if_neg (by omega)] at h1
        by_cases c3 : k = lb x.1 out
        · rw [if_pos c3] at h1
          cases h1
          have h2 : out[k]? = some b := h2
          have h3 := lb_ge (key := x.1) ha (by omega) h2
          cases h4 : sLt x.1 b.1 with
          | true => rfl
          | false =>
            exfalso
            apply hf
            unfold foundK
            rw [← c3, h2]
            have := bl_total _ _ h3 h4
            simp [sEq, this]
        · rw [if_neg c3] at h1
          have h2 : out[k]? = some b := h2
          exact ha (k - 1) a b h1 (by rw [show k - 1 + 1 = k by omega]; exact h2)
/-- What the shift of an array's end and a store leave. -/
theorem shift_take {L : List entT.El} {c i M : Nat} {x : entT.El} (hL : L.length = M + 1) (hc : c ≤ M) (hi : i ≤ c) (n : Nat) (hn : n = c - i) :
    ((L.take (i + 1) ++ (((L.drop i).take (c + 1 - i)).take n ++ L.drop (i + 1 + (((L.drop i).take (c + 1 - i)).take n).length))).set i x).take (c + 1) = (L.take c).take i ++ x :: (L.take c).drop i := by
  subst hn
  apply List.ext_getElem?
  intro k
  rw [ins_get (by rw [List.length_take]; omega), List.getElem?_take, List.getElem?_set]
  have hl1 : (L.take (i + 1)).length = i + 1 := by rw [List.length_take]; omega
  have hl2 : (((L.drop i).take (c + 1 - i)).take (c - i)).length = c - i := by simp only [List.length_take, List.length_drop]; omega
  by_cases h1 : k < c + 1
  · rw [if_pos h1]
    by_cases h2 : i = k
    · subst h2
      rw [if_pos rfl, if_pos (by simp only [List.length_append, hl1, hl2, List.length_drop]; omega), if_neg (by omega), if_pos rfl]
    · rw [if_neg h2]
      by_cases h3 : k < i
      · rw [if_pos h3, List.getElem?_append_left (by omega), List.getElem?_take, List.getElem?_take, if_pos (by omega), if_pos (by omega)]
      · rw [if_neg h3, if_neg (by omega), List.getElem?_append_right (by omega), hl1, List.getElem?_append_left (by rw [hl2]; omega), List.getElem?_take, if_pos (by omega), List.getElem?_take, if_pos (by omega), List.getElem?_drop, List.getElem?_take, if_pos (by omega)]
        congr 1
        omega
  · rw [if_neg h1, if_neg (by omega), if_neg (by omega), List.getElem?_take, if_neg (by omega)]
theorem set_take {L : List entT.El} {c i : Nat} {x : entT.El} : (L.set i x).take c = (L.take c).set i x := by
  rw [List.take_set]
theorem wr_vs {n m : Nat} {a b c : AV} {id g : Nat} (h : n = m) : [AV.own id g n, a, b, c] = [AV.own id g m, a, b, c] := by rw [h]
theorem wr_h {o p : AObj} {T : TypeId} {t : Ty} {f : Bool} {g : Nat} {l m : List t.El} (h : l = m) : [o, p, .resv, .resv, .resv, .arr T t l f g] = [o, p, .resv, .resv, .resv, AObj.arr T t m f g] := by rw [h]
theorem wr_vs2 {a c d : AV} {w v : Int} (h : w = v) : [a, AV.int .i64 w, c, d] = [a, AV.int .i64 v, c, d] := by rw [h]
theorem wr_step {m : Int} {l out : List entT.El} {w : Int} {i : Nat} {x : entT.El} (hx : l[i]? = some x) : wrGo m (l.drop i) out w = if foundK x.1 out = true then wrGo m (l.drop (i + 1)) (put1 out x) (w + wk1 out x) else if (out.length : Int) = m then (out, w + wk1 out x, false) else wrGo m (l.drop (i + 1)) (put1 out x) (w + wk1 out x) := by
  rw [List.drop_eq_getElem_cons (List.getElem?_eq_some_iff.1 hx).1, (List.getElem?_eq_some_iff.1 hx).2]
  rfl
theorem wr_vs3 {n m id g : Nat} {c d : AV} {w v : Int} (h1 : n = m) (h2 : w = v) : [AV.own id g n, AV.int .i64 w, c, d] = [AV.own id g m, AV.int .i64 v, c, d] := by rw [h1, h2]
def spWrite : DSpec
  | [.agg [.int .i64 m, .lst (.st [.str, .str, .bool, .int .i64]) b], .lst (.st [.str, .str, .bool, .int .i64]) l] => some (0 ≤ m ∧ m ≤ 1000 ∧ (b.length : Int) ≤ m ∧ ascS b ∧ l.length ≤ 100000, .tup [.lst entT (wrGo m l b 0).1, .int .i64 (wrGo m l b 0).2.1, .bool (wrGo m l b 0).2.2])
  | _ => none
theorem fnOk_bWrite0 : FnOk Try.prog 32 Try.f32 := ⟨by rfl, by kernel_rfl, by
  show okCode _ _ = true ∧ drawsOk _ = true
  exact ⟨by kernel_rfl, by kernel_rfl⟩⟩
noncomputable def cx31 : Cx := ⟨tb, [], [(39, spFind)]⟩
theorem specs31 : SpecsOk Try.prog cx31.specs := .cons bFind_ok .nil
set_option maxRecDepth 100000 in
set_option maxHeartbeats 4000000 in
theorem bWrite0_ok : SpecOk Try.prog 32 spWrite := by
  refine spec_body (C := cx31) mixed tbOk specs31 (callN_ok (C := cx31) mixed tbOk specs31 FnsOk.nil 0) fnOk_bWrite0 ?_
  intro ys p r h hp
  unfold spWrite at h
  split at h
  · rename_i m b l
    cases h
    obtain ⟨hm0, hm1, hbm, hb, hl⟩ := hp
    obtain ⟨M, rfl⟩ : ∃ M : Nat, m = M := ⟨m.toNat, by omega⟩
    conv => whnf
    repeat' first
      | (refine br_true (by first | with_reducible exact rfl | assumption | decide) ?_; conv => whnf)
      | (refine br_false (by first | with_reducible exact rfl | assumption | decide) ?_; conv => whnf)
      | ((with_reducible refine br_kt (by assumption) ?_); conv => whnf)
      | ((with_reducible refine br_kf (by assumption) ?_); conv => whnf)
      | ((with_reducible refine br_nt (by assumption) ?_); conv => whnf)
      | ((with_reducible refine br_nf (by assumption) ?_); conv => whnf)
      | ((with_reducible refine br_et (by assumption) ?_); conv => whnf)
      | ((with_reducible refine br_ef (by assumption) ?_); conv => whnf)
      | ((with_reducible refine br_dec (fun h => ?_) (fun h => ?_)) <;> first | (exfalso; omega) | conv => whnf)
      | ((with_reducible refine br_ndec (fun h => ?_) (fun h => ?_)) <;> first | (exfalso; omega) | conv => whnf)
      | ((with_reducible refine br_ne (fun h => ?_) (fun h => ?_)) <;> first | (exfalso; omega) | conv => whnf)
      | ((with_reducible refine br_eq (fun h => ?_) (fun h => ?_)) <;> first | (exfalso; omega) | conv => whnf)
      | (refine br_intro (fun h => ?_) (fun h => ?_) <;> conv => whnf)
      | (refine need_in (by first | exact trivial | assumption | exact ⟨rfl, Nat.le_refl _⟩ | exact ⟨rfl, rfl⟩ | (simp only [inR]; omega) | omega | (simp only [roomP, true_and, and_true, List.length_take, List.length_drop, List.length_append, List.length_cons, List.length_nil, List.length_set, List.length_replicate]; omega) | (refine ⟨by first | exact trivial | rfl, by first | exact Nat.le_refl _ | omega, ?_⟩; change roomP _ _ 1; simp only [roomP]; omega) | (change roomP _ _ 1; simp only [roomP]; omega) | (simp; omega) | (simp [inR]; omega) | (simp [inR]; done) | decide | (simp; done)) ?_; conv => whnf)
      | (refine idx_nat (by omega) (fun x hx => ?_); conv => whnf)
      | (refine frz_auto ?_; conv => whnf)
      | (refine draw_plain ?_; conv => whnf)
      | (refine idx_intro (by omega) (by omega) (fun x hx => ?_); conv => whnf)
      | (refine idx_intro (by first | omega | (simp; omega) | (simp; done)) (by first | omega | (simp; omega) | (simp; done)) (fun x hx => ?_); conv => whnf)
      | fail
    · refine loop_inv [] [4, 5, 6, 20] (fun vs h => ∃ (i c : Nat) (w : Int) (L : List entT.El), vs = [.own 5 0 c, .int .i64 w, .bool true, .int .i64 (i : Int)] ∧ h = [.cells 24 [.int .i64 (M : Int), .lst entT b], .arr 35 entT [] false 0, .resv, .resv, .resv, .arr 35 entT L true 0] ∧ i ≤ l.length ∧ L.length = M + 1 ∧ c ≤ M ∧ ascS (L.take c) ∧ 0 ≤ w ∧ w ≤ 2000 * i ∧ wrGo M l b 0 = wrGo M (l.drop i) (L.take c) w) (fun vs _ => match vs with | [_, _, _, .int _ k] => l.length - k.toNat | _ => 0) ?_
      conv => whnf
      refine ⟨⟨0, b.length, 0, b ++ List.replicate (M + 1 - b.length) (mkE ⟨#[]⟩ ⟨#[]⟩ false 0), wr_vs (Nat.zero_add _), wr_h ?_, Nat.zero_le _, by simp; omega, by omega, by rw [List.take_left']; exact hb; rfl, Int.le_refl _, by omega, by rw [List.take_left']; rfl; rfl⟩, ?_⟩
      · have e : (M : Int) + 1 = ((M + 1 : Nat) : Int) := by omega
        simp only [cast_self]
        rw [e, Int.toNat_natCast, Int.toNat_zero, List.take_zero, List.nil_append, Nat.zero_add, List.drop_replicate]
      rintro vs h' - ⟨i, c, w, L, rfl, rfl, hi, hL, hc, ha, hw0, hw1, hgo⟩
      have hcl : (L.take c).length = c := by rw [List.length_take]; omega
      have hA : ascS (L.take c) ∧ (L.take c).length ≤ 100000 := ⟨ha, by omega⟩
      have hlb : ∀ k, lb k (L.take c) ≤ c := fun k => by have := lb_le k (L.take c); omega
      conv => whnf
      repeat' first
        | (refine br_true (by first | with_reducible exact rfl | assumption | decide) ?_; conv => whnf)
        | (refine br_false (by first | with_reducible exact rfl | assumption | decide) ?_; conv => whnf)
        | ((with_reducible refine br_kt (by assumption) ?_); conv => whnf)
        | ((with_reducible refine br_kf (by assumption) ?_); conv => whnf)
        | ((with_reducible refine br_nt (by assumption) ?_); conv => whnf)
        | ((with_reducible refine br_nf (by assumption) ?_); conv => whnf)
        | ((with_reducible refine br_et (by assumption) ?_); conv => whnf)
        | ((with_reducible refine br_ef (by assumption) ?_); conv => whnf)
        | ((with_reducible refine br_dec (fun h => ?_) (fun h => ?_)) <;> first | (exfalso; omega) | conv => whnf)
        | ((with_reducible refine br_ndec (fun h => ?_) (fun h => ?_)) <;> first | (exfalso; omega) | conv => whnf)
        | ((with_reducible refine br_ne (fun h => ?_) (fun h => ?_)) <;> first | (exfalso; omega) | conv => whnf)
        | ((with_reducible refine br_eq (fun h => ?_) (fun h => ?_)) <;> first | (exfalso; omega) | conv => whnf)
        | (refine br_intro (fun h => ?_) (fun h => ?_) <;> conv => whnf)
        | (refine need_in (by first | exact trivial | assumption | exact ⟨rfl, Nat.le_refl _⟩ | exact ⟨rfl, rfl⟩ | (simp only [inR]; omega) | omega | (simp only [roomP, true_and, and_true, List.length_take, List.length_drop, List.length_append, List.length_cons, List.length_nil, List.length_set, List.length_replicate]; omega) | (refine ⟨by first | exact trivial | rfl, by first | exact Nat.le_refl _ | omega, ?_⟩; change roomP _ _ 1; simp only [roomP]; omega) | (change roomP _ _ 1; simp only [roomP]; omega) | (simp; omega) | (simp [inR]; omega) | (simp [inR]; done) | decide | (simp; done)) ?_; conv => whnf)
        | (refine idx_nat (by omega) (fun x hx => ?_); conv => whnf)
        | (refine frz_auto ?_; conv => whnf)
        | (refine draw_plain ?_; conv => whnf)
        | (refine idx_intro (by omega) (by omega) (fun x hx => ?_); conv => whnf)
        | (refine idx_intro (by first | omega | (simp; omega) | (simp; done)) (by first | omega | (simp; omega) | (simp; done)) (fun x hx => ?_); conv => whnf)
        | fail
      · obtain ⟨y, hyx⟩ : ∃ y, y = x := ⟨x, rfl⟩
        subst hyx
        have hlb := hlb y.1
        have hstep := wr_step (m := (M : Int)) (out := L.take c) (w := w) hx
        rw [hcl] at hstep
        cases hfd : foundK y.1 (L.take c) with
        | true =>
          have hfl : lb y.1 (L.take c) < c := by
            obtain ⟨z, hz, _⟩ := foundK_lt hfd
            have := (List.getElem?_eq_some_iff.1 hz).1
            omega
          have hk : wk1 (L.take c) y = (c : Int) - lb y.1 (L.take c) := by rw [wk1, hcl, if_pos hfd]; omega
          have hp : put1 (L.take c) y = (L.set (lb y.1 (L.take c)) y).take c := by rw [put1, if_pos hfd, set_take]
          rw [if_pos hfd, hp] at hstep
          repeat' first
            | (refine br_true (by first | with_reducible exact rfl | assumption | decide) ?_; conv => whnf)
            | (refine br_false (by first | with_reducible exact rfl | assumption | decide) ?_; conv => whnf)
            | ((with_reducible refine br_kt (by assumption) ?_); conv => whnf)
            | ((with_reducible refine br_kf (by assumption) ?_); conv => whnf)
            | ((with_reducible refine br_nt (by assumption) ?_); conv => whnf)
            | ((with_reducible refine br_nf (by assumption) ?_); conv => whnf)
            | ((with_reducible refine br_et (by assumption) ?_); conv => whnf)
            | ((with_reducible refine br_ef (by assumption) ?_); conv => whnf)
            | ((with_reducible refine br_dec (fun h => ?_) (fun h => ?_)) <;> first | (exfalso; omega) | conv => whnf)
            | ((with_reducible refine br_ndec (fun h => ?_) (fun h => ?_)) <;> first | (exfalso; omega) | conv => whnf)
            | ((with_reducible refine br_ne (fun h => ?_) (fun h => ?_)) <;> first | (exfalso; omega) | conv => whnf)
            | ((with_reducible refine br_eq (fun h => ?_) (fun h => ?_)) <;> first | (exfalso; omega) | conv => whnf)
            | (refine br_intro (fun h => ?_) (fun h => ?_) <;> conv => whnf)
            | (refine need_in (by first | exact trivial | assumption | exact ⟨rfl, Nat.le_refl _⟩ | exact ⟨rfl, rfl⟩ | (simp only [inR]; omega) | omega | (simp only [roomP, true_and, and_true, List.length_take, List.length_drop, List.length_append, List.length_cons, List.length_nil, List.length_set, List.length_replicate]; omega) | (refine ⟨by first | exact trivial | rfl, by first | exact Nat.le_refl _ | omega, ?_⟩; change roomP _ _ 1; simp only [roomP]; omega) | (change roomP _ _ 1; simp only [roomP]; omega) | (simp; omega) | (simp [inR]; omega) | (simp [inR]; done) | decide | (simp; done)) ?_; conv => whnf)
            | (refine idx_nat (by omega) (fun x hx => ?_); conv => whnf)
            | (refine frz_auto ?_; conv => whnf)
            | (refine draw_plain ?_; conv => whnf)
            | (refine idx_intro (by omega) (by omega) (fun x hx => ?_); conv => whnf)
            | (refine idx_intro (by first | omega | (simp; omega) | (simp; done)) (by first | omega | (simp; omega) | (simp; done)) (fun x hx => ?_); conv => whnf)
            | fail
          refine back_intro (by conv => whnf) rfl ⟨i + 1, c, w + wk1 (L.take c) y, L.set (lb y.1 (L.take c)) y, wr_vs2 ?_, wr_h ?_, by omega, by rw [List.length_set]; exact hL, hc, ?_, by omega, by omega, hgo.trans hstep⟩ ?_
          · omega
          · rw [Int.toNat_natCast]
          · rw [← hp]; exact put1_asc ha y
          · show l.length - ((i : Int) + 1).toNat < l.length - (i : Int).toNat
            omega
        | false =>
          have hk : wk1 (L.take c) y = (c : Int) - lb y.1 (L.take c) + 1 := by rw [wk1, hcl, if_neg (by rw [hfd]; decide)]
          have hp : put1 (L.take c) y = (L.take c).take (lb y.1 (L.take c)) ++ y :: (L.take c).drop (lb y.1 (L.take c)) := by rw [put1, if_neg (by rw [hfd]; decide)]
          rw [if_neg (by rw [hfd]; decide)] at hstep
          repeat' first
            | (refine br_true (by first | with_reducible exact rfl | assumption | decide) ?_; conv => whnf)
            | (refine br_false (by first | with_reducible exact rfl | assumption | decide) ?_; conv => whnf)
            | ((with_reducible refine br_kt (by assumption) ?_); conv => whnf)
            | ((with_reducible refine br_kf (by assumption) ?_); conv => whnf)
            | ((with_reducible refine br_nt (by assumption) ?_); conv => whnf)
            | ((with_reducible refine br_nf (by assumption) ?_); conv => whnf)
            | ((with_reducible refine br_et (by assumption) ?_); conv => whnf)
            | ((with_reducible refine br_ef (by assumption) ?_); conv => whnf)
            | ((with_reducible refine br_dec (fun h => ?_) (fun h => ?_)) <;> first | (exfalso; omega) | conv => whnf)
            | ((with_reducible refine br_ndec (fun h => ?_) (fun h => ?_)) <;> first | (exfalso; omega) | conv => whnf)
            | ((with_reducible refine br_ne (fun h => ?_) (fun h => ?_)) <;> first | (exfalso; omega) | conv => whnf)
            | ((with_reducible refine br_eq (fun h => ?_) (fun h => ?_)) <;> first | (exfalso; omega) | conv => whnf)
            | (refine br_intro (fun h => ?_) (fun h => ?_) <;> conv => whnf)
            | (refine need_in (by first | exact trivial | assumption | exact ⟨rfl, Nat.le_refl _⟩ | exact ⟨rfl, rfl⟩ | (simp only [inR]; omega) | omega | (simp only [roomP, true_and, and_true, List.length_take, List.length_drop, List.length_append, List.length_cons, List.length_nil, List.length_set, List.length_replicate]; omega) | (refine ⟨by first | exact trivial | rfl, by first | exact Nat.le_refl _ | omega, ?_⟩; change roomP _ _ 1; simp only [roomP]; omega) | (change roomP _ _ 1; simp only [roomP]; omega) | (simp; omega) | (simp [inR]; omega) | (simp [inR]; done) | decide | (simp; done)) ?_; conv => whnf)
            | (refine idx_nat (by omega) (fun x hx => ?_); conv => whnf)
            | (refine frz_auto ?_; conv => whnf)
            | (refine draw_plain ?_; conv => whnf)
            | (refine idx_intro (by omega) (by omega) (fun x hx => ?_); conv => whnf)
            | (refine idx_intro (by first | omega | (simp; omega) | (simp; done)) (by first | omega | (simp; omega) | (simp; done)) (fun x hx => ?_); conv => whnf)
            | fail
          · rw [hgo, hstep, if_pos (by omega), hk]
            done
          · rw [if_neg (by omega)] at hstep
            have hs := shift_take (L := L) (x := y) hL hc hlb (c + 1 - (lb y.1 (L.take c) + 1)) (by omega)
            have e1 : ((lb y.1 (L.take c) : Int) + 1).toNat = lb y.1 (L.take c) + 1 := by omega
            have e2 : ((c : Int) + 1).toNat = c + 1 := by omega
            refine back_intro (by conv => whnf) rfl ⟨i + 1, c + 1, w + wk1 (L.take c) y, (L.take (lb y.1 (L.take c) + 1) ++ (((L.drop (lb y.1 (L.take c))).take (c + 1 - lb y.1 (L.take c))).take (c + 1 - (lb y.1 (L.take c) + 1)) ++ L.drop (lb y.1 (L.take c) + 1 + (((L.drop (lb y.1 (L.take c))).take (c + 1 - lb y.1 (L.take c))).take (c + 1 - (lb y.1 (L.take c) + 1))).length))).set (lb y.1 (L.take c)) y, wr_vs3 e2 ?_, wr_h ?_, by omega, ?_, by omega, ?_, by omega, by omega, ?_⟩ ?_
            · omega
            · simp only [cast_self, Int.toNat_natCast, e1, e2]
            · simp only [List.length_set, List.length_append, List.length_take, List.length_drop]
              omega
            · rw [hs, ← hp]; exact put1_asc ha y
            · rw [hs, ← hp]; exact hgo.trans hstep
            · show l.length - ((i : Int) + 1).toNat < l.length - (i : Int).toNat
              omega
      · have e : l.length ≤ i := by omega
        rw [List.drop_eq_nil_of_le e] at hgo
        rw [hgo]
        rfl
    · exfalso
      simp at h
      omega
  · cases h
end Go.Proofs.Ytfnikjihjjniiaa
