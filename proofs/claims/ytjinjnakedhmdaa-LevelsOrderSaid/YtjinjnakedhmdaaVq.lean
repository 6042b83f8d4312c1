/-
  Levels: the law of their order.
-/
import Derived.Test.YtjinjnakedhmdaaVp
namespace Go.Proofs.Ytjinjnakedhmdaa
open Av Bk

/-- What the order is after a run has come, and after it has been taken away again. -/
structure Odr (b : Int) (l : List lvT.El) (n : Int) (r : runT.El) (P : Int × List lvT.El × Int) (Q : (Int × List lvT.El) × List runT.El × Int) (w d : Nat) : Prop where
  f1 : (nwR b l).2 = 0
  f2 : (nwR P.1 P.2.1).2 = 0
  e3 : Q.2.2 = 0
  f3 : (nwR Q.1.1 Q.1.2).2 = 0
  wd : w + d ≤ (nwR b l).1.length
  s1 : (nwR P.1 P.2.1).1 = (nwR b l).1.take w ++ (r :: (nwR b l).1.drop w)
  t1 : Q.2.1.length = d + 1
  t2 : Q.2.1[d]? = some r
  s2 : (nwR Q.1.1 Q.1.2).1 = (nwR b l).1.take w ++ (nwR b l).1.drop (w + d)
  s3 : d = 0 → Q.1 = (b, l)
  d2 : d ≤ 1
theorem odr_of {b : Int} {l : List lvT.El} {n : Int} {r : runT.El} (A : Arr b l n r) : Odr b l n r (arrL b l n r) (leaL (arrL b l n r).1 (arrL b l n r).2.1 n) (loL revF l n.toNat).length (atL l n.toNat).length := by
  have hn : n.toNat < 12 := by have := A.n0; have := A.n1; omega
  rw [A.arr]
  have hat : atL (withL l n.toNat (atL l n.toNat ++ [r])) n.toNat = atL l n.toNat ++ [r] := by rw [with_at, if_pos rfl]
  rw [show ((b, withL l n.toNat (atL l n.toNat ++ [r]), (0 : Int)) : Int × List lvT.El × Int).1 = b from rfl, show ((b, withL l n.toNat (atL l n.toNat ++ [r]), (0 : Int)) : Int × List lvT.El × Int).2.1 = withL l n.toNat (atL l n.toNat ++ [r]) from rfl]
  rw [lea_of A.ok2 A.n0 A.n1 (by rw [hat, List.length_append]; show _ + 1 ≠ 0; omega), hat, with_with]
  have c1 := nw_of A.ok
  have c2 := nw_of A.ok2
  have c3 := nw_of A.ok3
  have w1 := new_own A.ok.len hn
  have w2 := new_with (rs := atL l n.toNat ++ [r]) A.ok.len hn
  have w3 := new_with (rs := []) A.ok.len hn
  have k1 : (newL l).take (loL revF l n.toNat).length = loL revF l n.toNat := by rw [w1, List.take_left]
  have k2 : (newL l).drop (loL revF l n.toNat).length = (atL l n.toNat).reverse ++ hiL revF l n.toNat := by rw [w1, List.drop_left]
  have k3 : (newL l).drop ((loL revF l n.toNat).length + (atL l n.toNat).length) = hiL revF l n.toNat := by
    rw [← List.drop_drop, k2]
    exact List.drop_left' (List.length_reverse ..)
  refine ⟨by rw [c1], by rw [c2], rfl, by rw [c3], ?_, ?_, by rw [List.length_append]; rfl, ?_, ?_, ?_, A.one⟩
  · rw [c1]
    show _ ≤ (newL l).length
    rw [w1, List.length_append, List.length_append, List.length_reverse]
    omega
  · rw [c1, c2]
    show newL (withL l n.toNat (atL l n.toNat ++ [r])) = (newL l).take _ ++ (r :: (newL l).drop _)
    rw [k1, k2, w2, List.reverse_append]
    rfl
  · show (atL l n.toNat ++ [r])[(atL l n.toNat).length]? = some r
    rw [List.getElem?_append_right (Nat.le_refl _), Nat.sub_self]; rfl
  · rw [c1, c3]
    show newL (withL l n.toNat []) = (newL l).take _ ++ (newL l).drop _
    rw [k1, k3, w3]
    rfl
  · intro h
    have h : atL l n.toNat = [] := List.eq_nil_of_length_eq_zero h
    show (b, withL l n.toNat []) = (b, l)
    have := with_same (n := n.toNat) A.ok.last
    rw [h] at this
    rw [this]
theorem tk1 {w : Nat} {L : List runT.El} : List.take ((w : Int).toNat - Int.toNat 0) (List.drop (Int.toNat 0) L) = L.take w := rfl
theorem tk2 {w : Nat} {L : List runT.El} : List.take ((L.length : Int).toNat - (w : Int).toNat) (List.drop (w : Int).toNat L) = L.drop w := by
  show List.take (L.length - w) (List.drop w L) = _
  exact List.take_of_length_le (by rw [List.length_drop]; omega)
theorem tk3 {w d : Nat} {L : List runT.El} : List.take ((L.length : Int).toNat - ((w : Int) + (d : Int)).toNat) (List.drop ((w : Int) + (d : Int)).toNat L) = L.drop (w + d) := tk2 (w := w + d)
theorem tkA {α : Type} {a b : List α} : List.take (a.length + b.length) (a ++ b) = a ++ b := by rw [← List.length_append, List.take_length]
theorem big1 {A N : List runT.El} {w : Nat} {r : runT.El} (hA : A = N.take w ++ (r :: N.drop w)) (h : (!samRs A (List.take ((List.take ((w : Int).toNat - Int.toNat 0) (List.drop (Int.toNat 0) N)).length + [r].length + (List.take ((N.length : Int).toNat - (w : Int).toNat) (List.drop (w : Int).toNat N)).length) (List.take ((w : Int).toNat - Int.toNat 0) (List.drop (Int.toNat 0) N) ++ [r] ++ List.take ((N.length : Int).toNat - (w : Int).toNat) (List.drop (w : Int).toNat N)))) = true) : False := by
  rw [tk1, tk2, ← List.length_append, ← List.length_append, List.take_length, List.append_assoc, hA] at h
  rw [show samRs (N.take w ++ (r :: N.drop w)) (N.take w ++ ([r] ++ N.drop w)) = true from samRs_refl _] at h
  cases h
theorem big2 {A N : List runT.El} {w d : Nat} (hA : A = N.take w ++ N.drop (w + d)) (h : samRs A (List.take ((w : Int).toNat - Int.toNat 0) (List.drop (Int.toNat 0) N) ++ List.take ((N.length : Int).toNat - ((w : Int) + (d : Int)).toNat) (List.drop ((w : Int) + (d : Int)).toNat N)) = false) : False := by
  rw [tk1, tk3, hA, samRs_refl] at h
  cases h
theorem nw_big (b : Int) (l : List lvT.El) : (nwR b l).1.length ≤ 1000000 ∧ ∀ r ∈ (nwR b l).1, r.2.1.length ≤ 1000000 := by
  have h := nw_bnd b l
  exact ⟨by omega, fun r hr => by have := h.2 r hr; omega⟩
theorem lo_bnd {b : Int} {l : List lvT.El} (h : VOk b l) (i : Nat) : (loL revF l i).length ≤ 2 * i := by
  induction i with
  | zero => exact Nat.zero_le _
  | succ i ih =>
    rw [lo_succ, List.length_append]
    show _ + (atL l i).reverse.length ≤ _
    rw [List.length_reverse]
    have := h.two i
    omega
theorem lo_end {l : List lvT.El} {i : Nat} {n : Nat} (hi : i ≤ n) (h : i = n ∨ l.length ≤ i) : (loL revF l i).length = (loL revF l n).length := by
  rcases h with rfl | h
  · rfl
  · rw [lo_out revF rfl hi h]
set_option maxRecDepth 100000 in
theorem fnOk_lOr : FnOk Try.prog 4 Try.f4 := ⟨by rfl, by kernel_rfl, by
  show okCode _ _ = true ∧ drawsOk _ = true
  exact ⟨by kernel_rfl, by kernel_rfl⟩⟩
noncomputable abbrev lOr_C : Cx := lw_C
abbrev lOr_D := lw_D
theorem lOr_F : FnsOk Try.prog lOr_C.fns := FnsOk.nil
abbrev lOr_N : Nat := 0
abbrev lOr_T : List Ty := [lvsT, .int .i64, runT]
abbrev lOr_FN := fnOk_lOr
set_option maxRecDepth 100000 in
set_option maxHeartbeats 8000000 in
theorem lOr1 (b : Int) (l : List lvT.El) (n id : Int) (es : List entT.El) (hf : longV l = true) : bodyA lOr_C (callN lOr_C lOr_N) Try.f4 [.agg [.int .i64 b, .lst lvT l], .int .i64 n, .agg [.int .i64 id, .lst entT es]] [] (fun v _ => v = .bool true) := by
  conv => whnf
  repeat' first
    | ((first | refine idx_kn (by assumption) ?_ | refine idx_ki (by assumption) (by omega) ?_ | refine br_true (by first | with_reducible exact rfl | assumption | decide) ?_ | refine br_false (by first | with_reducible exact rfl | assumption | decide) ?_ | with_reducible first | refine br_kt (by assumption) ?_ | refine br_kf (by assumption) ?_ | refine br_nt (by assumption) ?_ | refine br_nf (by assumption) ?_ | refine br_et (by assumption) ?_ | refine br_ef (by assumption) ?_); conv => whnf)
    | ((with_reducible first | refine br_dec (fun h => ?_) (fun h => ?_) | refine br_ndec (fun h => ?_) (fun h => ?_) | refine br_ne (fun h => ?_) (fun h => ?_) | refine br_eq (fun h => ?_) (fun h => ?_)) <;> first | (exfalso; omega) | conv => whnf)
    | (refine br_intro (fun h => ?_) (fun h => ?_) <;> conv => whnf)
    | ((first | refine need_in (by first | exact trivial | assumption | exact ⟨rfl, Nat.le_refl _⟩ | exact ⟨rfl, rfl⟩ | (simp only [inR]; omega) | omega | (simp only [roomP, true_and, and_true, List.length_take, List.length_drop, List.length_append, List.length_cons, List.length_nil, List.length_set, List.length_replicate]; omega) | (refine ⟨by first | exact trivial | rfl, by first | exact Nat.le_refl _ | omega | (simp; omega), ?_⟩; change roomP _ _ 1; simp only [roomP]; omega) | (change roomP _ _ 1; simp only [roomP]; omega) | (simp; omega) | (simp [inR]; omega) | (simp [inR]; done) | decide | (simp; done)) ?_ | refine idx_nat (by omega) (fun x hx => ?_) | refine frz_auto ?_ | refine draw_plain ?_ | refine idx_intro (by first | omega | (simp; omega) | (simp; done)) (by first | omega | (simp; omega) | (simp; done)) (fun x hx => ?_)); conv => whnf)
set_option maxRecDepth 100000 in
set_option maxHeartbeats 8000000 in
theorem lOr2 (b : Int) (l : List lvT.El) (n id : Int) (es : List entT.El) (hf : longV l = false) (hg : longL es = true) : bodyA lOr_C (callN lOr_C lOr_N) Try.f4 [.agg [.int .i64 b, .lst lvT l], .int .i64 n, .agg [.int .i64 id, .lst entT es]] [] (fun v _ => v = .bool true) := by
  conv => whnf
  repeat' first
    | ((first | refine idx_kn (by assumption) ?_ | refine idx_ki (by assumption) (by omega) ?_ | refine br_true (by first | with_reducible exact rfl | assumption | decide) ?_ | refine br_false (by first | with_reducible exact rfl | assumption | decide) ?_ | with_reducible first | refine br_kt (by assumption) ?_ | refine br_kf (by assumption) ?_ | refine br_nt (by assumption) ?_ | refine br_nf (by assumption) ?_ | refine br_et (by assumption) ?_ | refine br_ef (by assumption) ?_); conv => whnf)
    | ((with_reducible first | refine br_dec (fun h => ?_) (fun h => ?_) | refine br_ndec (fun h => ?_) (fun h => ?_) | refine br_ne (fun h => ?_) (fun h => ?_) | refine br_eq (fun h => ?_) (fun h => ?_)) <;> first | (exfalso; omega) | conv => whnf)
    | (refine br_intro (fun h => ?_) (fun h => ?_) <;> conv => whnf)
    | ((first | refine need_in (by first | exact trivial | assumption | exact ⟨rfl, Nat.le_refl _⟩ | exact ⟨rfl, rfl⟩ | (simp only [inR]; omega) | omega | (simp only [roomP, true_and, and_true, List.length_take, List.length_drop, List.length_append, List.length_cons, List.length_nil, List.length_set, List.length_replicate]; omega) | (refine ⟨by first | exact trivial | rfl, by first | exact Nat.le_refl _ | omega | (simp; omega), ?_⟩; change roomP _ _ 1; simp only [roomP]; omega) | (change roomP _ _ 1; simp only [roomP]; omega) | (simp; omega) | (simp [inR]; omega) | (simp [inR]; done) | decide | (simp; done)) ?_ | refine idx_nat (by omega) (fun x hx => ?_) | refine frz_auto ?_ | refine draw_plain ?_ | refine idx_intro (by first | omega | (simp; omega) | (simp; done)) (by first | omega | (simp; omega) | (simp; done)) (fun x hx => ?_)); conv => whnf)
set_option maxRecDepth 100000 in
set_option maxHeartbeats 8000000 in
theorem lOr3 (b : Int) (l : List lvT.El) (n id : Int) (es : List entT.El) (hf : longV l = false) (hg : longL es = false) (hA : (arrL b l n (id, es, ())).2.2 ≠ 0) : bodyA lOr_C (callN lOr_C lOr_N) Try.f4 [.agg [.int .i64 b, .lst lvT l], .int .i64 n, .agg [.int .i64 id, .lst entT es]] [] (fun v _ => v = .bool true) := by
  conv => whnf
  repeat' first
    | ((first | refine idx_kn (by assumption) ?_ | refine idx_ki (by assumption) (by omega) ?_ | refine br_true (by first | with_reducible exact rfl | assumption | decide) ?_ | refine br_false (by first | with_reducible exact rfl | assumption | decide) ?_ | with_reducible first | refine br_kt (by assumption) ?_ | refine br_kf (by assumption) ?_ | refine br_nt (by assumption) ?_ | refine br_nf (by assumption) ?_ | refine br_et (by assumption) ?_ | refine br_ef (by assumption) ?_); conv => whnf)
    | ((with_reducible first | refine br_dec (fun h => ?_) (fun h => ?_) | refine br_ndec (fun h => ?_) (fun h => ?_) | refine br_ne (fun h => ?_) (fun h => ?_) | refine br_eq (fun h => ?_) (fun h => ?_)) <;> first | (exfalso; omega) | conv => whnf)
    | (refine br_intro (fun h => ?_) (fun h => ?_) <;> conv => whnf)
    | ((first | refine need_in (by first | exact trivial | assumption | exact ⟨rfl, Nat.le_refl _⟩ | exact ⟨rfl, rfl⟩ | (simp only [inR]; omega) | omega | (simp only [roomP, true_and, and_true, List.length_take, List.length_drop, List.length_append, List.length_cons, List.length_nil, List.length_set, List.length_replicate]; omega) | (refine ⟨by first | exact trivial | rfl, by first | exact Nat.le_refl _ | omega | (simp; omega), ?_⟩; change roomP _ _ 1; simp only [roomP]; omega) | (change roomP _ _ 1; simp only [roomP]; omega) | (simp; omega) | (simp [inR]; omega) | (simp [inR]; done) | decide | (simp; done)) ?_ | refine idx_nat (by omega) (fun x hx => ?_) | refine frz_auto ?_ | refine draw_plain ?_ | refine idx_intro (by first | omega | (simp; omega) | (simp; done)) (by first | omega | (simp; omega) | (simp; done)) (fun x hx => ?_)); conv => whnf)
set_option maxRecDepth 100000 in
set_option maxHeartbeats 8000000 in
theorem lOr4 (b : Int) (l : List lvT.El) (n id : Int) (es : List entT.El) (hf : longV l = false) (hg : longL es = false) (hA : (arrL b l n (id, es, ())).2.2 = 0) : bodyA lOr_C (callN lOr_C lOr_N) Try.f4 [.agg [.int .i64 b, .lst lvT l], .int .i64 n, .agg [.int .i64 id, .lst entT es]] [] (fun v _ => v = .bool true) := by
  have A := arr_of hA
  have hn0 := A.n0
  have hn1 := A.n1
  have h1 := A.ok
  have hO := odr_of A
  have f1 := hO.f1
  have f2 := hO.f2
  conv => whnf
  repeat' first
    | ((first | refine idx_kn (by assumption) ?_ | refine idx_ki (by assumption) (by omega) ?_ | refine br_true (by first | with_reducible exact rfl | assumption | decide) ?_ | refine br_false (by first | with_reducible exact rfl | assumption | decide) ?_ | with_reducible first | refine br_kt (by assumption) ?_ | refine br_kf (by assumption) ?_ | refine br_nt (by assumption) ?_ | refine br_nf (by assumption) ?_ | refine br_et (by assumption) ?_ | refine br_ef (by assumption) ?_); conv => whnf)
    | ((with_reducible first | refine br_dec (fun h => ?_) (fun h => ?_) | refine br_ndec (fun h => ?_) (fun h => ?_) | refine br_ne (fun h => ?_) (fun h => ?_) | refine br_eq (fun h => ?_) (fun h => ?_)) <;> first | (exfalso; omega) | conv => whnf)
    | (refine br_intro (fun h => ?_) (fun h => ?_) <;> conv => whnf)
    | ((first | refine need_in (by first | exact trivial | assumption | exact ⟨rfl, Nat.le_refl _⟩ | exact ⟨rfl, rfl⟩ | (simp only [inR]; omega) | omega | (simp only [roomP, true_and, and_true, List.length_take, List.length_drop, List.length_append, List.length_cons, List.length_nil, List.length_set, List.length_replicate]; omega) | (refine ⟨by first | exact trivial | rfl, by first | exact Nat.le_refl _ | omega | (simp; omega), ?_⟩; change roomP _ _ 1; simp only [roomP]; omega) | (change roomP _ _ 1; simp only [roomP]; omega) | (simp; omega) | (simp [inR]; omega) | (simp [inR]; done) | decide | (simp; done)) ?_ | refine idx_nat (by omega) (fun x hx => ?_) | refine frz_auto ?_ | refine draw_plain ?_ | refine idx_intro (by first | omega | (simp; omega) | (simp; done)) (by first | omega | (simp; omega) | (simp; done)) (fun x hx => ?_)); conv => whnf)
  refine loop_inv [] [12, 13] (fun vs h => ∃ i : Nat, vs = [.int .i64 ((loL revF l i).length : Int), .int .i64 (i : Int)] ∧ h = [.cells 29 [.int .i64 b, .lst lvT l], .cells 32 [.int .i64 id, .lst entT es], .cells 29 [.int .i64 (arrL b l n (id, es, ())).1, .lst lvT (arrL b l n (id, es, ())).2.1]] ∧ i ≤ l.length ∧ i ≤ n.toNat) (fun vs _ => match vs with | [_, .int _ k] => l.length - k.toNat | _ => 0) ?_
  conv => whnf
  refine ⟨⟨0, rfl, rfl, Nat.zero_le _, Nat.zero_le _⟩, ?_⟩
  rintro vs h' - ⟨i, rfl, rfl, hi, hin⟩
  have hlb := lo_bnd h1 i
  have hll := h1.len
  by_cases hlt : i < n.toNat ∧ i < l.length
  · obtain ⟨x, hx⟩ : ∃ x : lvT.El, (l : List lvT.El)[i]? = some x := ⟨_, List.getElem?_eq_getElem hlt.2⟩
    have hst : (loL revF l (i + 1)).length = (loL revF l i).length + x.1.length := by
      rw [lo_succ, List.length_append, atL_get hx]
      show _ + (List.reverse _).length = _
      rw [List.length_reverse]
    have hxl : x.1.length ≤ 2 := by have := h1.two i; rw [atL_get hx] at this; exact this
    conv => whnf
    repeat' first
      | ((first | refine idx_kn (by assumption) ?_ | refine idx_ki (by assumption) (by omega) ?_ | refine br_true (by first | with_reducible exact rfl | assumption | decide) ?_ | refine br_false (by first | with_reducible exact rfl | assumption | decide) ?_ | with_reducible first | refine br_kt (by assumption) ?_ | refine br_kf (by assumption) ?_ | refine br_nt (by assumption) ?_ | refine br_nf (by assumption) ?_ | refine br_et (by assumption) ?_ | refine br_ef (by assumption) ?_); conv => whnf)
      | ((with_reducible first | refine br_dec (fun h => ?_) (fun h => ?_) | refine br_ndec (fun h => ?_) (fun h => ?_) | refine br_ne (fun h => ?_) (fun h => ?_) | refine br_eq (fun h => ?_) (fun h => ?_)) <;> first | (exfalso; omega) | conv => whnf)
      | (refine br_intro (fun h => ?_) (fun h => ?_) <;> conv => whnf)
      | ((first | refine need_in (by first | exact trivial | assumption | exact ⟨rfl, Nat.le_refl _⟩ | exact ⟨rfl, rfl⟩ | (simp only [inR]; omega) | omega | (simp only [roomP, true_and, and_true, List.length_take, List.length_drop, List.length_append, List.length_cons, List.length_nil, List.length_set, List.length_replicate]; omega) | (refine ⟨by first | exact trivial | rfl, by first | exact Nat.le_refl _ | omega | (simp; omega), ?_⟩; change roomP _ _ 1; simp only [roomP]; omega) | (change roomP _ _ 1; simp only [roomP]; omega) | (simp; omega) | (simp [inR]; omega) | (simp [inR]; done) | decide | (simp; done)) ?_ | refine idx_nat (by omega) (fun x hx => ?_) | refine frz_auto ?_ | refine draw_plain ?_ | refine idx_intro (by first | omega | (simp; omega) | (simp; done)) (by first | omega | (simp; omega) | (simp; done)) (fun x hx => ?_)); conv => whnf)
    refine back_intro (by conv => whnf) rfl ⟨i + 1, congrArg (fun y => [AV.int .i64 y, AV.int .i64 ((i : Int) + 1)]) (by rw [hst]; omega), rfl, by omega, by omega⟩ ?_
    show l.length - ((i : Int) + 1).toNat < l.length - (i : Int).toNat
    omega
  · have hw := lo_end (l := l) hin (by omega)
    rw [← hw] at hO
    have hie : ¬ ((i : Int) < n) ∨ ¬ ((i : Int) < (l.length : Int)) := by omega
    generalize (loL revF l i).length = w at *
    generalize hd : (atL l n.toNat).length = d at *
    have nb := nw_bnd b l
    have nb1 := nb.1
    have hNP := nw_big (arrL b l n (id, es, ())).1 (arrL b l n (id, es, ())).2.1
    have hNQ := nw_big (leaL (arrL b l n (id, es, ())).1 (arrL b l n (id, es, ())).2.1 n).1.1 (leaL (arrL b l n (id, es, ())).1 (arrL b l n (id, es, ())).2.1 n).1.2
    have e3 := hO.e3
    have f3 := hO.f3
    have hwd := hO.wd
    have t1 := hO.t1
    have t2 : (leaL (arrL b l n (id, es, ())).1 (arrL b l n (id, es, ())).2.1 n).2.1[d]? = some (id, es, ()) := hO.t2
    have d2 := hO.d2
    have hel := longL_len hg
    have hel2 : es.length ≤ 4611686018427387904 := by omega
    have sr := samR_refl (id, es, ())
    have o1 := hO.s1
    have o2 := hO.s2
    have hs3 : d = 0 → (leaL (arrL b l n (id, es, ())).1 (arrL b l n (id, es, ())).2.1 n).1.2.length ≤ 1000000 ∧ ∀ x ∈ ((leaL (arrL b l n (id, es, ())).1 (arrL b l n (id, es, ())).2.1 n).1.2 : List lvT.El), (rsL x).length ≤ 1000000 ∧ ∀ r ∈ rsL x, r.2.1.length ≤ 1000000 := fun h => by
      rw [hO.s3 h]
      have hl := longV_no hf
      exact ⟨by show l.length ≤ _; omega, fun x hx => ⟨by have := (hl.2 x hx).1; omega, fun r hr => by have := (hl.2 x hx).2 r hr; omega⟩⟩
    have hs4 : d = 0 → ((leaL (arrL b l n (id, es, ())).1 (arrL b l n (id, es, ())).2.1 n).1.1 == b && samLs (leaL (arrL b l n (id, es, ())).1 (arrL b l n (id, es, ())).2.1 n).1.2 l) = true := fun h => by
      rw [hO.s3 h]
      show (b == b && samLs l l) = true
      rw [beq_self_eq_true, samLs_refl]; rfl
    by_cases hnl : n < (l.length : Int)
    · obtain ⟨x, hx⟩ : ∃ x : lvT.El, (l : List lvT.El)[n.toNat]? = some x := ⟨_, List.getElem?_eq_getElem (by omega)⟩
      have hdx : x.1.length = d := by rw [← hd, atL_get hx]
      subst hdx
      by_cases hd0 : (x.1.length : Int) = 0
      · have hs3 := hs3 (by omega)
        have hs4 := hs4 (by omega)
        conv => whnf
        repeat' first
          | ((first | refine idx_kn (by assumption) ?_ | refine idx_ki (by assumption) (by omega) ?_ | refine br_true (by first | with_reducible exact rfl | assumption | decide) ?_ | refine br_false (by first | with_reducible exact rfl | assumption | decide) ?_ | with_reducible first | refine br_kt (by assumption) ?_ | refine br_kf (by assumption) ?_ | refine br_nt (by assumption) ?_ | refine br_nf (by assumption) ?_ | refine br_et (by assumption) ?_ | refine br_ef (by assumption) ?_); conv => whnf)
          | ((with_reducible first | refine br_dec (fun h => ?_) (fun h => ?_) | refine br_ndec (fun h => ?_) (fun h => ?_) | refine br_ne (fun h => ?_) (fun h => ?_) | refine br_eq (fun h => ?_) (fun h => ?_)) <;> first | (exfalso; omega) | conv => whnf)
          | (refine br_intro (fun h => ?_) (fun h => ?_) <;> conv => whnf)
          | ((first | refine need_in (by first | exact trivial | assumption | exact ⟨rfl, Nat.le_refl _⟩ | exact ⟨rfl, rfl⟩ | (simp only [inR]; omega) | omega | (simp only [roomP, true_and, and_true, List.length_take, List.length_drop, List.length_append, List.length_cons, List.length_nil, List.length_set, List.length_replicate]; omega) | (refine ⟨by first | exact trivial | rfl, by first | exact Nat.le_refl _ | omega | (simp; omega), ?_⟩; change roomP _ _ 1; simp only [roomP]; omega) | (change roomP _ _ 1; simp only [roomP]; omega) | (simp; omega) | (simp [inR]; omega) | (simp [inR]; done) | decide | (simp; done)) ?_ | refine idx_nat (by omega) (fun x hx => ?_) | refine frz_auto ?_ | refine draw_plain ?_ | refine idx_intro (by first | omega | (simp; omega) | (simp; done)) (by first | omega | (simp; omega) | (simp; done)) (fun x hx => ?_)); conv => whnf)
        all_goals first
          | (exfalso; clear hs3; simp only [cast_self, tk1, tk2, tk3, tkA, Nat.zero_add, List.take_zero, List.nil_append, List.take_length, List.take_succ_cons] at h; first | exact big1 o1 h | exact big2 o2 h)
      · conv => whnf
        repeat' first
          | ((first | refine idx_kn (by assumption) ?_ | refine idx_ki (by assumption) (by omega) ?_ | refine br_true (by first | with_reducible exact rfl | assumption | decide) ?_ | refine br_false (by first | with_reducible exact rfl | assumption | decide) ?_ | with_reducible first | refine br_kt (by assumption) ?_ | refine br_kf (by assumption) ?_ | refine br_nt (by assumption) ?_ | refine br_nf (by assumption) ?_ | refine br_et (by assumption) ?_ | refine br_ef (by assumption) ?_); conv => whnf)
          | ((with_reducible first | refine br_dec (fun h => ?_) (fun h => ?_) | refine br_ndec (fun h => ?_) (fun h => ?_) | refine br_ne (fun h => ?_) (fun h => ?_) | refine br_eq (fun h => ?_) (fun h => ?_)) <;> first | (exfalso; omega) | conv => whnf)
          | (refine br_intro (fun h => ?_) (fun h => ?_) <;> conv => whnf)
          | ((first | refine need_in (by first | exact trivial | assumption | exact ⟨rfl, Nat.le_refl _⟩ | exact ⟨rfl, rfl⟩ | (simp only [inR]; omega) | omega | (simp only [roomP, true_and, and_true, List.length_take, List.length_drop, List.length_append, List.length_cons, List.length_nil, List.length_set, List.length_replicate]; omega) | (refine ⟨by first | exact trivial | rfl, by first | exact Nat.le_refl _ | omega | (simp; omega), ?_⟩; change roomP _ _ 1; simp only [roomP]; omega) | (change roomP _ _ 1; simp only [roomP]; omega) | (simp; omega) | (simp [inR]; omega) | (simp [inR]; done) | decide | (simp; done)) ?_ | refine idx_nat (by omega) (fun x hx => ?_) | refine frz_auto ?_ | refine draw_plain ?_ | refine idx_intro (by first | omega | (simp; omega) | (simp; done)) (by first | omega | (simp; omega) | (simp; done)) (fun x hx => ?_)); conv => whnf)
        all_goals first
          | (exfalso; clear hs3; simp only [cast_self, tk1, tk2, tk3, tkA, Nat.zero_add, List.take_zero, List.nil_append, List.take_length, List.take_succ_cons] at h; first | exact big1 o1 h | exact big2 o2 h)
    · have hd0 : d = 0 := by rw [← hd, atL_out (by omega)]; rfl
      have hs3 := hs3 hd0
      have hs4 := hs4 hd0
      subst hd0
      conv => whnf
      repeat' first
        | ((first | refine idx_kn (by assumption) ?_ | refine idx_ki (by assumption) (by omega) ?_ | refine br_true (by first | with_reducible exact rfl | assumption | decide) ?_ | refine br_false (by first | with_reducible exact rfl | assumption | decide) ?_ | with_reducible first | refine br_kt (by assumption) ?_ | refine br_kf (by assumption) ?_ | refine br_nt (by assumption) ?_ | refine br_nf (by assumption) ?_ | refine br_et (by assumption) ?_ | refine br_ef (by assumption) ?_); conv => whnf)
        | ((with_reducible first | refine br_dec (fun h => ?_) (fun h => ?_) | refine br_ndec (fun h => ?_) (fun h => ?_) | refine br_ne (fun h => ?_) (fun h => ?_) | refine br_eq (fun h => ?_) (fun h => ?_)) <;> first | (exfalso; omega) | conv => whnf)
        | (refine br_intro (fun h => ?_) (fun h => ?_) <;> conv => whnf)
        | ((first | refine need_in (by first | exact trivial | assumption | exact ⟨rfl, Nat.le_refl _⟩ | exact ⟨rfl, rfl⟩ | (simp only [inR]; omega) | omega | (simp only [roomP, true_and, and_true, List.length_take, List.length_drop, List.length_append, List.length_cons, List.length_nil, List.length_set, List.length_replicate]; omega) | (refine ⟨by first | exact trivial | rfl, by first | exact Nat.le_refl _ | omega | (simp; omega), ?_⟩; change roomP _ _ 1; simp only [roomP]; omega) | (change roomP _ _ 1; simp only [roomP]; omega) | (simp; omega) | (simp [inR]; omega) | (simp [inR]; done) | decide | (simp; done)) ?_ | refine idx_nat (by omega) (fun x hx => ?_) | refine frz_auto ?_ | refine draw_plain ?_ | refine idx_intro (by first | omega | (simp; omega) | (simp; done)) (by first | omega | (simp; omega) | (simp; done)) (fun x hx => ?_)); conv => whnf)
      all_goals first
          | (exfalso; clear hs3; simp only [cast_self, tk1, tk2, tk3, tkA, Nat.zero_add, List.take_zero, List.nil_append, List.take_length, List.take_succ_cons] at h; first | exact big1 o1 h | exact big2 o2 h)
theorem lOr : ∀ es : Ty.Els lOr_T, tyOks lOr_T es → bodyA lOr_C (callN lOr_C lOr_N) Try.f4 (avTs lOr_T es) [] (fun v _ => v = .bool true) := by
  rintro ⟨⟨b, l, _⟩, n, ⟨id, es, _⟩, _⟩ _
  cases hf : longV l with
  | true => exact lOr1 b l n id es hf
  | false =>
    cases hg : longL es with
    | true => exact lOr2 b l n id es hf hg
    | false =>
      by_cases hA : (arrL b l n (id, es, ())).2.2 = 0
      · exact lOr4 b l n id es hf hg hA
      · exact lOr3 b l n id es hf hg hA
end Go.Proofs.Ytjinjnakedhmdaa
