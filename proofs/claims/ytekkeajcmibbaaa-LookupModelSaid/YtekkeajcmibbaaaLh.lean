/-
  The map of a view, by the reference.
-/
import Derived.Test.YtekkeajcmibbaaaLg
namespace Go.Proofs.Ytekkeajcmibbaaa
open Av Bk

theorem into_take {l : List pairT.El} {i : Nat} (hi : i ≤ l.length) (p : pairT.El) :
    List.take (0 + (List.take ((i : Int).toNat - Int.toNat 0) (List.drop (Int.toNat 0) l)).length + (List.take (1 + (List.take ((l.length : Int).toNat - (i : Int).toNat) (List.drop (i : Int).toNat l)).length) (List.take 1 [p] ++ List.take ((l.length : Int).toNat - (i : Int).toNat) (List.drop (i : Int).toNat l))).length)
      (List.take (0 + (List.take ((i : Int).toNat - Int.toNat 0) (List.drop (Int.toNat 0) l)).length) (List.take 0 [] ++ List.take ((i : Int).toNat - Int.toNat 0) (List.drop (Int.toNat 0) l)) ++
        List.take (1 + (List.take ((l.length : Int).toNat - (i : Int).toNat) (List.drop (i : Int).toNat l)).length) (List.take 1 [p] ++ List.take ((l.length : Int).toNat - (i : Int).toNat) (List.drop (i : Int).toNat l)))
    = l.take i ++ p :: l.drop i := by
  simp only [Int.toNat_natCast, show Int.toNat 0 = 0 from rfl, Nat.sub_zero, List.drop_zero, List.take_zero, List.nil_append, Nat.zero_add]
  have e1 : List.take (l.length - i) (l.drop i) = l.drop i := List.take_of_length_le (by simp)
  have e2 : (l.take i).length = i := by simp; omega
  rw [e1, e2]
  have e3 : List.take (1 + (l.drop i).length) (List.take 1 [p] ++ l.drop i) = p :: l.drop i := List.take_of_length_le (by simp; omega)
  rw [e3]
  have e4 : List.take i (l.take i) = l.take i := List.take_of_length_le (by omega)
  rw [e4]
  exact List.take_of_length_le (by simp; omega)
theorem mb_eq {a b : Bool} {c : AV} (h : a = b) : [AV.bool a, c] = [AV.bool b, c] := by rw [h]
theorem own_m {id g n m : Nat} {c d : AV} (h : n = m) : [d, AV.own id g n, c] = [d, AV.own id g m, c] := by rw [h]
theorem heap_m {a b c : AObj} {T : TypeId} {t : Ty} {g : Nat} {l m : List t.El} (hl : l = m) : [a, b, c, .arr T t l false g] = [a, b, c, AObj.arr T t m false g] := by rw [hl]
def spInto : DSpec
  | [.lst (.st [.str, .str]) l, .agg [.str k, .str v]] => some (l.length ≤ 1000000000, .lst pairT (intoP l (mkP k v)))
  | _ => none
set_option maxRecDepth 100000 in
theorem fnOk_rInto : FnOk Try.prog 83 Try.f83 := ⟨by rfl, by kernel_rfl, by
  show okCode _ _ = true ∧ drawsOk _ = true
  exact ⟨by kernel_rfl, by kernel_rfl⟩⟩
set_option maxRecDepth 100000 in
set_option maxHeartbeats 2000000 in
theorem rInto_ok : SpecOk Try.prog 83 spInto := by
  refine spec_body (C := cx0) mixed tbOk SpecsOk.nil (callN_ok (C := cx0) mixed tbOk SpecsOk.nil FnsOk.nil 0) fnOk_rInto ?_
  intro ys p r h hp
  unfold spInto at h
  split at h
  · rename_i l k v
    cases h
    conv => whnf
    repeat' first
      | ((first | refine br_true (by first | with_reducible exact rfl | assumption | decide) ?_ | refine br_false (by first | with_reducible exact rfl | assumption | decide) ?_ | with_reducible first | refine br_kt (by assumption) ?_ | refine br_kf (by assumption) ?_ | refine br_nt (by assumption) ?_ | refine br_nf (by assumption) ?_ | refine br_et (by assumption) ?_ | refine br_ef (by assumption) ?_); conv => whnf)
      | ((with_reducible first | refine br_dec (fun h => ?_) (fun h => ?_) | refine br_ndec (fun h => ?_) (fun h => ?_) | refine br_ne (fun h => ?_) (fun h => ?_) | refine br_eq (fun h => ?_) (fun h => ?_)) <;> first | (exfalso; omega) | conv => whnf)
      | (refine br_intro (fun h => ?_) (fun h => ?_) <;> conv => whnf)
      | ((first | refine need_in (by first | exact trivial | assumption | exact ⟨rfl, Nat.le_refl _⟩ | exact ⟨rfl, rfl⟩ | (simp only [inR]; omega) | omega | (simp only [roomP, true_and, and_true, List.length_take, List.length_drop, List.length_append, List.length_cons, List.length_nil, List.length_set, List.length_replicate]; omega) | (refine ⟨by first | exact trivial | rfl, by first | exact Nat.le_refl _ | omega | (simp; omega), ?_⟩; change roomP _ _ 1; simp only [roomP]; omega) | (change roomP _ _ 1; simp only [roomP]; omega) | (simp; omega) | (simp [inR]; omega) | (simp [inR]; done) | decide | (simp; done)) ?_ | refine idx_nat (by omega) (fun x hx => ?_) | refine frz_auto ?_ | refine draw_plain ?_ | refine idx_intro (by first | omega | (simp; omega) | (simp; done)) (by first | omega | (simp; omega) | (simp; done)) (fun x hx => ?_)); conv => whnf)
    refine loop_inv [] [5] (fun vs h => ∃ i : Nat, vs = [.int .i64 (i : Int)] ∧ h = [.cells 73 [.str k, .str v], .arr 73 pairT [] false 0] ∧ i ≤ l.length ∧ ∀ p ∈ l.take i, sLt p.1 k = true) (fun vs _ => match vs with | [.int _ k] => l.length - k.toNat | _ => 0) ?_
    conv => whnf
    refine ⟨⟨0, rfl, rfl, Nat.zero_le _, by simp⟩, ?_⟩
    rintro vs h' - ⟨i, rfl, rfl, hi, hall⟩
    conv => whnf
    repeat' first
      | ((first | refine br_true (by first | with_reducible exact rfl | assumption | decide) ?_ | refine br_false (by first | with_reducible exact rfl | assumption | decide) ?_ | with_reducible first | refine br_kt (by assumption) ?_ | refine br_kf (by assumption) ?_ | refine br_nt (by assumption) ?_ | refine br_nf (by assumption) ?_ | refine br_et (by assumption) ?_ | refine br_ef (by assumption) ?_); conv => whnf)
      | ((with_reducible first | refine br_dec (fun h => ?_) (fun h => ?_) | refine br_ndec (fun h => ?_) (fun h => ?_) | refine br_ne (fun h => ?_) (fun h => ?_) | refine br_eq (fun h => ?_) (fun h => ?_)) <;> first | (exfalso; omega) | conv => whnf)
      | (refine br_intro (fun h => ?_) (fun h => ?_) <;> conv => whnf)
      | ((first | refine need_in (by first | exact trivial | assumption | exact ⟨rfl, Nat.le_refl _⟩ | exact ⟨rfl, rfl⟩ | (simp only [inR]; omega) | omega | (simp only [roomP, true_and, and_true, List.length_take, List.length_drop, List.length_append, List.length_cons, List.length_nil, List.length_set, List.length_replicate]; omega) | (refine ⟨by first | exact trivial | rfl, by first | exact Nat.le_refl _ | omega | (simp; omega), ?_⟩; change roomP _ _ 1; simp only [roomP]; omega) | (change roomP _ _ 1; simp only [roomP]; omega) | (simp; omega) | (simp [inR]; omega) | (simp [inR]; done) | decide | (simp; done)) ?_ | refine idx_nat (by omega) (fun x hx => ?_) | refine frz_auto ?_ | refine draw_plain ?_ | refine idx_intro (by first | omega | (simp; omega) | (simp; done)) (by first | omega | (simp; omega) | (simp; done)) (fun x hx => ?_)); conv => whnf)
    · refine back_intro (by conv => whnf) rfl ⟨i + 1, rfl, rfl, by omega, take_succ_all hall hx h⟩ ?_
      show l.length - ((i : Int) + 1).toNat < l.length - (i : Int).toNat
      omega
    · refine congrArg (AV.lst pairT) ?_
      rw [into_cut, lbP_at (k := k) (i := i) hall hi (.inr ⟨x, hx, h⟩)]
      exact into_take hi _
    · refine congrArg (AV.lst pairT) ?_
      rw [into_cut, lbP_at (k := k) (i := i) hall hi (.inl (by omega))]
      exact into_take hi _
  · cases h
theorem mapF_len : ∀ l : List entT.El, (mapF l).1.length ≤ l.length ∧ (mapF l).2.length ≤ l.length := by
  refine list_snoc ⟨Nat.le_refl _, Nat.le_refl _⟩ ?_
  rintro l x ⟨h1, h2⟩
  have hi : ∀ (m : List pairT.El) (p : pairT.El), (intoP m p).length = m.length + 1 := fun m p => by
    rw [into_cut]
    simp only [List.length_append, List.length_take, List.length_cons, List.length_drop]
    omega
  rw [mapF_snoc, List.length_append]
  unfold mapStep
  split
  · simp only [List.length_cons, List.length_nil]; omega
  · simp only [List.length_append, List.length_cons, List.length_nil]
    split
    · omega
    · rw [hi]; omega
def allE (b : List entT.El) (rs : List runT.El) : List entT.El := (partsB b rs).flatten
def spMap : DSpec
  | [.agg [.lst (.st [.str, .str, .bool, .int .i64]) b, .lst (.st [.int .i64, .sl (.st [.str, .str, .bool, .int .i64])]) rs]] => some (rs.length ≤ 100000 ∧ (allE b rs).length ≤ 1000000000, .lst pairT (mapL (allE b rs)))
  | _ => none
theorem flat_len {α : Type} {L : List (List α)} {i : Nat} {l : List α} {k : Nat} (h : L[i]? = some l) (hk : k ≤ l.length) : ((L.take i).flatten ++ l.take k).length ≤ L.flatten.length := by
  have h1 : L.flatten = (L.take i).flatten ++ (l ++ (L.drop (i + 1)).flatten) := by
    have hi := (List.getElem?_eq_some_iff.1 h).1
    have he := (List.getElem?_eq_some_iff.1 h).2
    conv => lhs; rw [← List.take_append_drop i L, List.drop_eq_getElem_cons hi, he]
    rw [List.flatten_append, List.flatten_cons]
  rw [h1]
  simp only [List.length_append, List.length_take]
  omega
theorem flat_all {α : Type} {L : List (List α)} {i : Nat} {l : List α} (h : L[i]? = some l) : (L.take (i + 1)).flatten = (L.take i).flatten ++ l := by
  rw [take_snoc1 h, List.flatten_append]
  simp
theorem metB_take {met : List ByteArray} {n : Nat} {m k : ByteArray} (h : met[n]? = some m) : metB (met.take (n + 1)) k = (metB (met.take n) k || sEq m k) := by
  rw [take_snoc1 h]
  simp [metB]
set_option maxRecDepth 100000 in
theorem fnOk_rMap : FnOk Try.prog 53 Try.f53 := ⟨by rfl, by kernel_rfl, by
  show okCode _ _ = true ∧ drawsOk _ = true
  exact ⟨by kernel_rfl, by kernel_rfl⟩⟩
noncomputable def cxh1 : Cx := ⟨tb, [], [(46, spPB), (83, spInto)]⟩
theorem specsh1 : SpecsOk Try.prog cxh1.specs := .cons rfParts_ok (.cons rInto_ok .nil)
set_option maxRecDepth 100000 in
set_option maxHeartbeats 4000000 in
theorem rMap_ok : SpecOk Try.prog 53 spMap := by
  refine spec_body (C := cxh1) mixed tbOk specsh1 (callN_ok (C := cxh1) mixed tbOk specsh1 FnsOk.nil 0) fnOk_rMap ?_
  intro ys p r h hp
  unfold spMap at h
  split at h
  · rename_i b rs
    cases h
    obtain ⟨hp1, hp2⟩ := hp
    conv => whnf
    repeat' first
      | ((first | refine br_true (by first | with_reducible exact rfl | assumption | decide) ?_ | refine br_false (by first | with_reducible exact rfl | assumption | decide) ?_ | with_reducible first | refine br_kt (by assumption) ?_ | refine br_kf (by assumption) ?_ | refine br_nt (by assumption) ?_ | refine br_nf (by assumption) ?_ | refine br_et (by assumption) ?_ | refine br_ef (by assumption) ?_); conv => whnf)
      | ((with_reducible first | refine br_dec (fun h => ?_) (fun h => ?_) | refine br_ndec (fun h => ?_) (fun h => ?_) | refine br_ne (fun h => ?_) (fun h => ?_) | refine br_eq (fun h => ?_) (fun h => ?_)) <;> first | (exfalso; omega) | conv => whnf)
      | (refine br_intro (fun h => ?_) (fun h => ?_) <;> conv => whnf)
      | ((first | refine need_in (by first | exact trivial | assumption | exact ⟨rfl, Nat.le_refl _⟩ | exact ⟨rfl, rfl⟩ | (simp only [inR]; omega) | omega | (simp only [roomP, true_and, and_true, List.length_take, List.length_drop, List.length_append, List.length_cons, List.length_nil, List.length_set, List.length_replicate]; omega) | (refine ⟨by first | exact trivial | rfl, by first | exact Nat.le_refl _ | omega | (simp; omega), ?_⟩; change roomP _ _ 1; simp only [roomP]; omega) | (change roomP _ _ 1; simp only [roomP]; omega) | (simp; omega) | (simp [inR]; omega) | (simp [inR]; done) | decide | (simp; done)) ?_ | refine idx_nat (by omega) (fun x hx => ?_) | refine frz_auto ?_ | refine draw_plain ?_ | refine idx_intro (by first | omega | (simp; omega) | (simp; done)) (by first | omega | (simp; omega) | (simp; done)) (fun x hx => ?_)); conv => whnf)
    generalize hL : partsB b rs = L
    have hAll : allE b rs = L.flatten := by unfold allE; rw [hL]
    rw [hAll] at hp2 ⊢
    have hLl : L.length ≤ 100001 := by rw [← hL]; simp [partsB]; omega
    refine loop_inv [.lst 4 pairT] [4, 5, 6] (fun vs h => ∃ (i g : Nat) (met : List ByteArray) (out : List pairT.El), vs = [.lst pairT out, .own 3 g met.length, .int .i64 (i : Int)] ∧ h = [.cells 25 [.lst entT b, .lst runT rs], .arr 73 pairT [] false 0, .dead, .arr 9 .str met false g] ∧ i ≤ L.length ∧ mapF (L.take i).flatten = (met, out)) (fun vs _ => match vs with | [_, _, .int _ k] => L.length - k.toNat | _ => 0) ?_
    conv => whnf
    refine need_in ⟨rfl, by simp⟩ ?_
    conv => whnf
    refine ⟨⟨0, 0, [], [], rfl, rfl, Nat.zero_le _, rfl⟩, ?_⟩
    rintro vs h' - ⟨i, g, met, out, rfl, rfl, hi, hm⟩
    by_cases hil : i < L.length
    · obtain ⟨lp, hlp⟩ : ∃ lp, L[i]? = some lp := ⟨_, List.getElem?_eq_getElem hil⟩
      have hlb : lp.length ≤ 1000000000 := by
        have := flat_len hlp (Nat.le_refl _)
        rw [List.take_length, List.length_append] at this
        omega
      conv => whnf
      repeat' first
        | ((first | refine idx_kn (by assumption) ?_ | refine idx_ki (by assumption) (by omega) ?_ | refine br_true (by first | with_reducible exact rfl | assumption | decide) ?_ | refine br_false (by first | with_reducible exact rfl | assumption | decide) ?_ | with_reducible first | refine br_kt (by assumption) ?_ | refine br_kf (by assumption) ?_ | refine br_nt (by assumption) ?_ | refine br_nf (by assumption) ?_ | refine br_et (by assumption) ?_ | refine br_ef (by assumption) ?_); conv => whnf)
        | ((with_reducible first | refine br_dec (fun h => ?_) (fun h => ?_) | refine br_ndec (fun h => ?_) (fun h => ?_) | refine br_ne (fun h => ?_) (fun h => ?_) | refine br_eq (fun h => ?_) (fun h => ?_)) <;> first | (exfalso; omega) | conv => whnf)
        | (refine br_intro (fun h => ?_) (fun h => ?_) <;> conv => whnf)
        | ((first | refine need_in (by first | exact trivial | assumption | exact ⟨rfl, Nat.le_refl _⟩ | exact ⟨rfl, rfl⟩ | (simp only [inR]; omega) | omega | (simp only [roomP, true_and, and_true, List.length_take, List.length_drop, List.length_append, List.length_cons, List.length_nil, List.length_set, List.length_replicate]; omega) | (refine ⟨by first | exact trivial | rfl, by first | exact Nat.le_refl _ | omega | (simp; omega), ?_⟩; change roomP _ _ 1; simp only [roomP]; omega) | (change roomP _ _ 1; simp only [roomP]; omega) | (simp; omega) | (simp [inR]; omega) | (simp [inR]; done) | decide | (simp; done)) ?_ | refine idx_nat (by omega) (fun x hx => ?_) | refine frz_auto ?_ | refine draw_plain ?_ | refine idx_intro (by first | omega | (simp; omega) | (simp; done)) (by first | omega | (simp; omega) | (simp; done)) (fun x hx => ?_)); conv => whnf)
      refine loop_inv [] [4, 5, 7] (fun vs h => ∃ (k g : Nat) (met : List ByteArray) (out : List pairT.El), vs = [.lst pairT out, .own 3 g met.length, .int .i64 (k : Int)] ∧ h = [.cells 25 [.lst entT b, .lst runT rs], .arr 73 pairT [] false 0, .dead, .arr 9 .str met false g] ∧ k ≤ lp.length ∧ mapF ((L.take i).flatten ++ lp.take k) = (met, out)) (fun vs _ => match vs with | [_, _, .int _ k] => lp.length - k.toNat | _ => 0) ?_
      conv => whnf
      refine ⟨⟨0, g, met, out, rfl, rfl, Nat.zero_le _, by rw [List.take_zero, List.append_nil]; exact hm⟩, ?_⟩
      clear hm
      rintro vs h' - ⟨k, g, met, out, rfl, rfl, hk, hm⟩
      have hfl := flat_len hlp hk
      have hml := (mapF_len ((L.take i).flatten ++ lp.take k)).1
      have hol := (mapF_len ((L.take i).flatten ++ lp.take k)).2
      rw [hm] at hml hol
      have hml : met.length ≤ 1000000000 := by simp only at hml; omega
      have hol : out.length ≤ 1000000000 := by simp only at hol; omega
      by_cases hkl : k < lp.length
      · obtain ⟨x, hx⟩ : ∃ x, lp[k]? = some x := ⟨_, List.getElem?_eq_getElem hkl⟩
        have hnx : mapF ((L.take i).flatten ++ lp.take (k + 1)) = mapStep (met, out) x := by rw [take_snoc1 hx, ← List.append_assoc, mapF_snoc, hm]
        conv => whnf
        repeat' first
          | ((first | refine idx_kn (by assumption) ?_ | refine idx_ki (by assumption) (by omega) ?_ | refine br_true (by first | with_reducible exact rfl | assumption | decide) ?_ | refine br_false (by first | with_reducible exact rfl | assumption | decide) ?_ | with_reducible first | refine br_kt (by assumption) ?_ | refine br_kf (by assumption) ?_ | refine br_nt (by assumption) ?_ | refine br_nf (by assumption) ?_ | refine br_et (by assumption) ?_ | refine br_ef (by assumption) ?_); conv => whnf)
          | ((with_reducible first | refine br_dec (fun h => ?_) (fun h => ?_) | refine br_ndec (fun h => ?_) (fun h => ?_) | refine br_ne (fun h => ?_) (fun h => ?_) | refine br_eq (fun h => ?_) (fun h => ?_)) <;> first | (exfalso; omega) | conv => whnf)
          | (refine br_intro (fun h => ?_) (fun h => ?_) <;> conv => whnf)
          | ((first | refine need_in (by first | exact trivial | assumption | exact ⟨rfl, Nat.le_refl _⟩ | exact ⟨rfl, rfl⟩ | (simp only [inR]; omega) | omega | (simp only [roomP, true_and, and_true, List.length_take, List.length_drop, List.length_append, List.length_cons, List.length_nil, List.length_set, List.length_replicate]; omega) | (refine ⟨by first | exact trivial | rfl, by first | exact Nat.le_refl _ | omega | (simp; omega), ?_⟩; change roomP _ _ 1; simp only [roomP]; omega) | (change roomP _ _ 1; simp only [roomP]; omega) | (simp; omega) | (simp [inR]; omega) | (simp [inR]; done) | decide | (simp; done)) ?_ | refine idx_nat (by omega) (fun x hx => ?_) | refine frz_auto ?_ | refine draw_plain ?_ | refine idx_intro (by first | omega | (simp; omega) | (simp; done)) (by first | omega | (simp; omega) | (simp; done)) (fun x hx => ?_)); conv => whnf)
        refine loop_inv [] [9, 10] (fun vs h => ∃ (n : Nat), vs = [.bool (metB (met.take n) x.1), .int .i64 (n : Int)] ∧ h = [.cells 25 [.lst entT b, .lst runT rs], .arr 73 pairT [] false 0, .dead, .arr 9 .str met false g, .cells 29 [.str x.1, .str x.2.1, .bool x.2.2.1, .int .i64 x.2.2.2.1]] ∧ n ≤ met.length) (fun vs _ => match vs with | [_, .int _ k] => met.length - k.toNat | _ => 0) ?_
        conv => whnf
        refine ⟨⟨0, rfl, rfl, Nat.zero_le _⟩, ?_⟩
        rintro vs h' - ⟨n, rfl, rfl, hn⟩
        have hend : ¬ n < met.length → metB (met.take n) x.1 = metB met x.1 := fun h => by rw [List.take_of_length_le (by omega)]
        conv => whnf
        repeat' first
          | ((first | refine idx_kn (by assumption) ?_ | refine idx_ki (by assumption) (by omega) ?_ | refine br_true (by first | with_reducible exact rfl | assumption | decide) ?_ | refine br_false (by first | with_reducible exact rfl | assumption | decide) ?_ | with_reducible first | refine br_kt (by assumption) ?_ | refine br_kf (by assumption) ?_ | refine br_nt (by assumption) ?_ | refine br_nf (by assumption) ?_ | refine br_et (by assumption) ?_ | refine br_ef (by assumption) ?_); conv => whnf)
          | ((with_reducible first | refine br_dec (fun h => ?_) (fun h => ?_) | refine br_ndec (fun h => ?_) (fun h => ?_) | refine br_ne (fun h => ?_) (fun h => ?_) | refine br_eq (fun h => ?_) (fun h => ?_)) <;> first | (exfalso; omega) | conv => whnf)
          | (refine br_intro (fun h => ?_) (fun h => ?_) <;> conv => whnf)
          | ((first | refine need_in (by first | exact trivial | assumption | exact ⟨rfl, Nat.le_refl _⟩ | exact ⟨rfl, rfl⟩ | (simp only [inR]; omega) | omega | (simp only [roomP, true_and, and_true, List.length_take, List.length_drop, List.length_append, List.length_cons, List.length_nil, List.length_set, List.length_replicate]; omega) | (refine ⟨by first | exact trivial | rfl, by first | exact Nat.le_refl _ | omega | (simp; omega), ?_⟩; change roomP _ _ 1; simp only [roomP]; omega) | (change roomP _ _ 1; simp only [roomP]; omega) | (simp; omega) | (simp [inR]; omega) | (simp [inR]; done) | decide | (simp; done)) ?_ | refine idx_nat (by omega) (fun x hx => ?_) | refine frz_auto ?_ | refine draw_plain ?_ | refine idx_intro (by first | omega | (simp; omega) | (simp; done)) (by first | omega | (simp; omega) | (simp; done)) (fun x hx => ?_)); conv => whnf)
        · rename_i hs
          obtain ⟨z, hz⟩ : ∃ z, met[n]? = some z := ⟨_, List.getElem?_eq_getElem (by omega)⟩
          refine back_intro (by conv => whnf) rfl ⟨n + 1, mb_eq ?_, rfl, by omega⟩ ?_
          · rw [metB_take hz, h]; rfl
          · show met.length - ((n : Int) + 1).toNat < met.length - (n : Int).toNat
            omega
        · have hz : met[n]? = some x := hx
          refine back_intro (by conv => whnf) rfl ⟨n + 1, mb_eq ?_, rfl, by omega⟩ ?_
          · rw [metB_take hz, h]; rfl
          · show met.length - ((n : Int) + 1).toNat < met.length - (n : Int).toNat
            omega
        · rw [hend (by omega)] at h
          have hs : mapStep (met, out) x = (met, out) := by unfold mapStep; rw [if_pos h]
          rw [hs] at hnx
          refine back_intro (by conv => whnf) rfl ⟨k + 1, g, met, out, rfl, rfl, by omega, hnx⟩ ?_
          show lp.length - ((k : Int) + 1).toNat < lp.length - (k : Int).toNat
          omega
        · rename_i hs
          rw [hend (by omega)] at hs
          have hd : x.2.2.1 = false := by simpa using h
          have hs : mapStep (met, out) x = (met ++ [x.1], intoP out (mkP x.1 x.2.1)) := by unfold mapStep; rw [if_neg (by simp [hs]), if_neg (by simp [hd])]
          rw [hs] at hnx
          refine back_intro (by conv => whnf) rfl ⟨k + 1, g + 1, met ++ [x.1], intoP out (mkP x.1 x.2.1), own_m ?_, heap_m ?_, by omega, hnx⟩ ?_
          · rw [List.length_append]; rfl
          · simp only [cast_self, List.take_length]; rfl
          · show lp.length - ((k : Int) + 1).toNat < lp.length - (k : Int).toNat
            omega
        · rename_i hs
          rw [hend (by omega)] at hs
          have hd : x.2.2.1 = true := by simpa using h
          have hs : mapStep (met, out) x = (met ++ [x.1], out) := by unfold mapStep; rw [if_neg (by simp [hs]), if_pos hd]
          rw [hs] at hnx
          refine back_intro (by conv => whnf) rfl ⟨k + 1, g + 1, met ++ [x.1], out, own_m ?_, heap_m ?_, by omega, hnx⟩ ?_
          · rw [List.length_append]; rfl
          · simp only [cast_self, List.take_length]; rfl
          · show lp.length - ((k : Int) + 1).toNat < lp.length - (k : Int).toNat
            omega
      · conv => whnf
        repeat' first
          | ((first | refine idx_kn (by assumption) ?_ | refine idx_ki (by assumption) (by omega) ?_ | refine br_true (by first | with_reducible exact rfl | assumption | decide) ?_ | refine br_false (by first | with_reducible exact rfl | assumption | decide) ?_ | with_reducible first | refine br_kt (by assumption) ?_ | refine br_kf (by assumption) ?_ | refine br_nt (by assumption) ?_ | refine br_nf (by assumption) ?_ | refine br_et (by assumption) ?_ | refine br_ef (by assumption) ?_); conv => whnf)
          | ((with_reducible first | refine br_dec (fun h => ?_) (fun h => ?_) | refine br_ndec (fun h => ?_) (fun h => ?_) | refine br_ne (fun h => ?_) (fun h => ?_) | refine br_eq (fun h => ?_) (fun h => ?_)) <;> first | (exfalso; omega) | conv => whnf)
          | (refine br_intro (fun h => ?_) (fun h => ?_) <;> conv => whnf)
          | ((first | refine need_in (by first | exact trivial | assumption | exact ⟨rfl, Nat.le_refl _⟩ | exact ⟨rfl, rfl⟩ | (simp only [inR]; omega) | omega | (simp only [roomP, true_and, and_true, List.length_take, List.length_drop, List.length_append, List.length_cons, List.length_nil, List.length_set, List.length_replicate]; omega) | (refine ⟨by first | exact trivial | rfl, by first | exact Nat.le_refl _ | omega | (simp; omega), ?_⟩; change roomP _ _ 1; simp only [roomP]; omega) | (change roomP _ _ 1; simp only [roomP]; omega) | (simp; omega) | (simp [inR]; omega) | (simp [inR]; done) | decide | (simp; done)) ?_ | refine idx_nat (by omega) (fun x hx => ?_) | refine frz_auto ?_ | refine draw_plain ?_ | refine idx_intro (by first | omega | (simp; omega) | (simp; done)) (by first | omega | (simp; omega) | (simp; done)) (fun x hx => ?_)); conv => whnf)
        refine back_intro (by conv => whnf) rfl ⟨i + 1, g, met, out, rfl, rfl, by omega, ?_⟩ ?_
        · rw [List.take_of_length_le (i := k) (l := lp) (by omega)] at hm
          rw [flat_all hlp]
          exact hm
        · show L.length - ((i : Int) + 1).toNat < L.length - (i : Int).toNat
          omega
    · conv => whnf
      repeat' first
        | ((first | refine idx_kn (by assumption) ?_ | refine idx_ki (by assumption) (by omega) ?_ | refine br_true (by first | with_reducible exact rfl | assumption | decide) ?_ | refine br_false (by first | with_reducible exact rfl | assumption | decide) ?_ | with_reducible first | refine br_kt (by assumption) ?_ | refine br_kf (by assumption) ?_ | refine br_nt (by assumption) ?_ | refine br_nf (by assumption) ?_ | refine br_et (by assumption) ?_ | refine br_ef (by assumption) ?_); conv => whnf)
        | ((with_reducible first | refine br_dec (fun h => ?_) (fun h => ?_) | refine br_ndec (fun h => ?_) (fun h => ?_) | refine br_ne (fun h => ?_) (fun h => ?_) | refine br_eq (fun h => ?_) (fun h => ?_)) <;> first | (exfalso; omega) | conv => whnf)
        | (refine br_intro (fun h => ?_) (fun h => ?_) <;> conv => whnf)
        | ((first | refine need_in (by first | exact trivial | assumption | exact ⟨rfl, Nat.le_refl _⟩ | exact ⟨rfl, rfl⟩ | (simp only [inR]; omega) | omega | (simp only [roomP, true_and, and_true, List.length_take, List.length_drop, List.length_append, List.length_cons, List.length_nil, List.length_set, List.length_replicate]; omega) | (refine ⟨by first | exact trivial | rfl, by first | exact Nat.le_refl _ | omega | (simp; omega), ?_⟩; change roomP _ _ 1; simp only [roomP]; omega) | (change roomP _ _ 1; simp only [roomP]; omega) | (simp; omega) | (simp [inR]; omega) | (simp [inR]; done) | decide | (simp; done)) ?_ | refine idx_nat (by omega) (fun x hx => ?_) | refine frz_auto ?_ | refine draw_plain ?_ | refine idx_intro (by first | omega | (simp; omega) | (simp; done)) (by first | omega | (simp; omega) | (simp; done)) (fun x hx => ?_)); conv => whnf)
      rw [List.take_of_length_le (by omega)] at hm
      unfold mapL
      rw [hm]
  · cases h
end Go.Proofs.Ytekkeajcmibbaaa
