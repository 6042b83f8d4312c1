/-
  The law of what the lookups have to do with each other.
-/
import Derived.Test.YtekkeajcmibbaaaLt
namespace Go.Proofs.Ytekkeajcmibbaaa
open Av Bk

set_option maxRecDepth 100000 in
theorem fnOk_lAg : FnOk Try.prog 10 Try.f10 := ⟨by rfl, by kernel_rfl, by
  show okCode _ _ = true ∧ drawsOk _ = true
  exact ⟨by kernel_rfl, by kernel_rfl⟩⟩
noncomputable def lAg_C : Cx := ⟨tb, [], [(12, spAwake), (11, spFar), (17, spPart), (15, spGet), (34, spNr true false), (36, spNr false true), (38, spNr false false), (40, spNr true true)]⟩
theorem lAg_D : SpecsOk Try.prog lAg_C.specs := .cons awake_ok (.cons far_ok (.cons lkPart_ok (.cons lkGet_ok (.cons lkFloor_ok (.cons lkCeiling_ok (.cons lkBefore_ok (.cons lkAfter_ok .nil)))))))
theorem lAg_F : FnsOk Try.prog lAg_C.fns := FnsOk.nil
abbrev lAg_N : Nat := 0
abbrev lAg_T : List Ty := [viewT, .str]
abbrev lAg_FN := fnOk_lAg
abbrev qV (k : ByteArray) (p : pairT.El) : Bool := sEq p.1 k
abbrev qC (k : ByteArray) (p : pairT.El) : Bool := !sLt p.1 k
abbrev qA (k : ByteArray) (p : pairT.El) : Bool := sLt k p.1
def hpAg (b : List entT.El) (rs : List runT.El) (V F C B A : Option pairT.El) : Hp := [.cells 25 [.lst entT b, .lst runT rs], .cells 73 [.str (pO F).1, .str (pO F).2.1], .cells 73 [.str (pO C).1, .str (pO C).2.1], .cells 73 [.str (pO B).1, .str (pO B).2.1], .cells 73 [.str (pO A).1, .str (pO A).2.1], .cells 76 [.int .i64 (eO V), .int .i64 (eO F), .int .i64 (eO C), .int .i64 (eO B), .int .i64 (eO A)]]
theorem asc_prev {m : List pairT.El} (ha : ascP m) {i : Nat} (h0 : 0 < i) {x y : pairT.El} (hx : m[i]? = some x) (hy : m[((i : Int) - 1).toNat]? = some y) : sLt y.1 x.1 = true := by
  have h1 := (List.getElem?_eq_some_iff.1 hx)
  have h2 := (List.getElem?_eq_some_iff.1 hy)
  have := List.pairwise_iff_getElem.1 ha _ _ h2.1 h1.1 (by omega)
  rw [h1.2, h2.2] at this
  exact this
theorem drop_prev {m : List pairT.El} {n : Nat} {x : pairT.El} (hx : m[n]? = some x) (q : pairT.El → Bool) : (m.drop n).find? q = if q x = true then some x else (m.drop (n + 1)).find? q := by
  have h1 := (List.getElem?_eq_some_iff.1 hx)
  rw [List.drop_eq_getElem_cons h1.1, h1.2, List.find?_cons]
  cases q x <;> rfl
theorem ag_vs {s s' : ByteArray} {i i' : Int} (h : s = s') (h2 : i = i') : [AV.str s, .int .i64 i] = [AV.str s', .int .i64 i'] := by rw [h, h2]
set_option maxRecDepth 100000 in
set_option maxHeartbeats 8000000 in
theorem lAg' (b : List entT.El) (rs : List runT.El) (k : ByteArray) : bodyA lAg_C (callN lAg_C lAg_N) Try.f10 [.agg [.lst entT b, .lst runT rs], .str k] [] (fun v _ => v = .bool true) := by
  by_cases h32 : 32 < (k.size : Int)
  · conv => whnf
    repeat' first
      | (refine idx_kn (by assumption) ?_; conv => whnf)
      | (refine idx_ki (by assumption) (by omega) ?_; conv => whnf)
      | (refine br_true (by first | with_reducible exact rfl | assumption | decide) ?_; conv => whnf)
      | (refine br_false (by first | with_reducible exact rfl | assumption | decide) ?_; conv => whnf)
      | ((with_reducible refine br_kt (by assumption) ?_); conv => whnf)
      | ((with_reducible refine br_kf (by assumption) ?_); conv => whnf)
      | ((with_reducible refine br_nt (by assumption) ?_); conv => whnf)
      | ((with_reducible refine br_nf (by assumption) ?_); conv => whnf)
      | ((with_reducible refine br_et (by assumption) ?_); conv => whnf)
      | ((with_reducible refine br_ef (by assumption) ?_); conv => whnf)
      | ((with_reducible refine br_dec (fun h => ?_) (fun h => ?_)) <;> first | (exfalso; omega) | conv => whnf)
      | ((with_reducible refine br_ndec (fun h => ?_) (fun h => ?_)) <;> first | (exfalso; omega) | conv => whnf)
      | ((with_reducible refine br_ne (fun h => ?_) (fun h => ?_)) <;> first | (exfalso; omega) | conv => whnf)
      | ((with_reducible refine br_eq (fun h => ?_) (fun h => ?_)) <;> first | (exfalso; omega) | conv => whnf)
      | (refine br_intro (fun h => ?_) (fun h => ?_) <;> conv => whnf)
      | (refine need_in (by first | exact trivial | assumption | exact ⟨rfl, Nat.le_refl _⟩ | exact ⟨rfl, rfl⟩ | (simp only [inR]; omega) | omega | (simp only [roomP, true_and, and_true, List.length_take, List.length_drop, List.length_append, List.length_cons, List.length_nil, List.length_set, List.length_replicate]; omega) | (refine ⟨by first | exact trivial | rfl, by first | exact Nat.le_refl _ | omega | (simp; omega), ?_⟩; change roomP _ _ 1; simp only [roomP]; omega) | (change roomP _ _ 1; simp only [roomP]; omega) | (simp; omega) | (simp [inR]; omega) | (simp [inR]; done) | decide | (simp; done)) ?_; conv => whnf)
      | (refine idx_nat (by omega) (fun x hx => ?_); conv => whnf)
      | (refine frz_auto ?_; conv => whnf)
      | (refine draw_plain ?_; conv => whnf)
      | (refine idx_intro (by omega) (by omega) (fun x hx => ?_); conv => whnf)
      | (refine idx_intro (by first | omega | (simp; omega) | (simp; done)) (by first | omega | (simp; omega) | (simp; done)) (fun x hx => ?_); conv => whnf)
      | fail
  · have hke : keyE k = 0 := by simp [keyE, h32]
    by_cases hv : (vcL b rs).2 = 0
    · have e1 := part_all hv
      have hask : askE b rs k = 0 := by unfold askE; rw [if_neg (by simp [hv])]; exact hke
      have eG := getR_last hask
      have eF := nearR_o (w := true) (bh := false) hask
      have eC := nearR_o (w := false) (bh := true) hask
      have eB := nearR_o (w := false) (bh := false) hask
      have eA := nearR_o (w := true) (bh := true) hask
      have ha := mapL_asc (allE b rs)
      rw [near_last ha] at eF eB
      rw [near_find] at eC eA
      have hal := (all_len (vcL_zero hv)).2
      have hml := mapL_len (allE b rs)
      have f1 : (partR b rs ⟨#[]⟩ ⟨#[]⟩ false).2 = 0 := by rw [e1]
      have f2 : mapL (allE b rs) = (partR b rs ⟨#[]⟩ ⟨#[]⟩ false).1 := by rw [e1]
      rw [f2] at eG eF eC eB eA hml ha
      conv => whnf
      repeat' first
        | (refine idx_kn (by assumption) ?_; conv => whnf)
        | (refine idx_ki (by assumption) (by omega) ?_; conv => whnf)
        | (refine br_true (by first | with_reducible exact rfl | assumption | decide) ?_; conv => whnf)
        | (refine br_false (by first | with_reducible exact rfl | assumption | decide) ?_; conv => whnf)
        | ((with_reducible refine br_kt (by assumption) ?_); conv => whnf)
        | ((with_reducible refine br_kf (by assumption) ?_); conv => whnf)
        | ((with_reducible refine br_nt (by assumption) ?_); conv => whnf)
        | ((with_reducible refine br_nf (by assumption) ?_); conv => whnf)
        | ((with_reducible refine br_et (by assumption) ?_); conv => whnf)
        | ((with_reducible refine br_ef (by assumption) ?_); conv => whnf)
        | ((with_reducible refine br_dec (fun h => ?_) (fun h => ?_)) <;> first | (exfalso; omega) | conv => whnf)
        | ((with_reducible refine br_ndec (fun h => ?_) (fun h => ?_)) <;> first | (exfalso; omega) | conv => whnf)
        | ((with_reducible refine br_ne (fun h => ?_) (fun h => ?_)) <;> first | (exfalso; omega) | conv => whnf)
        | ((with_reducible refine br_eq (fun h => ?_) (fun h => ?_)) <;> first | (exfalso; omega) | conv => whnf)
        | (refine br_intro (fun h => ?_) (fun h => ?_) <;> conv => whnf)
        | (refine need_in (by first | exact trivial | assumption | exact ⟨rfl, Nat.le_refl _⟩ | exact ⟨rfl, rfl⟩ | (simp only [inR]; omega) | omega | (simp only [roomP, true_and, and_true, List.length_take, List.length_drop, List.length_append, List.length_cons, List.length_nil, List.length_set, List.length_replicate]; omega) | (refine ⟨by first | exact trivial | rfl, by first | exact Nat.le_refl _ | omega | (simp; omega), ?_⟩; change roomP _ _ 1; simp only [roomP]; omega) | (change roomP _ _ 1; simp only [roomP]; omega) | (simp; omega) | (simp [inR]; omega) | (simp [inR]; done) | decide | (simp; done)) ?_; conv => whnf)
        | (refine idx_nat (by omega) (fun x hx => ?_); conv => whnf)
        | (refine frz_auto ?_; conv => whnf)
        | (refine draw_plain ?_; conv => whnf)
        | (refine idx_intro (by omega) (by omega) (fun x hx => ?_); conv => whnf)
        | (refine idx_intro (by first | omega | (simp; omega) | (simp; done)) (by first | omega | (simp; omega) | (simp; done)) (fun x hx => ?_); conv => whnf)
        | fail
      generalize (partR b rs ⟨#[]⟩ ⟨#[]⟩ false).1 = m at eG eF eC eB eA hml ha ⊢
      refine loop_inv [] [14, 15] (fun vs h => ∃ i : Nat, vs = [.str (pO (lastQ (qV k) (m.take i))).2.1, .int .i64 (i : Int)] ∧ h = hpAg b rs (lastQ (qV k) (m.take i)) (lastQ (plcW true k) (m.take i)) none (lastQ (plcW false k) (m.take i)) none ∧ i ≤ m.length) (fun vs _ => match vs with | [_, .int _ k] => m.length - k.toNat | _ => 0) ?_
      refine ⟨⟨0, rfl, rfl, by omega⟩, ?_⟩
      rintro vs h' - ⟨i, rfl, rfl, hi⟩
      by_cases hil : i < m.length
      · obtain ⟨x, hx⟩ : ∃ x, m[i]? = some x := ⟨_, List.getElem?_eq_getElem hil⟩
        have t1 := lastQ_take (q := qV k) hx
        have t2 := lastQ_take (q := plcW true k) hx
        have t3 := lastQ_take (q := plcW false k) hx
        by_cases h0 : 0 < i
        · obtain ⟨y, hy⟩ : ∃ y, m[((i : Int) - 1).toNat]? = some y := ⟨_, List.getElem?_eq_getElem (by omega)⟩
          have hyx : (!sLt y.1 x.1) = false := by rw [asc_prev ha h0 hx hy]; rfl
          conv => whnf
          repeat' first
            | (refine idx_kn (by assumption) ?_; conv => whnf)
            | (refine idx_ki (by assumption) (by omega) ?_; conv => whnf)
            | (refine br_true (by first | with_reducible exact rfl | assumption | decide) ?_; conv => whnf)
            | (refine br_false (by first | with_reducible exact rfl | assumption | decide) ?_; conv => whnf)
            | ((with_reducible refine br_kt (by assumption) ?_); conv => whnf)
            | ((with_reducible refine br_kf (by assumption) ?_); conv => whnf)
            | ((with_reducible refine br_nt (by assumption) ?_); conv => whnf)
            | ((with_reducible refine br_nf (by assumption) ?_); conv => whnf)
            | ((with_reducible refine br_et (by assumption) ?_); conv => whnf)
            | ((with_reducible refine br_ef (by assumption) ?_); conv => whnf)
            | ((with_reducible refine br_dec (fun h => ?_) (fun h => ?_)) <;> first | (exfalso; omega) | conv => whnf)
            | ((with_reducible refine br_ndec (fun h => ?_) (fun h => ?_)) <;> first | (exfalso; omega) | conv => whnf)
            | ((with_reducible refine br_ne (fun h => ?_) (fun h => ?_)) <;> first | (exfalso; omega) | conv => whnf)
            | ((with_reducible refine br_eq (fun h => ?_) (fun h => ?_)) <;> first | (exfalso; omega) | conv => whnf)
            | (refine br_intro (fun h => ?_) (fun h => ?_) <;> conv => whnf)
            | (refine need_in (by first | exact trivial | assumption | exact ⟨rfl, Nat.le_refl _⟩ | exact ⟨rfl, rfl⟩ | (simp only [inR]; omega) | omega | (simp only [roomP, true_and, and_true, List.length_take, List.length_drop, List.length_append, List.length_cons, List.length_nil, List.length_set, List.length_replicate]; omega) | (refine ⟨by first | exact trivial | rfl, by first | exact Nat.le_refl _ | omega | (simp; omega), ?_⟩; change roomP _ _ 1; simp only [roomP]; omega) | (change roomP _ _ 1; simp only [roomP]; omega) | (simp; omega) | (simp [inR]; omega) | (simp [inR]; done) | decide | (simp; done)) ?_; conv => whnf)
            | (refine idx_nat (by omega) (fun x hx => ?_); conv => whnf)
            | (refine frz_auto ?_; conv => whnf)
            | (refine draw_plain ?_; conv => whnf)
            | (refine idx_intro (by omega) (by omega) (fun x hx => ?_); conv => whnf)
            | (refine idx_intro (by first | omega | (simp; omega) | (simp; done)) (by first | omega | (simp; omega) | (simp; done)) (fun x hx => ?_); conv => whnf)
            | fail
          all_goals (
            refine back_intro (by conv => whnf) rfl ⟨i + 1, ag_vs ?_ rfl, ?_, by omega⟩ ?_
            · rw [t1]; simp only [qV, *]; rfl
            · rw [t1, t2, t3]; simp only [qV, plcW, *]; rfl
            · show m.length - ((i : Int) + 1).toNat < m.length - (i : Int).toNat
              omega)
        · conv => whnf
          repeat' first
            | (refine idx_kn (by assumption) ?_; conv => whnf)
            | (refine idx_ki (by assumption) (by omega) ?_; conv => whnf)
            | (refine br_true (by first | with_reducible exact rfl | assumption | decide) ?_; conv => whnf)
            | (refine br_false (by first | with_reducible exact rfl | assumption | decide) ?_; conv => whnf)
            | ((with_reducible refine br_kt (by assumption) ?_); conv => whnf)
            | ((with_reducible refine br_kf (by assumption) ?_); conv => whnf)
            | ((with_reducible refine br_nt (by assumption) ?_); conv => whnf)
            | ((with_reducible refine br_nf (by assumption) ?_); conv => whnf)
            | ((with_reducible refine br_et (by assumption) ?_); conv => whnf)
            | ((with_reducible refine br_ef (by assumption) ?_); conv => whnf)
            | ((with_reducible refine br_dec (fun h => ?_) (fun h => ?_)) <;> first | (exfalso; omega) | conv => whnf)
            | ((with_reducible refine br_ndec (fun h => ?_) (fun h => ?_)) <;> first | (exfalso; omega) | conv => whnf)
            | ((with_reducible refine br_ne (fun h => ?_) (fun h => ?_)) <;> first | (exfalso; omega) | conv => whnf)
            | ((with_reducible refine br_eq (fun h => ?_) (fun h => ?_)) <;> first | (exfalso; omega) | conv => whnf)
            | (refine br_intro (fun h => ?_) (fun h => ?_) <;> conv => whnf)
            | (refine need_in (by first | exact trivial | assumption | exact ⟨rfl, Nat.le_refl _⟩ | exact ⟨rfl, rfl⟩ | (simp only [inR]; omega) | omega | (simp only [roomP, true_and, and_true, List.length_take, List.length_drop, List.length_append, List.length_cons, List.length_nil, List.length_set, List.length_replicate]; omega) | (refine ⟨by first | exact trivial | rfl, by first | exact Nat.le_refl _ | omega | (simp; omega), ?_⟩; change roomP _ _ 1; simp only [roomP]; omega) | (change roomP _ _ 1; simp only [roomP]; omega) | (simp; omega) | (simp [inR]; omega) | (simp [inR]; done) | decide | (simp; done)) ?_; conv => whnf)
            | (refine idx_nat (by omega) (fun x hx => ?_); conv => whnf)
            | (refine frz_auto ?_; conv => whnf)
            | (refine draw_plain ?_; conv => whnf)
            | (refine idx_intro (by omega) (by omega) (fun x hx => ?_); conv => whnf)
            | (refine idx_intro (by first | omega | (simp; omega) | (simp; done)) (by first | omega | (simp; omega) | (simp; done)) (fun x hx => ?_); conv => whnf)
            | fail
          all_goals (
            refine back_intro (by conv => whnf) rfl ⟨i + 1, ag_vs ?_ rfl, ?_, by omega⟩ ?_
            · rw [t1]; simp only [qV, *]; rfl
            · rw [t1, t2, t3]; simp only [qV, plcW, *]; rfl
            · show m.length - ((i : Int) + 1).toNat < m.length - (i : Int).toNat
              omega)
      · have hie : i = m.length := by omega
        subst hie
        rw [List.take_length]
        generalize lastQ (qV k) m = V at eG ⊢
        generalize lastQ (plcW true k) m = F at eF ⊢
        generalize lastQ (plcW false k) m = B at eB ⊢
        have gC : m.find? (fun p => !plcW false k p) = m.find? (qC k) := rfl
        have gA : m.find? (fun p => !plcW true k p) = m.find? (qA k) := congrArg (fun q => m.find? q) (funext fun p => by simp [plcW])
        rw [gC] at eC
        rw [gA] at eA
        conv => whnf
        repeat' first
          | (refine idx_kn (by assumption) ?_; conv => whnf)
          | (refine idx_ki (by assumption) (by omega) ?_; conv => whnf)
          | (refine br_true (by first | with_reducible exact rfl | assumption | decide) ?_; conv => whnf)
          | (refine br_false (by first | with_reducible exact rfl | assumption | decide) ?_; conv => whnf)
          | ((with_reducible refine br_kt (by assumption) ?_); conv => whnf)
          | ((with_reducible refine br_kf (by assumption) ?_); conv => whnf)
          | ((with_reducible refine br_nt (by assumption) ?_); conv => whnf)
          | ((with_reducible refine br_nf (by assumption) ?_); conv => whnf)
          | ((with_reducible refine br_et (by assumption) ?_); conv => whnf)
          | ((with_reducible refine br_ef (by assumption) ?_); conv => whnf)
          | ((with_reducible refine br_dec (fun h => ?_) (fun h => ?_)) <;> first | (exfalso; omega) | conv => whnf)
          | ((with_reducible refine br_ndec (fun h => ?_) (fun h => ?_)) <;> first | (exfalso; omega) | conv => whnf)
          | ((with_reducible refine br_ne (fun h => ?_) (fun h => ?_)) <;> first | (exfalso; omega) | conv => whnf)
          | ((with_reducible refine br_eq (fun h => ?_) (fun h => ?_)) <;> first | (exfalso; omega) | conv => whnf)
          | (refine br_intro (fun h => ?_) (fun h => ?_) <;> conv => whnf)
          | (refine need_in (by first | exact trivial | assumption | exact ⟨rfl, Nat.le_refl _⟩ | exact ⟨rfl, rfl⟩ | (simp only [inR]; omega) | omega | (simp only [roomP, true_and, and_true, List.length_take, List.length_drop, List.length_append, List.length_cons, List.length_nil, List.length_set, List.length_replicate]; omega) | (refine ⟨by first | exact trivial | rfl, by first | exact Nat.le_refl _ | omega | (simp; omega), ?_⟩; change roomP _ _ 1; simp only [roomP]; omega) | (change roomP _ _ 1; simp only [roomP]; omega) | (simp; omega) | (simp [inR]; omega) | (simp [inR]; done) | decide | (simp; done)) ?_; conv => whnf)
          | (refine idx_nat (by omega) (fun x hx => ?_); conv => whnf)
          | (refine frz_auto ?_; conv => whnf)
          | (refine draw_plain ?_; conv => whnf)
          | (refine idx_intro (by omega) (by omega) (fun x hx => ?_); conv => whnf)
          | (refine idx_intro (by first | omega | (simp; omega) | (simp; done)) (by first | omega | (simp; omega) | (simp; done)) (fun x hx => ?_); conv => whnf)
          | fail
        refine loop_inv [] [16] (fun vs h => ∃ n : Nat, vs = [.int .i64 ((n : Int) - 1)] ∧ h = hpAg b rs V F ((m.drop n).find? (qC k)) B ((m.drop n).find? (qA k)) ∧ n ≤ m.length) (fun vs _ => match vs with | [.int _ k] => (k + 1).toNat | _ => 0) ?_
        refine ⟨⟨m.length, rfl, ?_, Nat.le_refl _⟩, ?_⟩
        · rw [List.drop_length]
          rfl
        rintro vs h' - ⟨n, rfl, rfl, hn⟩
        by_cases hn0 : 0 < n
        · obtain ⟨j, rfl⟩ : ∃ j, n = j + 1 := ⟨n - 1, by omega⟩
          obtain ⟨x, hx0⟩ : ∃ x, m[j]? = some x := ⟨_, List.getElem?_eq_getElem (by omega)⟩
          have hx : m[(((j + 1 : Nat) : Int) - 1).toNat]? = some x := by rw [show (((j + 1 : Nat) : Int) - 1).toNat = j by omega]; exact hx0
          have t1 := drop_prev hx0 (qC k)
          have t2 := drop_prev hx0 (qA k)
          conv => whnf
          repeat' first
            | (refine idx_kn (by assumption) ?_; conv => whnf)
            | (refine idx_ki (by assumption) (by omega) ?_; conv => whnf)
            | (refine br_true (by first | with_reducible exact rfl | assumption | decide) ?_; conv => whnf)
            | (refine br_false (by first | with_reducible exact rfl | assumption | decide) ?_; conv => whnf)
            | ((with_reducible refine br_kt (by assumption) ?_); conv => whnf)
            | ((with_reducible refine br_kf (by assumption) ?_); conv => whnf)
            | ((with_reducible refine br_nt (by assumption) ?_); conv => whnf)
            | ((with_reducible refine br_nf (by assumption) ?_); conv => whnf)
            | ((with_reducible refine br_et (by assumption) ?_); conv => whnf)
            | ((with_reducible refine br_ef (by assumption) ?_); conv => whnf)
            | ((with_reducible refine br_dec (fun h => ?_) (fun h => ?_)) <;> first | (exfalso; omega) | conv => whnf)
            | ((with_reducible refine br_ndec (fun h => ?_) (fun h => ?_)) <;> first | (exfalso; omega) | conv => whnf)
            | ((with_reducible refine br_ne (fun h => ?_) (fun h => ?_)) <;> first | (exfalso; omega) | conv => whnf)
            | ((with_reducible refine br_eq (fun h => ?_) (fun h => ?_)) <;> first | (exfalso; omega) | conv => whnf)
            | (refine br_intro (fun h => ?_) (fun h => ?_) <;> conv => whnf)
            | (refine need_in (by first | exact trivial | assumption | exact ⟨rfl, Nat.le_refl _⟩ | exact ⟨rfl, rfl⟩ | (simp only [inR]; omega) | omega | (simp only [roomP, true_and, and_true, List.length_take, List.length_drop, List.length_append, List.length_cons, List.length_nil, List.length_set, List.length_replicate]; omega) | (refine ⟨by first | exact trivial | rfl, by first | exact Nat.le_refl _ | omega | (simp; omega), ?_⟩; change roomP _ _ 1; simp only [roomP]; omega) | (change roomP _ _ 1; simp only [roomP]; omega) | (simp; omega) | (simp [inR]; omega) | (simp [inR]; done) | decide | (simp; done)) ?_; conv => whnf)
            | (refine idx_nat (by omega) (fun x hx => ?_); conv => whnf)
            | (refine frz_auto ?_; conv => whnf)
            | (refine draw_plain ?_; conv => whnf)
            | (refine idx_intro (by omega) (by omega) (fun x hx => ?_); conv => whnf)
            | (refine idx_intro (by first | omega | (simp; omega) | (simp; done)) (by first | omega | (simp; omega) | (simp; done)) (fun x hx => ?_); conv => whnf)
            | fail
          all_goals (
            refine back_intro (by conv => whnf) rfl ⟨j, ?_, ?_, by omega⟩ ?_
            · exact congrArg (fun i : Int => [AV.int .i64 i]) (show ((j + 1 : Nat) : Int) - 1 - 1 = (j : Int) - 1 by omega)
            · rw [t1, t2]; simp only [qC, qA, *]; rfl
            · show (((j + 1 : Nat) : Int) - 1 - 1 + 1).toNat < (((j + 1 : Nat) : Int) - 1 + 1).toNat
              omega)
        · obtain rfl : n = 0 := by omega
          rw [List.drop_zero]
          generalize m.find? (qC k) = C at eC ⊢
          generalize m.find? (qA k) = A at eA ⊢
          have k1 : sEq (getR b rs k).1 (pO V).2.1 = true := by rw [eG]; exact sEq_refl _
          have k2 : (getR b rs k).2 = eO V := by rw [eG]
          have k3 : eqT pairT (nearR b rs k true false).1 (pO F) = true := by rw [eF]; exact eqP_refl _
          have k4 : (nearR b rs k true false).2 = eO F := by rw [eF]
          have k5 : eqT pairT (nearR b rs k false true).1 (pO C) = true := by rw [eC]; exact eqP_refl _
          have k6 : (nearR b rs k false true).2 = eO C := by rw [eC]
          have k7 : eqT pairT (nearR b rs k false false).1 (pO B) = true := by rw [eB]; exact eqP_refl _
          have k8 : (nearR b rs k false false).2 = eO B := by rw [eB]
          have k9 : eqT pairT (nearR b rs k true true).1 (pO A) = true := by rw [eA]; exact eqP_refl _
          have k10 : (nearR b rs k true true).2 = eO A := by rw [eA]
          conv => whnf
          repeat' first
            | (refine idx_kn (by assumption) ?_; conv => whnf)
            | (refine idx_ki (by assumption) (by omega) ?_; conv => whnf)
            | (refine br_true (by first | with_reducible exact rfl | assumption | decide) ?_; conv => whnf)
            | (refine br_false (by first | with_reducible exact rfl | assumption | decide) ?_; conv => whnf)
            | ((with_reducible refine br_kt (by assumption) ?_); conv => whnf)
            | ((with_reducible refine br_kf (by assumption) ?_); conv => whnf)
            | ((with_reducible refine br_nt (by assumption) ?_); conv => whnf)
            | ((with_reducible refine br_nf (by assumption) ?_); conv => whnf)
            | ((with_reducible refine br_et (by assumption) ?_); conv => whnf)
            | ((with_reducible refine br_ef (by assumption) ?_); conv => whnf)
            | ((with_reducible refine br_dec (fun h => ?_) (fun h => ?_)) <;> first | (exfalso; omega) | conv => whnf)
            | ((with_reducible refine br_ndec (fun h => ?_) (fun h => ?_)) <;> first | (exfalso; omega) | conv => whnf)
            | ((with_reducible refine br_ne (fun h => ?_) (fun h => ?_)) <;> first | (exfalso; omega) | conv => whnf)
            | ((with_reducible refine br_eq (fun h => ?_) (fun h => ?_)) <;> first | (exfalso; omega) | conv => whnf)
            | (refine br_intro (fun h => ?_) (fun h => ?_) <;> conv => whnf)
            | (refine need_in (by first | exact trivial | assumption | exact ⟨rfl, Nat.le_refl _⟩ | exact ⟨rfl, rfl⟩ | (simp only [inR]; omega) | omega | (simp only [roomP, true_and, and_true, List.length_take, List.length_drop, List.length_append, List.length_cons, List.length_nil, List.length_set, List.length_replicate]; omega) | (refine ⟨by first | exact trivial | rfl, by first | exact Nat.le_refl _ | omega | (simp; omega), ?_⟩; change roomP _ _ 1; simp only [roomP]; omega) | (change roomP _ _ 1; simp only [roomP]; omega) | (simp; omega) | (simp [inR]; omega) | (simp [inR]; done) | decide | (simp; done)) ?_; conv => whnf)
            | (refine idx_nat (by omega) (fun x hx => ?_); conv => whnf)
            | (refine frz_auto ?_; conv => whnf)
            | (refine draw_plain ?_; conv => whnf)
            | (refine idx_intro (by omega) (by omega) (fun x hx => ?_); conv => whnf)
            | (refine idx_intro (by first | omega | (simp; omega) | (simp; done)) (by first | omega | (simp; omega) | (simp; done)) (fun x hx => ?_); conv => whnf)
            | fail
          all_goals skip
    · have e1 := part_v (lo := ⟨#[]⟩) (hi := ⟨#[]⟩) (bd := false) hv
      have f1 : (partR b rs ⟨#[]⟩ ⟨#[]⟩ false).2 ≠ 0 := by rw [e1]; exact hv
      have f2 : (((partR b rs ⟨#[]⟩ ⟨#[]⟩ false).1.length : Int) == 0) = true := by rw [e1]; rfl
      conv => whnf
      repeat' first
        | (refine idx_kn (by assumption) ?_; conv => whnf)
        | (refine idx_ki (by assumption) (by omega) ?_; conv => whnf)
        | (refine br_true (by first | with_reducible exact rfl | assumption | decide) ?_; conv => whnf)
        | (refine br_false (by first | with_reducible exact rfl | assumption | decide) ?_; conv => whnf)
        | ((with_reducible refine br_kt (by assumption) ?_); conv => whnf)
        | ((with_reducible refine br_kf (by assumption) ?_); conv => whnf)
        | ((with_reducible refine br_nt (by assumption) ?_); conv => whnf)
        | ((with_reducible refine br_nf (by assumption) ?_); conv => whnf)
        | ((with_reducible refine br_et (by assumption) ?_); conv => whnf)
        | ((with_reducible refine br_ef (by assumption) ?_); conv => whnf)
        | ((with_reducible refine br_dec (fun h => ?_) (fun h => ?_)) <;> first | (exfalso; omega) | conv => whnf)
        | ((with_reducible refine br_ndec (fun h => ?_) (fun h => ?_)) <;> first | (exfalso; omega) | conv => whnf)
        | ((with_reducible refine br_ne (fun h => ?_) (fun h => ?_)) <;> first | (exfalso; omega) | conv => whnf)
        | ((with_reducible refine br_eq (fun h => ?_) (fun h => ?_)) <;> first | (exfalso; omega) | conv => whnf)
        | (refine br_intro (fun h => ?_) (fun h => ?_) <;> conv => whnf)
        | (refine need_in (by first | exact trivial | assumption | exact ⟨rfl, Nat.le_refl _⟩ | exact ⟨rfl, rfl⟩ | (simp only [inR]; omega) | omega | (simp only [roomP, true_and, and_true, List.length_take, List.length_drop, List.length_append, List.length_cons, List.length_nil, List.length_set, List.length_replicate]; omega) | (refine ⟨by first | exact trivial | rfl, by first | exact Nat.le_refl _ | omega | (simp; omega), ?_⟩; change roomP _ _ 1; simp only [roomP]; omega) | (change roomP _ _ 1; simp only [roomP]; omega) | (simp; omega) | (simp [inR]; omega) | (simp [inR]; done) | decide | (simp; done)) ?_; conv => whnf)
        | (refine idx_nat (by omega) (fun x hx => ?_); conv => whnf)
        | (refine frz_auto ?_; conv => whnf)
        | (refine draw_plain ?_; conv => whnf)
        | (refine idx_intro (by omega) (by omega) (fun x hx => ?_); conv => whnf)
        | (refine idx_intro (by first | omega | (simp; omega) | (simp; done)) (by first | omega | (simp; omega) | (simp; done)) (fun x hx => ?_); conv => whnf)
        | fail
theorem lAg : ∀ es : Ty.Els lAg_T, tyOks lAg_T es → bodyA lAg_C (callN lAg_C lAg_N) Try.f10 (avTs lAg_T es) [] (fun v _ => v = .bool true) := by
  rintro ⟨⟨b, rs, _⟩, k, _⟩ _
  exact lAg' b rs k
end Go.Proofs.Ytekkeajcmibbaaa
