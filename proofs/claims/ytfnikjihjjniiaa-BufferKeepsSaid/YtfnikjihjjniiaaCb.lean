/-
  The law of what a buffer keeps.
-/
import Derived.Test.YtfnikjihjjniiaaCa
namespace Go.Proofs.Ytfnikjihjjniiaa
open Av Bk

theorem sEq_comm (a b : ByteArray) : sEq a b = sEq b a := by
  unfold sEq
  exact Bool.beq_comm
/-- The last one of each key. -/
def lasts : List entT.El → List entT.El
  | [] => []
  | a :: A => if A.any (fun y => sEq y.1 a.1) = true then lasts A else a :: lasts A
theorem lasts_snoc (x : entT.El) : ∀ A : List entT.El, lasts (A ++ [x]) = (lasts A).filter (fun y => !sEq y.1 x.1) ++ [x]
  | [] => rfl
  | a :: A => by
    have ih := lasts_snoc x A
    have hany : (A ++ [x]).any (fun y => sEq y.1 a.1) = (A.any (fun y => sEq y.1 a.1) || sEq x.1 a.1) := by simp
    rw [List.cons_append, lasts, lasts, hany, ih]
    cases h1 : A.any (fun y => sEq y.1 a.1) with
    | true => simp
    | false =>
      cases h2 : sEq x.1 a.1 with
      | true =>
        have h3 : sEq a.1 x.1 = true := by rw [sEq_comm]; exact h2
        simp [h3]
      | false =>
        have h3 : sEq a.1 x.1 = false := by rw [sEq_comm]; exact h2
        simp [h3]
theorem lasts_asc : ∀ {b : List entT.El}, ascS b → lasts b = b
  | [], _ => rfl
  | a :: A, h => by
    have hn : A.any (fun y => sEq y.1 a.1) = false := by
      rw [List.any_eq_false]
      intro y hy
      obtain ⟨k, hk⟩ := List.mem_iff_getElem?.1 hy
      have := (sEq_lt (ascS_head h hk)).2.1
      rw [this]; decide
    rw [lasts, hn, if_neg (by decide), lasts_asc (ascS_tail h)]
theorem mem_lasts {a : entT.El} : ∀ {A : List entT.El}, a ∈ lasts A → a ∈ A
  | [], h => by simp [lasts] at h
  | b :: A, h => by
    rw [lasts] at h
    split at h
    · exact List.mem_cons_of_mem _ (mem_lasts h)
    · rcases List.mem_cons.1 h with rfl | h
      · exact List.mem_cons_self
      · exact List.mem_cons_of_mem _ (mem_lasts h)
theorem last_in {A : List entT.El} {i : Nat} {a : entT.El} (ha : A[i]? = some a) : lasts (A.drop i) = if (A.drop (i + 1)).any (fun y => sEq y.1 a.1) = true then lasts (A.drop (i + 1)) else a :: lasts (A.drop (i + 1)) := by
  rw [List.drop_eq_getElem_cons (List.getElem?_eq_some_iff.1 ha).1, (List.getElem?_eq_some_iff.1 ha).2, lasts]
theorem lasts_drop {a : entT.El} : ∀ {A : List entT.El} {i : Nat}, a ∈ lasts (A.drop i) → a ∈ lasts A
  | A, 0, h => h
  | [], i + 1, h => by simpa using h
  | b :: A, i + 1, h => by
    have := lasts_drop (A := A) (i := i) (by simpa using h)
    rw [lasts]
    split
    · exact this
    · exact List.mem_cons_of_mem _ this
theorem put1_perm {D : List entT.El} (ha : ascS D) (x : entT.El) : (D.filter (fun y => !sEq y.1 x.1) ++ [x]).Perm (put1 D x) := by
  have hother : ∀ (k : Nat) (y : entT.El), D[k]? = some y → k ≠ lb x.1 D ∨ foundK x.1 D = false → sEq y.1 x.1 = false := by
    intro k y hy hk
    cases he : sEq y.1 x.1 with
    | false => rfl
    | true =>
      exfalso
      obtain ⟨q1, q2⟩ := lb_eq ha hy (sEq_eq he)
      rcases hk with hk | hk
      · exact hk q1.symm
      · rw [q2] at hk; cases hk
  have hmid : ∀ (P Q : List entT.El), ((P ++ Q) ++ [x]).Perm (P ++ x :: Q) := fun P Q =>
    (List.perm_append_comm (l₁ := P ++ Q) (l₂ := [x])).trans (show (x :: (P ++ Q)).Perm (P ++ x :: Q) from List.perm_middle.symm)
  cases hf : foundK x.1 D with
  | false =>
    have hfil : D.filter (fun y => !sEq y.1 x.1) = D := by
      rw [List.filter_eq_self]
      intro y hy
      obtain ⟨k, hk⟩ := List.mem_iff_getElem?.1 hy
      rw [hother k y hk (.inr hf)]; rfl
    rw [hfil, put1, if_neg (by rw [hf]; decide)]
    have := hmid (D.take (lb x.1 D)) (D.drop (lb x.1 D))
    rwa [List.take_append_drop] at this
  | true =>
    obtain ⟨y, hy, hk⟩ := foundK_lt hf
    have hlt := (List.getElem?_eq_some_iff.1 hy).1
    rw [put1, if_pos hf, List.set_eq_take_append_cons_drop, if_pos hlt]
    have hD : D = D.take (lb x.1 D) ++ y :: D.drop (lb x.1 D + 1) := by
      conv => lhs; rw [← List.take_append_drop (lb x.1 D) D, List.drop_eq_getElem_cons hlt, (List.getElem?_eq_some_iff.1 hy).2]
    have hfil : D.filter (fun y => !sEq y.1 x.1) = D.take (lb x.1 D) ++ D.drop (lb x.1 D + 1) := by
      have h1 : (D.take (lb x.1 D)).filter (fun y => !sEq y.1 x.1) = D.take (lb x.1 D) := by
        rw [List.filter_eq_self]
        intro z hz
        obtain ⟨k, hk⟩ := List.mem_iff_getElem?.1 hz
        rw [List.getElem?_take] at hk
        split at hk
        · rename_i hkl
          rw [hother k z hk (.inl (by omega))]; rfl
        · cases hk
      have h2 : (D.drop (lb x.1 D + 1)).filter (fun y => !sEq y.1 x.1) = D.drop (lb x.1 D + 1) := by
        rw [List.filter_eq_self]
        intro z hz
        obtain ⟨k, hk⟩ := List.mem_iff_getElem?.1 hz
        rw [List.getElem?_drop] at hk
        rw [hother _ z hk (.inl (by omega))]; rfl
      have h3 : (!sEq y.1 x.1) = false := by rw [hk, sEq_refl]; rfl
      conv => lhs; rw [hD]
      rw [List.filter_append, List.filter_cons, h3, if_neg (by decide), h1, h2]
    rw [hfil]
    exact hmid _ _
theorem keep_step {A D : List entT.El} (h : (lasts A).Perm D) (ha : ascS D) (x : entT.El) : (lasts (A ++ [x])).Perm (put1 D x) := by
  rw [lasts_snoc]
  exact ((h.filter _).append_right [x]).trans (put1_perm ha x)
theorem get_in {m : Int} {D : List entT.El} {a : entT.El} (h : (chB m D).2 = 0) (ha : a ∈ D) : gtE m D a.1 = 0 ∧ gtX m D a.1 = a := by
  obtain ⟨_, _, _, a4, a5⟩ := chB_zero h
  obtain ⟨k, hk⟩ := List.mem_iff_getElem?.1 ha
  obtain ⟨q1, q2⟩ := lb_eq a4 hk rfl
  have e : gtE m D a.1 = 0 := by rw [gtE_good h (a5 a ha), if_pos q2]
  exact ⟨e, by rw [gtX, if_pos e, q1, hk]; rfl⟩
theorem own2 {id g n m : Nat} {a : AV} (h : n = m) : [AV.own id g n, a] = [AV.own id g m, a] := by rw [h]
theorem hp2 {T U : TypeId} {t : Ty} {g : Nat} {x y : Int} {l k : List entT.El} {p q : List t.El} (h : x = y) (h2 : l = k) (h3 : p = q) : [AObj.cells T [.int .i64 x, .lst entT l], .arr U t p false g] = [.cells T [.int .i64 y, .lst entT k], .arr U t q false g] := by rw [h, h2, h3]
theorem any_next {A : List entT.El} {a z : entT.El} {q k : Nat} (hz : A[k]? = some z) (hk : q + 1 ≤ k) : ((A.drop (q + 1)).take (k + 1 - (q + 1))).any (fun y => sEq y.1 a.1) = (((A.drop (q + 1)).take (k - (q + 1))).any (fun y => sEq y.1 a.1) || sEq z.1 a.1) := by
  have e : k + 1 - (q + 1) = (k - (q + 1)) + 1 := by omega
  have hz' : (A.drop (q + 1))[k - (q + 1)]? = some z := by
    rw [List.getElem?_drop, show q + 1 + (k - (q + 1)) = k by omega]
    exact hz
  rw [e, List.take_add_one, hz', List.any_append]
  simp
theorem fnOk_lKe : FnOk Try.prog 7 Try.f7 := ⟨by rfl, by kernel_rfl, by
  show okCode _ _ = true ∧ drawsOk _ = true
  exact ⟨by kernel_rfl, by kernel_rfl⟩⟩
noncomputable def lKe_C : Cx := ⟨tb, [], [(11, spShown), (10, spLong), (24, spChB), (17, spWr1), (26, spGet)]⟩
theorem lKe_D : SpecsOk Try.prog lKe_C.specs := .cons shown_ok (.cons lLong_ok (.cons bChk_ok (.cons bWr1_ok (.cons bGet_ok .nil))))
theorem lKe_F : FnsOk Try.prog lKe_C.fns := FnsOk.nil
abbrev lKe_N : Nat := 0
abbrev lKe_T : List Ty := [bufT, .sl entT]
abbrev lKe_FN := fnOk_lKe
set_option maxRecDepth 100000 in
set_option maxHeartbeats 8000000 in
theorem lKe' (m : Int) (b l : List entT.El) : bodyA lKe_C (callN lKe_C lKe_N) Try.f7 [.agg [.int .i64 m, .lst entT b], .lst entT l] [] (fun v _ => v = .bool true) := by
  by_cases h1 : longL l = true
  · conv => whnf
    repeat' first
      | (refine br_true (by first | with_reducible exact rfl | assumption | decide) ?_; conv => whnf)
      | (refine br_false (by first | with_reducible exact rfl | assumption | decide) ?_; conv => whnf)
      | ((with_reducible refine br_kt (by assumption) ?_); conv => whnf)
      | ((with_reducible refine br_kf (by assumption) ?_); conv => whnf)
      | ((with_reducible refine br_nt (by assumption) ?_); conv => whnf)
      | ((with_reducible refine br_nf (by assumption) ?_); conv => whnf)
      | ((with_reducible refine br_et (by assumption) ?_); conv => whnf)
      | ((with_reducible refine br_ef (by assumption) ?_); conv => whnf)
      | ((with_reducible refine br_dec (fun h => ?_) (fun h => ?_)) <;> first | (exfalso; omega) | conv => whnf)
      | ((with_reducible refine br_ndec (fun h => ?_) (fun h => ?_)) <;> first | (exfalso; omega) | conv => whnf)
      | ((with_reducible refine br_ne (fun h => ?_) (fun h => ?_)) <;> first | (exfalso; omega) | conv => whnf)
      | ((with_reducible refine br_eq (fun h => ?_) (fun h => ?_)) <;> first | (exfalso; omega) | conv => whnf)
      | (refine br_intro (fun h => ?_) (fun h => ?_) <;> conv => whnf)
      | (refine need_in (by first | exact trivial | assumption | exact ⟨rfl, Nat.le_refl _⟩ | exact ⟨rfl, rfl⟩ | (simp only [inR]; omega) | omega | (simp only [roomP, true_and, and_true, List.length_take, List.length_drop, List.length_append, List.length_cons, List.length_nil, List.length_set, List.length_replicate]; omega) | (refine ⟨by first | exact trivial | rfl, by first | exact Nat.le_refl _ | omega, ?_⟩; change roomP _ _ 1; simp only [roomP]; omega) | (change roomP _ _ 1; simp only [roomP]; omega) | (simp; omega) | (simp [inR]; omega) | (simp [inR]; done) | decide | (simp; done)) ?_; conv => whnf)
      | (refine idx_nat (by omega) (fun x hx => ?_); conv => whnf)
      | (refine frz_auto ?_; conv => whnf)
      | (refine draw_plain ?_; conv => whnf)
      | (refine idx_intro (by omega) (by omega) (fun x hx => ?_); conv => whnf)
      | (refine idx_intro (by first | omega | (simp; omega) | (simp; done)) (by first | omega | (simp; omega) | (simp; done)) (fun x hx => ?_); conv => whnf)
      | fail
  · have h1 : longL l = false := by simpa using h1
    have hl := longL_len h1
    by_cases h2 : (chB m b).2 = 0
    · obtain ⟨a1, a2, a3, a4, a5⟩ := chB_zero h2
      have hb16 : b.length ≤ 16 := by omega
      conv => whnf
      repeat' first
        | (refine br_true (by first | with_reducible exact rfl | assumption | decide) ?_; conv => whnf)
        | (refine br_false (by first | with_reducible exact rfl | assumption | decide) ?_; conv => whnf)
        | ((with_reducible refine br_kt (by assumption) ?_); conv => whnf)
        | ((with_reducible refine br_kf (by assumption) ?_); conv => whnf)
        | ((with_reducible refine br_nt (by assumption) ?_); conv => whnf)
        | ((with_reducible refine br_nf (by assumption) ?_); conv => whnf)
        | ((with_reducible refine br_et (by assumption) ?_); conv => whnf)
        | ((with_reducible refine br_ef (by assumption) ?_); conv => whnf)
        | ((with_reducible refine br_dec (fun h => ?_) (fun h => ?_)) <;> first | (exfalso; omega) | conv => whnf)
        | ((with_reducible refine br_ndec (fun h => ?_) (fun h => ?_)) <;> first | (exfalso; omega) | conv => whnf)
        | ((with_reducible refine br_ne (fun h => ?_) (fun h => ?_)) <;> first | (exfalso; omega) | conv => whnf)
        | ((with_reducible refine br_eq (fun h => ?_) (fun h => ?_)) <;> first | (exfalso; omega) | conv => whnf)
        | (refine br_intro (fun h => ?_) (fun h => ?_) <;> conv => whnf)
        | (refine need_in (by first | exact trivial | assumption | exact ⟨rfl, Nat.le_refl _⟩ | exact ⟨rfl, rfl⟩ | (simp only [inR]; omega) | omega | (simp only [roomP, true_and, and_true, List.length_take, List.length_drop, List.length_append, List.length_cons, List.length_nil, List.length_set, List.length_replicate]; omega) | (refine ⟨by first | exact trivial | rfl, by first | exact Nat.le_refl _ | omega, ?_⟩; change roomP _ _ 1; simp only [roomP]; omega) | (change roomP _ _ 1; simp only [roomP]; omega) | (simp; omega) | (simp [inR]; omega) | (simp [inR]; done) | decide | (simp; done)) ?_; conv => whnf)
        | (refine idx_nat (by omega) (fun x hx => ?_); conv => whnf)
        | (refine frz_auto ?_; conv => whnf)
        | (refine draw_plain ?_; conv => whnf)
        | (refine idx_intro (by omega) (by omega) (fun x hx => ?_); conv => whnf)
        | (refine idx_intro (by first | omega | (simp; omega) | (simp; done)) (by first | omega | (simp; omega) | (simp; done)) (fun x hx => ?_); conv => whnf)
        | fail
      refine loop_inv [] [7, 8] (fun vs h => ∃ (i g : Nat) (A D : List entT.El), vs = [.own 1 g A.length, .int .i64 (i : Int)] ∧ h = [.cells 24 [.int .i64 m, .lst entT D], .arr 35 entT A false g] ∧ i ≤ l.length ∧ A.length ≤ b.length + i ∧ (chB m D).2 = 0 ∧ (lasts A).Perm D) (fun vs _ => match vs with | [_, .int _ k] => l.length - k.toNat | _ => 0) ?_
      refine ⟨⟨0, 1, b, b, own2 (Nat.zero_add _), rfl, Nat.zero_le _, by omega, h2, by rw [lasts_asc a4]⟩, ?_⟩
      rintro vs h' - ⟨i, g, A, D, rfl, rfl, hi, hA, hD, hp⟩
      obtain ⟨d1, d2, d3, d4, d5⟩ := chB_zero hD
      by_cases hil : i < l.length
      · obtain ⟨y, hy⟩ : ∃ y, l[i]? = some y := ⟨_, List.getElem?_eq_getElem hil⟩
        by_cases hz : (bt m D [mkE y.1 y.2.1 y.2.2.1 y.2.2.2.1]).2.2.2 = 0
        · obtain ⟨he, hfit, hbt⟩ := bt_zero hz
          have hye : errX y = 0 := errGo_nil (asE_zero he).2.2 y (by simp)
          have hf : foundK y.1 D = true ∨ (D.length : Int) ≠ m := (wr_next (l := [mkE y.1 y.2.1 y.2.2.1 y.2.2.2.1]) (i := 0) (x := y) rfl hfit).1
          have hone : bt m D [mkE y.1 y.2.1 y.2.2.1 y.2.2.2.1] = (m, put1 D y, wk1 D y, 0) := bt_one hD hye hf
          have r1 : (bt m D [mkE y.1 y.2.1 y.2.2.1 y.2.2.2.1]).1 = m := by rw [hone]
          have r2 : (bt m D [mkE y.1 y.2.1 y.2.2.1 y.2.2.2.1]).2.1 = put1 D y := by rw [hone]
          clear hone hbt
          conv => whnf
          repeat' first
            | (refine idx_kn (by assumption) ?_; conv => whnf)
            | (refine br_true (by first | with_reducible exact rfl | assumption | decide) ?_; conv => whnf)
            | (refine br_false (by first | with_reducible exact rfl | assumption | decide) ?_; conv => whnf)
            | ((with_reducible refine br_kt (by assumption) ?_); conv => whnf)
            | ((with_reducible refine br_kf (by assumption) ?_); conv => whnf)
            | ((with_reducible refine br_nt (by assumption) ?_); conv => whnf)
            | ((with_reducible refine br_nf (by assumption) ?_); conv => whnf)
            | ((with_reducible refine br_et (by assumption) ?_); conv => whnf)
            | ((with_reducible refine br_ef (by assumption) ?_); conv => whnf)
            | ((with_reducible refine br_dec (fun h => ?_) (fun h => ?_)) <;> first | (exfalso; omega) | conv => whnf)
            | ((with_reducible refine br_ndec (fun h => ?_) (fun h => ?_)) <;> first | (exfalso; omega) | conv => whnf)
            | ((with_reducible refine br_ne (fun h => ?_) (fun h => ?_)) <;> first | (exfalso; omega) | conv => whnf)
            | ((with_reducible refine br_eq (fun h => ?_) (fun h => ?_)) <;> first | (exfalso; omega) | conv => whnf)
            | (refine br_intro (fun h => ?_) (fun h => ?_) <;> conv => whnf)
            | (refine need_in (by first | exact trivial | assumption | exact ⟨rfl, Nat.le_refl _⟩ | exact ⟨rfl, rfl⟩ | (simp only [inR]; omega) | omega | (simp only [roomP, true_and, and_true, List.length_take, List.length_drop, List.length_append, List.length_cons, List.length_nil, List.length_set, List.length_replicate]; omega) | (refine ⟨by first | exact trivial | rfl, by first | exact Nat.le_refl _ | omega, ?_⟩; change roomP _ _ 1; simp only [roomP]; omega) | (change roomP _ _ 1; simp only [roomP]; omega) | (simp; omega) | (simp [inR]; omega) | (simp [inR]; done) | decide | (simp; done)) ?_; conv => whnf)
            | (refine idx_nat (by omega) (fun x hx => ?_); conv => whnf)
            | (refine frz_auto ?_; conv => whnf)
            | (refine draw_plain ?_; conv => whnf)
            | (refine idx_intro (by omega) (by omega) (fun x hx => ?_); conv => whnf)
            | (refine idx_intro (by first | omega | (simp; omega) | (simp; done)) (by first | omega | (simp; omega) | (simp; done)) (fun x hx => ?_); conv => whnf)
            | fail
          refine back_intro (by conv => whnf) rfl ⟨i + 1, g + 1, A ++ [y], put1 D y, own2 ?_, hp2 r1 r2 ?_, by omega, by rw [List.length_append]; simp; omega, good_put hD hye hf, keep_step hp d4 y⟩ ?_
          · rw [List.length_append]; rfl
          · simp only [cast_self, List.take_length]; rfl
          · show l.length - ((i : Int) + 1).toNat < l.length - (i : Int).toNat
            omega
        · conv => whnf
          repeat' first
            | (refine idx_kn (by assumption) ?_; conv => whnf)
            | (refine br_true (by first | with_reducible exact rfl | assumption | decide) ?_; conv => whnf)
            | (refine br_false (by first | with_reducible exact rfl | assumption | decide) ?_; conv => whnf)
            | ((with_reducible refine br_kt (by assumption) ?_); conv => whnf)
            | ((with_reducible refine br_kf (by assumption) ?_); conv => whnf)
            | ((with_reducible refine br_nt (by assumption) ?_); conv => whnf)
            | ((with_reducible refine br_nf (by assumption) ?_); conv => whnf)
            | ((with_reducible refine br_et (by assumption) ?_); conv => whnf)
            | ((with_reducible refine br_ef (by assumption) ?_); conv => whnf)
            | ((with_reducible refine br_dec (fun h => ?_) (fun h => ?_)) <;> first | (exfalso; omega) | conv => whnf)
            | ((with_reducible refine br_ndec (fun h => ?_) (fun h => ?_)) <;> first | (exfalso; omega) | conv => whnf)
            | ((with_reducible refine br_ne (fun h => ?_) (fun h => ?_)) <;> first | (exfalso; omega) | conv => whnf)
            | ((with_reducible refine br_eq (fun h => ?_) (fun h => ?_)) <;> first | (exfalso; omega) | conv => whnf)
            | (refine br_intro (fun h => ?_) (fun h => ?_) <;> conv => whnf)
            | (refine need_in (by first | exact trivial | assumption | exact ⟨rfl, Nat.le_refl _⟩ | exact ⟨rfl, rfl⟩ | (simp only [inR]; omega) | omega | (simp only [roomP, true_and, and_true, List.length_take, List.length_drop, List.length_append, List.length_cons, List.length_nil, List.length_set, List.length_replicate]; omega) | (refine ⟨by first | exact trivial | rfl, by first | exact Nat.le_refl _ | omega, ?_⟩; change roomP _ _ 1; simp only [roomP]; omega) | (change roomP _ _ 1; simp only [roomP]; omega) | (simp; omega) | (simp [inR]; omega) | (simp [inR]; done) | decide | (simp; done)) ?_; conv => whnf)
            | (refine idx_nat (by omega) (fun x hx => ?_); conv => whnf)
            | (refine frz_auto ?_; conv => whnf)
            | (refine draw_plain ?_; conv => whnf)
            | (refine idx_intro (by omega) (by omega) (fun x hx => ?_); conv => whnf)
            | (refine idx_intro (by first | omega | (simp; omega) | (simp; done)) (by first | omega | (simp; omega) | (simp; done)) (fun x hx => ?_); conv => whnf)
            | fail
          refine back_intro (by conv => whnf) rfl ⟨i + 1, g, A, D, rfl, rfl, by omega, by omega, hD, hp⟩ ?_
          show l.length - ((i : Int) + 1).toNat < l.length - (i : Int).toNat
          omega
      · have hlen := hp.length_eq
        have hA2 : A.length ≤ 100 := by omega
        conv => whnf
        repeat' first
          | (refine br_true (by first | with_reducible exact rfl | assumption | decide) ?_; conv => whnf)
          | (refine br_false (by first | with_reducible exact rfl | assumption | decide) ?_; conv => whnf)
          | ((with_reducible refine br_kt (by assumption) ?_); conv => whnf)
          | ((with_reducible refine br_kf (by assumption) ?_); conv => whnf)
          | ((with_reducible refine br_nt (by assumption) ?_); conv => whnf)
          | ((with_reducible refine br_nf (by assumption) ?_); conv => whnf)
          | ((with_reducible refine br_et (by assumption) ?_); conv => whnf)
          | ((with_reducible refine br_ef (by assumption) ?_); conv => whnf)
          | ((with_reducible refine br_dec (fun h => ?_) (fun h => ?_)) <;> first | (exfalso; omega) | conv => whnf)
          | ((with_reducible refine br_ndec (fun h => ?_) (fun h => ?_)) <;> first | (exfalso; omega) | conv => whnf)
          | ((with_reducible refine br_ne (fun h => ?_) (fun h => ?_)) <;> first | (exfalso; omega) | conv => whnf)
          | ((with_reducible refine br_eq (fun h => ?_) (fun h => ?_)) <;> first | (exfalso; omega) | conv => whnf)
          | (refine br_intro (fun h => ?_) (fun h => ?_) <;> conv => whnf)
          | (refine need_in (by first | exact trivial | assumption | exact ⟨rfl, Nat.le_refl _⟩ | exact ⟨rfl, rfl⟩ | (simp only [inR]; omega) | omega | (simp only [roomP, true_and, and_true, List.length_take, List.length_drop, List.length_append, List.length_cons, List.length_nil, List.length_set, List.length_replicate]; omega) | (refine ⟨by first | exact trivial | rfl, by first | exact Nat.le_refl _ | omega, ?_⟩; change roomP _ _ 1; simp only [roomP]; omega) | (change roomP _ _ 1; simp only [roomP]; omega) | (simp; omega) | (simp [inR]; omega) | (simp [inR]; done) | decide | (simp; done)) ?_; conv => whnf)
          | (refine idx_nat (by omega) (fun x hx => ?_); conv => whnf)
          | (refine frz_auto ?_; conv => whnf)
          | (refine draw_plain ?_; conv => whnf)
          | (refine idx_intro (by omega) (by omega) (fun x hx => ?_); conv => whnf)
          | (refine idx_intro (by first | omega | (simp; omega) | (simp; done)) (by first | omega | (simp; omega) | (simp; done)) (fun x hx => ?_); conv => whnf)
          | fail
        refine loop_inv [] [12, 13] (fun vs h => ∃ (q n : Nat), vs = [.int .i64 (n : Int), .int .i64 (q : Int)] ∧ h = [.cells 24 [.int .i64 m, .lst entT D], .arr 35 entT A false g] ∧ q ≤ A.length ∧ n ≤ q ∧ n + (lasts (A.drop q)).length = (lasts A).length) (fun vs _ => match vs with | [_, .int _ k] => A.length - k.toNat | _ => 0) ?_
        refine ⟨⟨0, 0, rfl, rfl, Nat.zero_le _, Nat.zero_le _, Nat.zero_add _⟩, ?_⟩
        rintro vs h' - ⟨q, n, rfl, rfl, hq, hnq, hn⟩
        by_cases hql : q < A.length
        · obtain ⟨a, ha⟩ : ∃ a, A[q]? = some a := ⟨_, List.getElem?_eq_getElem hql⟩
          have hlast := last_in ha
          conv => whnf
          repeat' first
            | (refine idx_kn (by assumption) ?_; conv => whnf)
            | (refine br_true (by first | with_reducible exact rfl | assumption | decide) ?_; conv => whnf)
            | (refine br_false (by first | with_reducible exact rfl | assumption | decide) ?_; conv => whnf)
            | ((with_reducible refine br_kt (by assumption) ?_); conv => whnf)
            | ((with_reducible refine br_kf (by assumption) ?_); conv => whnf)
            | ((with_reducible refine br_nt (by assumption) ?_); conv => whnf)
            | ((with_reducible refine br_nf (by assumption) ?_); conv => whnf)
            | ((with_reducible refine br_et (by assumption) ?_); conv => whnf)
            | ((with_reducible refine br_ef (by assumption) ?_); conv => whnf)
            | ((with_reducible refine br_dec (fun h => ?_) (fun h => ?_)) <;> first | (exfalso; omega) | conv => whnf)
            | ((with_reducible refine br_ndec (fun h => ?_) (fun h => ?_)) <;> first | (exfalso; omega) | conv => whnf)
            | ((with_reducible refine br_ne (fun h => ?_) (fun h => ?_)) <;> first | (exfalso; omega) | conv => whnf)
            | ((with_reducible refine br_eq (fun h => ?_) (fun h => ?_)) <;> first | (exfalso; omega) | conv => whnf)
            | (refine br_intro (fun h => ?_) (fun h => ?_) <;> conv => whnf)
            | (refine need_in (by first | exact trivial | assumption | exact ⟨rfl, Nat.le_refl _⟩ | exact ⟨rfl, rfl⟩ | (simp only [inR]; omega) | omega | (simp only [roomP, true_and, and_true, List.length_take, List.length_drop, List.length_append, List.length_cons, List.length_nil, List.length_set, List.length_replicate]; omega) | (refine ⟨by first | exact trivial | rfl, by first | exact Nat.le_refl _ | omega, ?_⟩; change roomP _ _ 1; simp only [roomP]; omega) | (change roomP _ _ 1; simp only [roomP]; omega) | (simp; omega) | (simp [inR]; omega) | (simp [inR]; done) | decide | (simp; done)) ?_; conv => whnf)
            | (refine idx_nat (by omega) (fun x hx => ?_); conv => whnf)
            | (refine frz_auto ?_; conv => whnf)
            | (refine draw_plain ?_; conv => whnf)
            | (refine idx_intro (by omega) (by omega) (fun x hx => ?_); conv => whnf)
            | (refine idx_intro (by first | omega | (simp; omega) | (simp; done)) (by first | omega | (simp; omega) | (simp; done)) (fun x hx => ?_); conv => whnf)
            | fail
          refine loop_inv [] [14, 15] (fun vs h => ∃ (k : Nat) (dn : Bool), vs = [.bool dn, .int .i64 (k : Int)] ∧ h = [.cells 24 [.int .i64 m, .lst entT D], .arr 35 entT A false g] ∧ q + 1 ≤ k ∧ k ≤ A.length ∧ dn = !((A.drop (q + 1)).take (k - (q + 1))).any (fun y => sEq y.1 a.1)) (fun vs _ => match vs with | [_, .int _ k] => A.length - k.toNat | _ => 0) ?_
          refine ⟨⟨q + 1, true, rfl, rfl, Nat.le_refl _, by omega, by rw [Nat.sub_self]; rfl⟩, ?_⟩
          rintro vs h' - ⟨k, dn, rfl, rfl, hk1, hk2, hdn⟩
          by_cases hkl : k < A.length
          · obtain ⟨z, hz⟩ : ∃ z, A[k]? = some z := ⟨_, List.getElem?_eq_getElem hkl⟩
            have hnext := any_next (a := a) hz hk1
            conv => whnf
            repeat' first
              | (refine idx_kn (by assumption) ?_; conv => whnf)
              | (refine br_true (by first | with_reducible exact rfl | assumption | decide) ?_; conv => whnf)
              | (refine br_false (by first | with_reducible exact rfl | assumption | decide) ?_; conv => whnf)
              | ((with_reducible refine br_kt (by assumption) ?_); conv => whnf)
              | ((with_reducible refine br_kf (by assumption) ?_); conv => whnf)
              | ((with_reducible refine br_nt (by assumption) ?_); conv => whnf)
              | ((with_reducible refine br_nf (by assumption) ?_); conv => whnf)
              | ((with_reducible refine br_et (by assumption) ?_); conv => whnf)
              | ((with_reducible refine br_ef (by assumption) ?_); conv => whnf)
              | ((with_reducible refine br_dec (fun h => ?_) (fun h => ?_)) <;> first | (exfalso; omega) | conv => whnf)
              | ((with_reducible refine br_ndec (fun h => ?_) (fun h => ?_)) <;> first | (exfalso; omega) | conv => whnf)
              | ((with_reducible refine br_ne (fun h => ?_) (fun h => ?_)) <;> first | (exfalso; omega) | conv => whnf)
              | ((with_reducible refine br_eq (fun h => ?_) (fun h => ?_)) <;> first | (exfalso; omega) | conv => whnf)
              | (refine br_intro (fun h => ?_) (fun h => ?_) <;> conv => whnf)
              | (refine need_in (by first | exact trivial | assumption | exact ⟨rfl, Nat.le_refl _⟩ | exact ⟨rfl, rfl⟩ | (simp only [inR]; omega) | omega | (simp only [roomP, true_and, and_true, List.length_take, List.length_drop, List.length_append, List.length_cons, List.length_nil, List.length_set, List.length_replicate]; omega) | (refine ⟨by first | exact trivial | rfl, by first | exact Nat.le_refl _ | omega, ?_⟩; change roomP _ _ 1; simp only [roomP]; omega) | (change roomP _ _ 1; simp only [roomP]; omega) | (simp; omega) | (simp [inR]; omega) | (simp [inR]; done) | decide | (simp; done)) ?_; conv => whnf)
              | (refine idx_nat (by omega) (fun x hx => ?_); conv => whnf)
              | (refine frz_auto ?_; conv => whnf)
              | (refine draw_plain ?_; conv => whnf)
              | (refine idx_intro (by omega) (by omega) (fun x hx => ?_); conv => whnf)
              | (refine idx_intro (by first | omega | (simp; omega) | (simp; done)) (by first | omega | (simp; omega) | (simp; done)) (fun x hx => ?_); conv => whnf)
              | fail
            all_goals
              refine back_intro (by conv => whnf) rfl ⟨k + 1, _, rfl, rfl, by omega, by omega, ?_⟩ ?_
              · rw [hnext]; grind
              · show A.length - ((k : Int) + 1).toNat < A.length - (k : Int).toNat
                omega
          · have hk : k = A.length := by omega
            rw [hk, List.take_of_length_le (by rw [List.length_drop]; exact Nat.le_refl _)] at hdn
            cases hany : (A.drop (q + 1)).any (fun y => sEq y.1 a.1) with
            | true =>
              rw [hany] at hdn hlast
              rw [if_pos rfl] at hlast
              subst hdn
              conv => whnf
              repeat' first
                | (refine idx_kn (by assumption) ?_; conv => whnf)
                | (refine br_true (by first | with_reducible exact rfl | assumption | decide) ?_; conv => whnf)
                | (refine br_false (by first | with_reducible exact rfl | assumption | decide) ?_; conv => whnf)
                | ((with_reducible refine br_kt (by assumption) ?_); conv => whnf)
                | ((with_reducible refine br_kf (by assumption) ?_); conv => whnf)
                | ((with_reducible refine br_nt (by assumption) ?_); conv => whnf)
                | ((with_reducible refine br_nf (by assumption) ?_); conv => whnf)
                | ((with_reducible refine br_et (by assumption) ?_); conv => whnf)
                | ((with_reducible refine br_ef (by assumption) ?_); conv => whnf)
                | ((with_reducible refine br_dec (fun h => ?_) (fun h => ?_)) <;> first | (exfalso; omega) | conv => whnf)
                | ((with_reducible refine br_ndec (fun h => ?_) (fun h => ?_)) <;> first | (exfalso; omega) | conv => whnf)
                | ((with_reducible refine br_ne (fun h => ?_) (fun h => ?_)) <;> first | (exfalso; omega) | conv => whnf)
                | ((with_reducible refine br_eq (fun h => ?_) (fun h => ?_)) <;> first | (exfalso; omega) | conv => whnf)
                | (refine br_intro (fun h => ?_) (fun h => ?_) <;> conv => whnf)
                | (refine need_in (by first | exact trivial | assumption | exact ⟨rfl, Nat.le_refl _⟩ | exact ⟨rfl, rfl⟩ | (simp only [inR]; omega) | omega | (simp only [roomP, true_and, and_true, List.length_take, List.length_drop, List.length_append, List.length_cons, List.length_nil, List.length_set, List.length_replicate]; omega) | (refine ⟨by first | exact trivial | rfl, by first | exact Nat.le_refl _ | omega, ?_⟩; change roomP _ _ 1; simp only [roomP]; omega) | (change roomP _ _ 1; simp only [roomP]; omega) | (simp; omega) | (simp [inR]; omega) | (simp [inR]; done) | decide | (simp; done)) ?_; conv => whnf)
                | (refine idx_nat (by omega) (fun x hx => ?_); conv => whnf)
                | (refine frz_auto ?_; conv => whnf)
                | (refine draw_plain ?_; conv => whnf)
                | (refine idx_intro (by omega) (by omega) (fun x hx => ?_); conv => whnf)
                | (refine idx_intro (by first | omega | (simp; omega) | (simp; done)) (by first | omega | (simp; omega) | (simp; done)) (fun x hx => ?_); conv => whnf)
                | fail
              refine back_intro (by conv => whnf) rfl ⟨q + 1, n, rfl, rfl, by omega, by omega, by rw [← hlast]; exact hn⟩ ?_
              show A.length - ((q : Int) + 1).toNat < A.length - (q : Int).toNat
              omega
            | false =>
              rw [hany] at hdn hlast
              rw [if_neg (by decide)] at hlast
              have hin : a ∈ D := hp.mem_iff.1 (lasts_drop (i := q) (by rw [hlast]; exact List.mem_cons_self))
              obtain ⟨g1, g2⟩ := get_in hD hin
              have g3 : (!eqT entT (gtX m D a.1) a) = false := by rw [g2, eqT_refl]; rfl
              subst hdn
              conv => whnf
              repeat' first
                | (refine idx_kn (by assumption) ?_; conv => whnf)
                | (refine br_true (by first | with_reducible exact rfl | assumption | decide) ?_; conv => whnf)
                | (refine br_false (by first | with_reducible exact rfl | assumption | decide) ?_; conv => whnf)
                | ((with_reducible refine br_kt (by assumption) ?_); conv => whnf)
                | ((with_reducible refine br_kf (by assumption) ?_); conv => whnf)
                | ((with_reducible refine br_nt (by assumption) ?_); conv => whnf)
                | ((with_reducible refine br_nf (by assumption) ?_); conv => whnf)
                | ((with_reducible refine br_et (by assumption) ?_); conv => whnf)
                | ((with_reducible refine br_ef (by assumption) ?_); conv => whnf)
                | ((with_reducible refine br_dec (fun h => ?_) (fun h => ?_)) <;> first | (exfalso; omega) | conv => whnf)
                | ((with_reducible refine br_ndec (fun h => ?_) (fun h => ?_)) <;> first | (exfalso; omega) | conv => whnf)
                | ((with_reducible refine br_ne (fun h => ?_) (fun h => ?_)) <;> first | (exfalso; omega) | conv => whnf)
                | ((with_reducible refine br_eq (fun h => ?_) (fun h => ?_)) <;> first | (exfalso; omega) | conv => whnf)
                | (refine br_intro (fun h => ?_) (fun h => ?_) <;> conv => whnf)
                | (refine need_in (by first | exact trivial | assumption | exact ⟨rfl, Nat.le_refl _⟩ | exact ⟨rfl, rfl⟩ | (simp only [inR]; omega) | omega | (simp only [roomP, true_and, and_true, List.length_take, List.length_drop, List.length_append, List.length_cons, List.length_nil, List.length_set, List.length_replicate]; omega) | (refine ⟨by first | exact trivial | rfl, by first | exact Nat.le_refl _ | omega, ?_⟩; change roomP _ _ 1; simp only [roomP]; omega) | (change roomP _ _ 1; simp only [roomP]; omega) | (simp; omega) | (simp [inR]; omega) | (simp [inR]; done) | decide | (simp; done)) ?_; conv => whnf)
                | (refine idx_nat (by omega) (fun x hx => ?_); conv => whnf)
                | (refine frz_auto ?_; conv => whnf)
                | (refine draw_plain ?_; conv => whnf)
                | (refine idx_intro (by omega) (by omega) (fun x hx => ?_); conv => whnf)
                | (refine idx_intro (by first | omega | (simp; omega) | (simp; done)) (by first | omega | (simp; omega) | (simp; done)) (fun x hx => ?_); conv => whnf)
                | fail
              refine back_intro (by conv => whnf) rfl ⟨q + 1, n + 1, rfl, rfl, by omega, by omega, ?_⟩ ?_
              · rw [hlast, List.length_cons] at hn
                omega
              · show A.length - ((q : Int) + 1).toNat < A.length - (q : Int).toNat
                omega
        · have e : A.drop q = [] := List.drop_eq_nil_of_le (by omega)
          rw [e] at hn
          have hn' : n = D.length := by rw [← hlen, ← hn]; rfl
          conv => whnf
          repeat' first
            | (refine idx_kn (by assumption) ?_; conv => whnf)
            | (refine br_true (by first | with_reducible exact rfl | assumption | decide) ?_; conv => whnf)
            | (refine br_false (by first | with_reducible exact rfl | assumption | decide) ?_; conv => whnf)
            | ((with_reducible refine br_kt (by assumption) ?_); conv => whnf)
            | ((with_reducible refine br_kf (by assumption) ?_); conv => whnf)
            | ((with_reducible refine br_nt (by assumption) ?_); conv => whnf)
            | ((with_reducible refine br_nf (by assumption) ?_); conv => whnf)
            | ((with_reducible refine br_et (by assumption) ?_); conv => whnf)
            | ((with_reducible refine br_ef (by assumption) ?_); conv => whnf)
            | ((with_reducible refine br_dec (fun h => ?_) (fun h => ?_)) <;> first | (exfalso; omega) | conv => whnf)
            | ((with_reducible refine br_ndec (fun h => ?_) (fun h => ?_)) <;> first | (exfalso; omega) | conv => whnf)
            | ((with_reducible refine br_ne (fun h => ?_) (fun h => ?_)) <;> first | (exfalso; omega) | conv => whnf)
            | ((with_reducible refine br_eq (fun h => ?_) (fun h => ?_)) <;> first | (exfalso; omega) | conv => whnf)
            | (refine br_intro (fun h => ?_) (fun h => ?_) <;> conv => whnf)
            | (refine need_in (by first | exact trivial | assumption | exact ⟨rfl, Nat.le_refl _⟩ | exact ⟨rfl, rfl⟩ | (simp only [inR]; omega) | omega | (simp only [roomP, true_and, and_true, List.length_take, List.length_drop, List.length_append, List.length_cons, List.length_nil, List.length_set, List.length_replicate]; omega) | (refine ⟨by first | exact trivial | rfl, by first | exact Nat.le_refl _ | omega, ?_⟩; change roomP _ _ 1; simp only [roomP]; omega) | (change roomP _ _ 1; simp only [roomP]; omega) | (simp; omega) | (simp [inR]; omega) | (simp [inR]; done) | decide | (simp; done)) ?_; conv => whnf)
            | (refine idx_nat (by omega) (fun x hx => ?_); conv => whnf)
            | (refine frz_auto ?_; conv => whnf)
            | (refine draw_plain ?_; conv => whnf)
            | (refine idx_intro (by omega) (by omega) (fun x hx => ?_); conv => whnf)
            | (refine idx_intro (by first | omega | (simp; omega) | (simp; done)) (by first | omega | (simp; omega) | (simp; done)) (fun x hx => ?_); conv => whnf)
            | fail
    · conv => whnf
      repeat' first
        | (refine br_true (by first | with_reducible exact rfl | assumption | decide) ?_; conv => whnf)
        | (refine br_false (by first | with_reducible exact rfl | assumption | decide) ?_; conv => whnf)
        | ((with_reducible refine br_kt (by assumption) ?_); conv => whnf)
        | ((with_reducible refine br_kf (by assumption) ?_); conv => whnf)
        | ((with_reducible refine br_nt (by assumption) ?_); conv => whnf)
        | ((with_reducible refine br_nf (by assumption) ?_); conv => whnf)
        | ((with_reducible refine br_et (by assumption) ?_); conv => whnf)
        | ((with_reducible refine br_ef (by assumption) ?_); conv => whnf)
        | ((with_reducible refine br_dec (fun h => ?_) (fun h => ?_)) <;> first | (exfalso; omega) | conv => whnf)
        | ((with_reducible refine br_ndec (fun h => ?_) (fun h => ?_)) <;> first | (exfalso; omega) | conv => whnf)
        | ((with_reducible refine br_ne (fun h => ?_) (fun h => ?_)) <;> first | (exfalso; omega) | conv => whnf)
        | ((with_reducible refine br_eq (fun h => ?_) (fun h => ?_)) <;> first | (exfalso; omega) | conv => whnf)
        | (refine br_intro (fun h => ?_) (fun h => ?_) <;> conv => whnf)
        | (refine need_in (by first | exact trivial | assumption | exact ⟨rfl, Nat.le_refl _⟩ | exact ⟨rfl, rfl⟩ | (simp only [inR]; omega) | omega | (simp only [roomP, true_and, and_true, List.length_take, List.length_drop, List.length_append, List.length_cons, List.length_nil, List.length_set, List.length_replicate]; omega) | (refine ⟨by first | exact trivial | rfl, by first | exact Nat.le_refl _ | omega, ?_⟩; change roomP _ _ 1; simp only [roomP]; omega) | (change roomP _ _ 1; simp only [roomP]; omega) | (simp; omega) | (simp [inR]; omega) | (simp [inR]; done) | decide | (simp; done)) ?_; conv => whnf)
        | (refine idx_nat (by omega) (fun x hx => ?_); conv => whnf)
        | (refine frz_auto ?_; conv => whnf)
        | (refine draw_plain ?_; conv => whnf)
        | (refine idx_intro (by omega) (by omega) (fun x hx => ?_); conv => whnf)
        | (refine idx_intro (by first | omega | (simp; omega) | (simp; done)) (by first | omega | (simp; omega) | (simp; done)) (fun x hx => ?_); conv => whnf)
        | fail
theorem lKe : ∀ es : Ty.Els lKe_T, tyOks lKe_T es → bodyA lKe_C (callN lKe_C lKe_N) Try.f7 (avTs lKe_T es) [] (fun v _ => v = .bool true) := by
  rintro ⟨⟨m, b, _⟩, l, _⟩ -
  exact lKe' m b l
end Go.Proofs.Ytfnikjihjjniiaa
