/-
  What a buffer has of a key; the law of the work.
-/
import Derived.Test.YtfnikjihjjniiaaC9
namespace Go.Proofs.Ytfnikjihjjniiaa
open Av Bk

def gtE (m : Int) (l : List entT.El) (key : ByteArray) : Int := if (chB m l).2 ≠ 0 then (chB m l).2 else if 32 < (key.size : Int) then 3 else if foundK key l = true then 0 else 4
def gtX (m : Int) (l : List entT.El) (key : ByteArray) : entT.El := if gtE m l key = 0 then (l[lb key l]?).getD (mkE ⟨#[]⟩ ⟨#[]⟩ false 0) else mkE ⟨#[]⟩ ⟨#[]⟩ false 0
def spGet : DSpec
  | [.agg [.int .i64 m, .lst (.st [.str, .str, .bool, .int .i64]) l], .str key] => some (True, .tup [.agg [.str (gtX m l key).1, .str (gtX m l key).2.1, .bool (gtX m l key).2.2.1, .int .i64 (gtX m l key).2.2.2.1], .int .i64 (gtE m l key)])
  | _ => none
theorem get_eq {x y : entT.El} {a b : Int} (h : y = x) (h2 : b = a) : AV.tup [.agg [.str x.1, .str x.2.1, .bool x.2.2.1, .int .i64 x.2.2.2.1], .int .i64 a] = AV.tup [.agg [.str y.1, .str y.2.1, .bool y.2.2.1, .int .i64 y.2.2.2.1], .int .i64 b] := by rw [h, h2]
theorem fnOk_bGet : FnOk Try.prog 26 Try.f26 := ⟨by rfl, by kernel_rfl, by
  show okCode _ _ = true ∧ drawsOk _ = true
  exact ⟨by kernel_rfl, by kernel_rfl⟩⟩
noncomputable def cx50 : Cx := ⟨tb, [], [(24, spChB), (38, spKey), (39, spFind)]⟩
theorem specs50 : SpecsOk Try.prog cx50.specs := .cons bChk_ok (.cons keysCheck_ok (.cons bFind_ok .nil))
set_option maxRecDepth 100000 in
set_option maxHeartbeats 4000000 in
theorem bGet_ok : SpecOk Try.prog 26 spGet := by
  refine spec_body (C := cx50) mixed tbOk specs50 (callN_ok (C := cx50) mixed tbOk specs50 FnsOk.nil 0) fnOk_bGet ?_
  intro ys p r h hp
  unfold spGet at h
  split at h
  · rename_i m l key
    cases h
    have hne : (chB m l).2 ≠ 0 → gtE m l key = (chB m l).2 ∧ gtX m l key = mkE ⟨#[]⟩ ⟨#[]⟩ false 0 := fun hc => by
      have e : gtE m l key = (chB m l).2 := by rw [gtE, if_pos hc]
      exact ⟨e, by rw [gtX, if_neg (by rw [e]; exact hc)]⟩
    conv => whnf
    repeat' first
      | (refine br_true (by first | with_reducible exact rfl | assumption | decide) ?_; conv => whnf)
      | (refine br_false (by first | with_reducible exact rfl | assumption | decide) ?_; conv => whnf)
      | ((with_reducible refine br_kt (by assumption) ?_); conv => whnf)
      | ((with_reducible refine br_kf (by assumption) ?_); conv => whnf)
      | ((with_reducible refine br_nt (by assumption) ?_); conv => whnf)
      | ((with_reducible refine br_nf (by assumption) ?_); conv => whnf)
      | ((with_reducible refine br_et (by assumption) ?_); conv => whnf)
      | ((with_reducible refine br_ef (by assumption) ?_); conv => whnf)
      | ((with_reducible refine br_dec (fun h => ?_) (fun h => ?_)) <;> first | (exfalso; omega) | conv => whnf)
      | ((with_reducible refine br_ndec (fun h => ?_) (fun h => ?_)) <;> first | (exfalso; omega) | conv => whnf)
      | ((with_reducible refine br_ne (fun h => ?_) (fun h => ?_)) <;> first | (exfalso; omega) | conv => whnf)
      | ((with_reducible refine br_eq (fun h => ?_) (fun h => ?_)) <;> first | (exfalso; omega) | conv => whnf)
      | (refine br_intro (fun h => ?_) (fun h => ?_) <;> conv => whnf)
      | (refine need_in (by first | exact trivial | assumption | exact ⟨rfl, Nat.le_refl _⟩ | exact ⟨rfl, rfl⟩ | (simp only [inR]; omega) | omega | (simp only [roomP, true_and, and_true, List.length_take, List.length_drop, List.length_append, List.length_cons, List.length_nil, List.length_set, List.length_replicate]; omega) | (refine ⟨by first | exact trivial | rfl, by first | exact Nat.le_refl _ | omega, ?_⟩; change roomP _ _ 1; simp only [roomP]; omega) | (change roomP _ _ 1; simp only [roomP]; omega) | (simp; omega) | (simp [inR]; omega) | (simp [inR]; done) | decide | (simp; done)) ?_; conv => whnf)
      | (refine idx_nat (by omega) (fun x hx => ?_); conv => whnf)
      | (refine frz_auto ?_; conv => whnf)
      | (refine draw_plain ?_; conv => whnf)
      | (refine idx_intro (by omega) (by omega) (fun x hx => ?_); conv => whnf)
      | (refine idx_intro (by first | omega | (simp; omega) | (simp; done)) (by first | omega | (simp; omega) | (simp; done)) (fun x hx => ?_); conv => whnf)
      | fail
    · obtain ⟨e1, e2⟩ := hne (by assumption)
      exact get_eq e2 e1
    · rename_i h0
      by_cases hk : 32 < (key.size : Int)
      · have e : gtE m l key = 3 := by rw [gtE, if_neg (by simpa using h0), if_pos hk]
        exact get_eq (x := mkE ⟨#[]⟩ ⟨#[]⟩ false 0) (y := gtX m l key) (by rw [gtX, if_neg (by rw [e]; decide)]) (by rw [e]; simp [hk])
      · exact absurd (by simp [hk]) h
    · rename_i h0
      have hk : ¬ 32 < (key.size : Int) := fun hk => by simp [hk] at h
      obtain ⟨a1, a2, a3, a4, a5⟩ := chB_zero h0
      have hlt : foundK key l = true → lb key l < l.length := fun hf => by
        obtain ⟨y, hy, _⟩ := foundK_lt hf
        exact (List.getElem?_eq_some_iff.1 hy).1
      refine need_in ⟨a4, by omega⟩ ?_
      cases hf : foundK key l with
      | true =>
        have hlt := hlt hf
        conv => whnf
        repeat' first
          | (refine br_true (by first | with_reducible exact rfl | assumption | decide) ?_; conv => whnf)
          | (refine br_false (by first | with_reducible exact rfl | assumption | decide) ?_; conv => whnf)
          | ((with_reducible refine br_kt (by assumption) ?_); conv => whnf)
          | ((with_reducible refine br_kf (by assumption) ?_); conv => whnf)
          | ((with_reducible refine br_nt (by assumption) ?_); conv => whnf)
          | ((with_reducible refine br_nf (by assumption) ?_); conv => whnf)
          | ((with_reducible refine br_et (by assumption) ?_); conv => whnf)
          | ((with_reducible refine br_ef (by assumption) ?_); conv => whnf)
          | ((with_reducible refine br_dec (fun h => ?_) (fun h => ?_)) <;> first | (exfalso; omega) | conv => whnf)
          | ((with_reducible refine br_ndec (fun h => ?_) (fun h => ?_)) <;> first | (exfalso; omega) | conv => whnf)
          | ((with_reducible refine br_ne (fun h => ?_) (fun h => ?_)) <;> first | (exfalso; omega) | conv => whnf)
          | ((with_reducible refine br_eq (fun h => ?_) (fun h => ?_)) <;> first | (exfalso; omega) | conv => whnf)
          | (refine br_intro (fun h => ?_) (fun h => ?_) <;> conv => whnf)
          | (refine need_in (by first | exact trivial | assumption | exact ⟨rfl, Nat.le_refl _⟩ | exact ⟨rfl, rfl⟩ | (simp only [inR]; omega) | omega | (simp only [roomP, true_and, and_true, List.length_take, List.length_drop, List.length_append, List.length_cons, List.length_nil, List.length_set, List.length_replicate]; omega) | (refine ⟨by first | exact trivial | rfl, by first | exact Nat.le_refl _ | omega, ?_⟩; change roomP _ _ 1; simp only [roomP]; omega) | (change roomP _ _ 1; simp only [roomP]; omega) | (simp; omega) | (simp [inR]; omega) | (simp [inR]; done) | decide | (simp; done)) ?_; conv => whnf)
          | (refine idx_nat (by omega) (fun x hx => ?_); conv => whnf)
          | (refine frz_auto ?_; conv => whnf)
          | (refine draw_plain ?_; conv => whnf)
          | (refine idx_intro (by omega) (by omega) (fun x hx => ?_); conv => whnf)
          | (refine idx_intro (by first | omega | (simp; omega) | (simp; done)) (by first | omega | (simp; omega) | (simp; done)) (fun x hx => ?_); conv => whnf)
          | fail
        have e : gtE m l key = 0 := by rw [gtE, if_neg (by simpa using h0), if_neg hk, if_pos hf]
        have hx : l[lb key l]? = some x := by simpa using hx
        exact get_eq (by rw [gtX, if_pos e, hx]; rfl) e
      | false =>
        conv => whnf
        repeat' first
          | (refine br_true (by first | with_reducible exact rfl | assumption | decide) ?_; conv => whnf)
          | (refine br_false (by first | with_reducible exact rfl | assumption | decide) ?_; conv => whnf)
          | ((with_reducible refine br_kt (by assumption) ?_); conv => whnf)
          | ((with_reducible refine br_kf (by assumption) ?_); conv => whnf)
          | ((with_reducible refine br_nt (by assumption) ?_); conv => whnf)
          | ((with_reducible refine br_nf (by assumption) ?_); conv => whnf)
          | ((with_reducible refine br_et (by assumption) ?_); conv => whnf)
          | ((with_reducible refine br_ef (by assumption) ?_); conv => whnf)
          | ((with_reducible refine br_dec (fun h => ?_) (fun h => ?_)) <;> first | (exfalso; omega) | conv => whnf)
          | ((with_reducible refine br_ndec (fun h => ?_) (fun h => ?_)) <;> first | (exfalso; omega) | conv => whnf)
          | ((with_reducible refine br_ne (fun h => ?_) (fun h => ?_)) <;> first | (exfalso; omega) | conv => whnf)
          | ((with_reducible refine br_eq (fun h => ?_) (fun h => ?_)) <;> first | (exfalso; omega) | conv => whnf)
          | (refine br_intro (fun h => ?_) (fun h => ?_) <;> conv => whnf)
          | (refine need_in (by first | exact trivial | assumption | exact ⟨rfl, Nat.le_refl _⟩ | exact ⟨rfl, rfl⟩ | (simp only [inR]; omega) | omega | (simp only [roomP, true_and, and_true, List.length_take, List.length_drop, List.length_append, List.length_cons, List.length_nil, List.length_set, List.length_replicate]; omega) | (refine ⟨by first | exact trivial | rfl, by first | exact Nat.le_refl _ | omega, ?_⟩; change roomP _ _ 1; simp only [roomP]; omega) | (change roomP _ _ 1; simp only [roomP]; omega) | (simp; omega) | (simp [inR]; omega) | (simp [inR]; done) | decide | (simp; done)) ?_; conv => whnf)
          | (refine idx_nat (by omega) (fun x hx => ?_); conv => whnf)
          | (refine frz_auto ?_; conv => whnf)
          | (refine draw_plain ?_; conv => whnf)
          | (refine idx_intro (by omega) (by omega) (fun x hx => ?_); conv => whnf)
          | (refine idx_intro (by first | omega | (simp; omega) | (simp; done)) (by first | omega | (simp; omega) | (simp; done)) (fun x hx => ?_); conv => whnf)
          | fail
        have e : gtE m l key = 4 := by rw [gtE, if_neg (by simpa using h0), if_neg hk, if_neg (by rw [hf]; decide)]
        exact get_eq (x := mkE ⟨#[]⟩ ⟨#[]⟩ false 0) (y := gtX m l key) (by rw [gtX, if_neg (by rw [e]; decide)]) e
  · cases h
theorem clGo_okS : ∀ (l : List entT.El) (i : Int) (pv : Option ByteArray), (∀ x ∈ l, errX x = 0) → ascS l → (∀ x, l[0]? = some x → falls pv x = false) → clGo pv i l = (0, 0)
  | [], _, _, _, _, _ => rfl
  | x :: l, i, pv, h1, h2, h3 => by
    rw [clGo, if_neg (by rw [h1 x (by simp)]; simp), if_neg (by rw [h3 x rfl]; simp)]
    refine clGo_okS l _ _ (fun y hy => h1 y (by simp [hy])) (ascS_tail h2) (fun y hy => ?_)
    have := h2 0 x y rfl (by simpa using hy)
    simp only [falls, this]
    rfl
theorem chB_good {m : Int} {b : List entT.El} (h1 : 1 ≤ m) (h2 : m ≤ 16) (h3 : (b.length : Int) ≤ m) (h4 : ascS b) (h5 : ∀ x ∈ b, errX x = 0) : (chB m b).2 = 0 := by
  rw [chB, if_neg (by omega), if_neg (by omega), clGo_okS b 0 none h5 h4 (fun x _ => rfl)]
theorem put1_mem {out : List entT.El} {x y : entT.El} (h : y ∈ put1 out x) : y = x ∨ y ∈ out := by
  unfold put1 at h
  split at h
  · rcases List.mem_or_eq_of_mem_set h with h | h
    · exact .inr h
    · exact .inl h
  · rcases List.mem_append.1 h with h | h
    · exact .inr (List.mem_of_mem_take h)
    · rcases List.mem_cons.1 h with h | h
      · exact .inl h
      · exact .inr (List.mem_of_mem_drop h)
theorem put1_at {out : List entT.El} (x : entT.El) : (put1 out x)[lb x.1 out]? = some x := by
  have hle := lb_le x.1 out
  unfold put1
  split
  · rename_i hf
    obtain ⟨y, hy, _⟩ := foundK_lt hf
    have := (List.getElem?_eq_some_iff.1 hy).1
    rw [List.getElem?_set, if_pos rfl, if_pos this]
  · rw [ins_get hle, if_neg (by omega), if_pos rfl]
theorem lb_eq {key : ByteArray} {l : List entT.El} {k : Nat} {y : entT.El} (ha : ascS l) (hy : l[k]? = some y) (he : y.1 = key) : lb key l = k ∧ foundK key l = true := by
  have hk : lb key l = k := by
    rcases Nat.lt_trichotomy (lb key l) k with h | h | h
    · exfalso
      have hlt : lb key l < l.length := Nat.lt_trans h (List.getElem?_eq_some_iff.1 hy).1
      have hz : l[lb key l]? = some l[lb key l] := List.getElem?_eq_getElem hlt
      have h1 := lb_ge ha (Nat.le_refl _) hz
      -- what lies ahead of k is less than its key
      have h2 : sLt (l[lb key l]).1 y.1 = true := by
        have : ∀ (d : Nat) (a b : entT.El), l[lb key l]? = some a → l[lb key l + (d + 1)]? = some b → sLt a.1 b.1 = true := by
          intro d
          induction d with
          | zero => intro a b h3 h4; exact ha _ a b h3 h4
          | succ d ih =>
            intro a b h3 h4
            have hlt2 : lb key l + (d + 1) < l.length := by have := (List.getElem?_eq_some_iff.1 h4).1; omega
            exact sLt_trans (ih a _ h3 (List.getElem?_eq_getElem hlt2)) (ha _ _ b (List.getElem?_eq_getElem hlt2) h4)
        obtain ⟨d, hd⟩ : ∃ d, k = lb key l + (d + 1) := ⟨k - lb key l - 1, by omega⟩
        exact this d _ y hz (by rw [← hd]; exact hy)
      rw [he] at h2
      rw [h1] at h2
      cases h2
    · exact h
    · have := lb_lt h hy
      rw [he, sLt_irrefl] at this
      cases this
  refine ⟨hk, ?_⟩
  unfold foundK
  rw [hk, hy]
  show sEq y.1 key = true
  rw [he]; exact sEq_refl _
theorem found_put {out : List entT.El} (ha : ascS out) (x : entT.El) : foundK x.1 (put1 out x) = true := (lb_eq (put1_asc ha x) (put1_at x) rfl).2
theorem good_put {m : Int} {d : List entT.El} {x : entT.El} (h : (chB m d).2 = 0) (hx : errX x = 0) (hf : foundK x.1 d = true ∨ (d.length : Int) ≠ m) : (chB m (put1 d x)).2 = 0 := by
  obtain ⟨a1, a2, a3, a4, a5⟩ := chB_zero h
  refine chB_good a1 a2 ?_ (put1_asc a4 x) (fun y hy => ?_)
  · have := put1_len (out := d) (x := x)
    split at this
    · omega
    · rename_i hn
      have := hf.resolve_left hn
      omega
  · rcases put1_mem hy with rfl | hy
    · exact hx
    · exact a5 y hy
theorem bt_one {m : Int} {d : List entT.El} {x : entT.El} (h : (chB m d).2 = 0) (hx : errX x = 0) (hf : foundK x.1 d = true ∨ (d.length : Int) ≠ m) : bt m d [x] = (m, put1 d x, wk1 d x, 0) := by
  have he : asE m d [x] = 0 := by
    rw [asE, if_neg (by simpa using h), if_neg (by simp)]
    simp [errGo, hx]
  have hw : wrGo m [x] d 0 = (put1 d x, wk1 d x, true) := by
    rw [wrGo]
    split
    · rw [wrGo, Int.zero_add]
    · rename_i hn
      rw [if_neg (hf.resolve_left hn), wrGo, Int.zero_add]
  rw [bt, if_neg (by simp [he]), hw]
  rfl
theorem wk1_pos {m : Int} {d : List entT.El} {x : entT.El} (h : (chB m d).2 = 0) (hf : foundK x.1 d = true ∨ (d.length : Int) ≠ m) : 1 ≤ wk1 d x ∧ wk1 d x ≤ m := by
  obtain ⟨a1, a2, a3, a4, a5⟩ := chB_zero h
  have hle := lb_le x.1 d
  unfold wk1
  split
  · rename_i hk
    obtain ⟨y, hy, _⟩ := foundK_lt hk
    have := (List.getElem?_eq_some_iff.1 hy).1
    omega
  · rename_i hn
    have := hf.resolve_left hn
    omega
theorem wr_next {m : Int} {l out : List entT.El} {w : Int} {i : Nat} {x : entT.El} (hx : l[i]? = some x) (hfit : (wrGo m (l.drop i) out w).2.2 = true) : (foundK x.1 out = true ∨ (out.length : Int) ≠ m) ∧ wrGo m (l.drop i) out w = wrGo m (l.drop (i + 1)) (put1 out x) (w + wk1 out x) := by
  have hs := wr_step (m := m) (out := out) (w := w) hx
  by_cases hf : foundK x.1 out = true
  · rw [if_pos hf] at hs
    exact ⟨.inl hf, hs⟩
  · rw [if_neg hf] at hs
    by_cases hm : (out.length : Int) = m
    · rw [if_pos hm] at hs
      rw [hs] at hfit
      cases hfit
    · rw [if_neg hm] at hs
      exact ⟨.inr hm, hs⟩
theorem bt_zero {m : Int} {b l : List entT.El} (h : (bt m b l).2.2.2 = 0) : asE m b l = 0 ∧ (wrGo m l b 0).2.2 = true ∧ bt m b l = (m, (wrGo m l b 0).1, (wrGo m l b 0).2.1, 0) := by
  unfold bt at h ⊢
  split
  · rename_i he
    rw [if_pos he] at h
    exact absurd h he
  · rename_i he
    rw [if_neg he] at h
    split
    · rename_i hf
      rw [if_pos hf] at h
      cases h
    · rename_i hf
      exact ⟨by simpa using he, by simpa using hf, rfl⟩
theorem gtE_good {m : Int} {d : List entT.El} {x : entT.El} (h : (chB m d).2 = 0) (hx : errX x = 0) : gtE m d x.1 = if foundK x.1 d = true then 0 else 4 := by
  have hk : ¬ 32 < (x.1.size : Int) := fun hk => by simp [errX, errE, hk] at hx
  rw [gtE, if_neg (by simpa using h), if_neg hk]
theorem hp3 {a b : AObj} {T : TypeId} {x y : Int} {l k : List entT.El} (h : x = y) (h2 : l = k) : [a, b, AObj.cells T [.int .i64 x, .lst entT l]] = [a, b, .cells T [.int .i64 y, .lst entT k]] := by rw [h, h2]
theorem fnOk_lWo : FnOk Try.prog 8 Try.f8 := ⟨by rfl, by kernel_rfl, by
  show okCode _ _ = true ∧ drawsOk _ = true
  exact ⟨by kernel_rfl, by kernel_rfl⟩⟩
noncomputable def lWo_C : Cx := ⟨tb, [], [(11, spShown), (10, spLong), (24, spChB), (14, spBatch), (17, spWr1), (26, spGet), (16, spBSame)]⟩
theorem lWo_D : SpecsOk Try.prog lWo_C.specs := .cons shown_ok (.cons lLong_ok (.cons bChk_ok (.cons bBatch_ok (.cons bWr1_ok (.cons bGet_ok (.cons rSame_ok .nil))))))
theorem lWo_F : FnsOk Try.prog lWo_C.fns := FnsOk.nil
abbrev lWo_N : Nat := 0
abbrev lWo_T : List Ty := [bufT, .sl entT]
abbrev lWo_FN := fnOk_lWo
set_option maxRecDepth 100000 in
set_option maxHeartbeats 8000000 in
theorem lWo' (m : Int) (b l : List entT.El) : bodyA lWo_C (callN lWo_C lWo_N) Try.f8 [.agg [.int .i64 m, .lst entT b], .lst entT l] [] (fun v _ => v = .bool true) := by
  by_cases h1 : longL l = true
  · conv => whnf
    repeat' first
      | (refine br_true (by first | with_reducible exact rfl | assumption | decide) ?_; conv => whnf)
      | (refine br_false (by first | with_reducible exact rfl | assumption | decide) ?_; conv => whnf)
      | ((with_reducible refine br_kt (by assumption) ?_); conv => whnf)
      | ((with_reducible refine br_kf (by assumption) ?_); conv => whnf)
      | ((with_reducible refine br_nt (by assumption) ?_); conv => whnf)
      | ((with_reducible refine br_nf (by assumption) ?_); conv => whnf)
      | ((with_reducible refine br_et (by assumption) ?_); conv => whnf)
      | ((with_reducible refine br_ef (by assumption) ?_); conv => whnf)
      | ((with_reducible refine br_dec (fun h => ?_) (fun h => ?_)) <;> first | (exfalso; omega) | conv => whnf)
      | ((with_reducible refine br_ndec (fun h => ?_) (fun h => ?_)) <;> first | (exfalso; omega) | conv => whnf)
      | ((with_reducible refine br_ne (fun h => ?_) (fun h => ?_)) <;> first | (exfalso; omega) | conv => whnf)
      | ((with_reducible refine br_eq (fun h => ?_) (fun h => ?_)) <;> first | (exfalso; omega) | conv => whnf)
      | (refine br_intro (fun h => ?_) (fun h => ?_) <;> conv => whnf)
      | (refine need_in (by first | exact trivial | assumption | exact ⟨rfl, Nat.le_refl _⟩ | exact ⟨rfl, rfl⟩ | (simp only [inR]; omega) | omega | (simp only [roomP, true_and, and_true, List.length_take, List.length_drop, List.length_append, List.length_cons, List.length_nil, List.length_set, List.length_replicate]; omega) | (refine ⟨by first | exact trivial | rfl, by first | exact Nat.le_refl _ | omega, ?_⟩; change roomP _ _ 1; simp only [roomP]; omega) | (change roomP _ _ 1; simp only [roomP]; omega) | (simp; omega) | (simp [inR]; omega) | (simp [inR]; done) | decide | (simp; done)) ?_; conv => whnf)
      | (refine idx_nat (by omega) (fun x hx => ?_); conv => whnf)
      | (refine frz_auto ?_; conv => whnf)
      | (refine draw_plain ?_; conv => whnf)
      | (refine idx_intro (by omega) (by omega) (fun x hx => ?_); conv => whnf)
      | (refine idx_intro (by first | omega | (simp; omega) | (simp; done)) (by first | omega | (simp; omega) | (simp; done)) (fun x hx => ?_); conv => whnf)
      | fail
  · have h1 : longL l = false := by simpa using h1
    have hl := longL_len h1
    by_cases h2 : (chB m b).2 = 0
    · by_cases h3 : (bt m b l).2.2.2 = 0
      · obtain ⟨he, hfit, hbt⟩ := bt_zero h3
        obtain ⟨a1, a2, a3, a4, a5⟩ := chB_zero h2
        have hlen := bt_len m b l
        conv => whnf
        repeat' first
          | (refine br_true (by first | with_reducible exact rfl | assumption | decide) ?_; conv => whnf)
          | (refine br_false (by first | with_reducible exact rfl | assumption | decide) ?_; conv => whnf)
          | ((with_reducible refine br_kt (by assumption) ?_); conv => whnf)
          | ((with_reducible refine br_kf (by assumption) ?_); conv => whnf)
          | ((with_reducible refine br_nt (by assumption) ?_); conv => whnf)
          | ((with_reducible refine br_nf (by assumption) ?_); conv => whnf)
          | ((with_reducible refine br_et (by assumption) ?_); conv => whnf)
          | ((with_reducible refine br_ef (by assumption) ?_); conv => whnf)
          | ((with_reducible refine br_dec (fun h => ?_) (fun h => ?_)) <;> first | (exfalso; omega) | conv => whnf)
          | ((with_reducible refine br_ndec (fun h => ?_) (fun h => ?_)) <;> first | (exfalso; omega) | conv => whnf)
          | ((with_reducible refine br_ne (fun h => ?_) (fun h => ?_)) <;> first | (exfalso; omega) | conv => whnf)
          | ((with_reducible refine br_eq (fun h => ?_) (fun h => ?_)) <;> first | (exfalso; omega) | conv => whnf)
          | (refine br_intro (fun h => ?_) (fun h => ?_) <;> conv => whnf)
          | (refine need_in (by first | exact trivial | assumption | exact ⟨rfl, Nat.le_refl _⟩ | exact ⟨rfl, rfl⟩ | (simp only [inR]; omega) | omega | (simp only [roomP, true_and, and_true, List.length_take, List.length_drop, List.length_append, List.length_cons, List.length_nil, List.length_set, List.length_replicate]; omega) | (refine ⟨by first | exact trivial | rfl, by first | exact Nat.le_refl _ | omega, ?_⟩; change roomP _ _ 1; simp only [roomP]; omega) | (change roomP _ _ 1; simp only [roomP]; omega) | (simp; omega) | (simp [inR]; omega) | (simp [inR]; done) | decide | (simp; done)) ?_; conv => whnf)
          | (refine idx_nat (by omega) (fun x hx => ?_); conv => whnf)
          | (refine frz_auto ?_; conv => whnf)
          | (refine draw_plain ?_; conv => whnf)
          | (refine idx_intro (by omega) (by omega) (fun x hx => ?_); conv => whnf)
          | (refine idx_intro (by first | omega | (simp; omega) | (simp; done)) (by first | omega | (simp; omega) | (simp; done)) (fun x hx => ?_); conv => whnf)
          | fail
        refine loop_inv [] [11, 12] (fun vs h => ∃ (i : Nat) (d : List entT.El) (w : Int), vs = [.int .i64 w, .int .i64 (i : Int)] ∧ h = [.cells 24 [.int .i64 m, .lst entT b], .cells 24 [.int .i64 (bt m b l).1, .lst entT (bt m b l).2.1], .cells 24 [.int .i64 m, .lst entT d]] ∧ i ≤ l.length ∧ (chB m d).2 = 0 ∧ 0 ≤ w ∧ w ≤ 100 * i ∧ wrGo m (l.drop i) d w = wrGo m l b 0) (fun vs _ => match vs with | [_, .int _ k] => l.length - k.toNat | _ => 0) ?_
        refine ⟨⟨0, b, 0, rfl, rfl, Nat.zero_le _, h2, by omega, by omega, rfl⟩, ?_⟩
        rintro vs h' - ⟨i, d, w, rfl, rfl, hi, hd, hw1, hw2, hgo⟩
        by_cases hil : i < l.length
        · obtain ⟨y, hy⟩ : ∃ y, l[i]? = some y := ⟨_, List.getElem?_eq_getElem hil⟩
          obtain ⟨hf, hstep⟩ := wr_next hy (by rw [hgo]; exact hfit)
          have hye : errX y = 0 := errGo_nil (asE_zero he).2.2 y (List.mem_of_getElem? hy)
          have hgood := good_put hd hye hf
          have hone : bt m d [mkE y.1 y.2.1 y.2.2.1 y.2.2.2.1] = (m, put1 d y, wk1 d y, 0) := bt_one hd hye hf
          have htwo : bt m (put1 d y) [mkE y.1 y.2.1 y.2.2.1 y.2.2.2.1] = (m, put1 (put1 d y) y, wk1 (put1 d y) y, 0) := bt_one hgood hye (.inl (found_put (chB_zero hd).2.2.2.1 y))
          have hw := wk1_pos hd hf
          have hw' := wk1_pos hgood (.inl (found_put (chB_zero hd).2.2.2.1 y))
          have hlp := put1_len (out := d) (x := y)
          have hget := gtE_good (x := y) hd hye
          have r1 : (bt m d [mkE y.1 y.2.1 y.2.2.1 y.2.2.2.1]).1 = m := by rw [hone]
          have r2 : (bt m d [mkE y.1 y.2.1 y.2.2.1 y.2.2.2.1]).2.1 = put1 d y := by rw [hone]
          have r3 : (bt m d [mkE y.1 y.2.1 y.2.2.1 y.2.2.2.1]).2.2.1 = wk1 d y := by rw [hone]
          have r4 : (bt m d [mkE y.1 y.2.1 y.2.2.1 y.2.2.2.1]).2.2.2 = 0 := by rw [hone]
          have r5 : (bt (bt m d [mkE y.1 y.2.1 y.2.2.1 y.2.2.2.1]).1 (bt m d [mkE y.1 y.2.1 y.2.2.1 y.2.2.2.1]).2.1 [mkE y.1 y.2.1 y.2.2.1 y.2.2.2.1]).2.2.1 = wk1 (put1 d y) y := by rw [r1, r2, htwo]
          have r6 : (bt (bt m d [mkE y.1 y.2.1 y.2.2.1 y.2.2.2.1]).1 (bt m d [mkE y.1 y.2.1 y.2.2.1 y.2.2.2.1]).2.1 [mkE y.1 y.2.1 y.2.2.1 y.2.2.2.1]).2.2.2 = 0 := by rw [r1, r2, htwo]
          clear hone htwo
          conv => whnf
          repeat' first
            | (refine idx_kn (by assumption) ?_; conv => whnf)
            | (refine br_true (by first | with_reducible exact rfl | assumption | decide) ?_; conv => whnf)
            | (refine br_false (by first | with_reducible exact rfl | assumption | decide) ?_; conv => whnf)
            | ((with_reducible refine br_kt (by assumption) ?_); conv => whnf)
            | ((with_reducible refine br_kf (by assumption) ?_); conv => whnf)
            | ((with_reducible refine br_nt (by assumption) ?_); conv => whnf)
            | ((with_reducible refine br_nf (by assumption) ?_); conv => whnf)
            | ((with_reducible refine br_et (by assumption) ?_); conv => whnf)
            | ((with_reducible refine br_ef (by assumption) ?_); conv => whnf)
            | ((with_reducible refine br_dec (fun h => ?_) (fun h => ?_)) <;> first | (exfalso; omega) | conv => whnf)
            | ((with_reducible refine br_ndec (fun h => ?_) (fun h => ?_)) <;> first | (exfalso; omega) | conv => whnf)
            | ((with_reducible refine br_ne (fun h => ?_) (fun h => ?_)) <;> first | (exfalso; omega) | conv => whnf)
            | ((with_reducible refine br_eq (fun h => ?_) (fun h => ?_)) <;> first | (exfalso; omega) | conv => whnf)
            | (refine br_intro (fun h => ?_) (fun h => ?_) <;> conv => whnf)
            | (refine need_in (by first | exact trivial | assumption | exact ⟨rfl, Nat.le_refl _⟩ | exact ⟨rfl, rfl⟩ | (simp only [inR]; omega) | omega | (simp only [roomP, true_and, and_true, List.length_take, List.length_drop, List.length_append, List.length_cons, List.length_nil, List.length_set, List.length_replicate]; omega) | (refine ⟨by first | exact trivial | rfl, by first | exact Nat.le_refl _ | omega, ?_⟩; change roomP _ _ 1; simp only [roomP]; omega) | (change roomP _ _ 1; simp only [roomP]; omega) | (simp; omega) | (simp [inR]; omega) | (simp [inR]; done) | decide | (simp; done)) ?_; conv => whnf)
            | (refine idx_nat (by omega) (fun x hx => ?_); conv => whnf)
            | (refine frz_auto ?_; conv => whnf)
            | (refine draw_plain ?_; conv => whnf)
            | (refine idx_intro (by omega) (by omega) (fun x hx => ?_); conv => whnf)
            | (refine idx_intro (by first | omega | (simp; omega) | (simp; done)) (by first | omega | (simp; omega) | (simp; done)) (fun x hx => ?_); conv => whnf)
            | fail
          all_goals first
            | (refine back_intro (by conv => whnf) rfl ⟨i + 1, put1 d y, w + wk1 d y, two_int (by rw [r3]) rfl, hp3 r1 r2, by omega, hgood, by omega, by omega, hstep.symm.trans hgo⟩ ?_
               show l.length - ((i : Int) + 1).toNat < l.length - (i : Int).toNat
               omega)
            | (exfalso; omega)
            | (exfalso; rw [r2] at h; rename_i hz; rw [hget] at hz; split at hz
               · rename_i hk; rw [if_pos hk] at hlp; omega
               · omega)
        · have e : i = l.length := by omega
          rw [e, List.drop_length] at hgo
          have hgo : wrGo m l b 0 = (d, w, true) := hgo.symm
          have q1 : (bt m b l).1 = m := by rw [hbt]
          have q2 : (bt m b l).2.1 = d := by rw [hbt, hgo]
          have q3 : (bt m b l).2.2.1 = w := by rw [hbt, hgo]
          clear hbt
          conv => whnf
          repeat' first
            | (refine br_true (by first | with_reducible exact rfl | assumption | decide) ?_; conv => whnf)
            | (refine br_false (by first | with_reducible exact rfl | assumption | decide) ?_; conv => whnf)
            | ((with_reducible refine br_kt (by assumption) ?_); conv => whnf)
            | ((with_reducible refine br_kf (by assumption) ?_); conv => whnf)
            | ((with_reducible refine br_nt (by assumption) ?_); conv => whnf)
            | ((with_reducible refine br_nf (by assumption) ?_); conv => whnf)
            | ((with_reducible refine br_et (by assumption) ?_); conv => whnf)
            | ((with_reducible refine br_ef (by assumption) ?_); conv => whnf)
            | ((with_reducible refine br_dec (fun h => ?_) (fun h => ?_)) <;> first | (exfalso; omega) | conv => whnf)
            | ((with_reducible refine br_ndec (fun h => ?_) (fun h => ?_)) <;> first | (exfalso; omega) | conv => whnf)
            | ((with_reducible refine br_ne (fun h => ?_) (fun h => ?_)) <;> first | (exfalso; omega) | conv => whnf)
            | ((with_reducible refine br_eq (fun h => ?_) (fun h => ?_)) <;> first | (exfalso; omega) | conv => whnf)
            | (refine br_intro (fun h => ?_) (fun h => ?_) <;> conv => whnf)
            | (refine need_in (by first | exact trivial | assumption | exact ⟨rfl, Nat.le_refl _⟩ | exact ⟨rfl, rfl⟩ | (simp only [inR]; omega) | omega | (simp only [roomP, true_and, and_true, List.length_take, List.length_drop, List.length_append, List.length_cons, List.length_nil, List.length_set, List.length_replicate]; omega) | (refine ⟨by first | exact trivial | rfl, by first | exact Nat.le_refl _ | omega, ?_⟩; change roomP _ _ 1; simp only [roomP]; omega) | (change roomP _ _ 1; simp only [roomP]; omega) | (simp; omega) | (simp [inR]; omega) | (simp [inR]; done) | decide | (simp; done)) ?_; conv => whnf)
            | (refine idx_nat (by omega) (fun x hx => ?_); conv => whnf)
            | (refine frz_auto ?_; conv => whnf)
            | (refine draw_plain ?_; conv => whnf)
            | (refine idx_intro (by omega) (by omega) (fun x hx => ?_); conv => whnf)
            | (refine idx_intro (by first | omega | (simp; omega) | (simp; done)) (by first | omega | (simp; omega) | (simp; done)) (fun x hx => ?_); conv => whnf)
            | fail
          · rw [q1, q2, beq_self_eq_true, same_refl] at h
            exact absurd h (by decide)
      · conv => whnf
        repeat' first
          | (refine br_true (by first | with_reducible exact rfl | assumption | decide) ?_; conv => whnf)
          | (refine br_false (by first | with_reducible exact rfl | assumption | decide) ?_; conv => whnf)
          | ((with_reducible refine br_kt (by assumption) ?_); conv => whnf)
          | ((with_reducible refine br_kf (by assumption) ?_); conv => whnf)
          | ((with_reducible refine br_nt (by assumption) ?_); conv => whnf)
          | ((with_reducible refine br_nf (by assumption) ?_); conv => whnf)
          | ((with_reducible refine br_et (by assumption) ?_); conv => whnf)
          | ((with_reducible refine br_ef (by assumption) ?_); conv => whnf)
          | ((with_reducible refine br_dec (fun h => ?_) (fun h => ?_)) <;> first | (exfalso; omega) | conv => whnf)
          | ((with_reducible refine br_ndec (fun h => ?_) (fun h => ?_)) <;> first | (exfalso; omega) | conv => whnf)
          | ((with_reducible refine br_ne (fun h => ?_) (fun h => ?_)) <;> first | (exfalso; omega) | conv => whnf)
          | ((with_reducible refine br_eq (fun h => ?_) (fun h => ?_)) <;> first | (exfalso; omega) | conv => whnf)
          | (refine br_intro (fun h => ?_) (fun h => ?_) <;> conv => whnf)
          | (refine need_in (by first | exact trivial | assumption | exact ⟨rfl, Nat.le_refl _⟩ | exact ⟨rfl, rfl⟩ | (simp only [inR]; omega) | omega | (simp only [roomP, true_and, and_true, List.length_take, List.length_drop, List.length_append, List.length_cons, List.length_nil, List.length_set, List.length_replicate]; omega) | (refine ⟨by first | exact trivial | rfl, by first | exact Nat.le_refl _ | omega, ?_⟩; change roomP _ _ 1; simp only [roomP]; omega) | (change roomP _ _ 1; simp only [roomP]; omega) | (simp; omega) | (simp [inR]; omega) | (simp [inR]; done) | decide | (simp; done)) ?_; conv => whnf)
          | (refine idx_nat (by omega) (fun x hx => ?_); conv => whnf)
          | (refine frz_auto ?_; conv => whnf)
          | (refine draw_plain ?_; conv => whnf)
          | (refine idx_intro (by omega) (by omega) (fun x hx => ?_); conv => whnf)
          | (refine idx_intro (by first | omega | (simp; omega) | (simp; done)) (by first | omega | (simp; omega) | (simp; done)) (fun x hx => ?_); conv => whnf)
          | fail
    · conv => whnf
      repeat' first
        | (refine br_true (by first | with_reducible exact rfl | assumption | decide) ?_; conv => whnf)
        | (refine br_false (by first | with_reducible exact rfl | assumption | decide) ?_; conv => whnf)
        | ((with_reducible refine br_kt (by assumption) ?_); conv => whnf)
        | ((with_reducible refine br_kf (by assumption) ?_); conv => whnf)
        | ((with_reducible refine br_nt (by assumption) ?_); conv => whnf)
        | ((with_reducible refine br_nf (by assumption) ?_); conv => whnf)
        | ((with_reducible refine br_et (by assumption) ?_); conv => whnf)
        | ((with_reducible refine br_ef (by assumption) ?_); conv => whnf)
        | ((with_reducible refine br_dec (fun h => ?_) (fun h => ?_)) <;> first | (exfalso; omega) | conv => whnf)
        | ((with_reducible refine br_ndec (fun h => ?_) (fun h => ?_)) <;> first | (exfalso; omega) | conv => whnf)
        | ((with_reducible refine br_ne (fun h => ?_) (fun h => ?_)) <;> first | (exfalso; omega) | conv => whnf)
        | ((with_reducible refine br_eq (fun h => ?_) (fun h => ?_)) <;> first | (exfalso; omega) | conv => whnf)
        | (refine br_intro (fun h => ?_) (fun h => ?_) <;> conv => whnf)
        | (refine need_in (by first | exact trivial | assumption | exact ⟨rfl, Nat.le_refl _⟩ | exact ⟨rfl, rfl⟩ | (simp only [inR]; omega) | omega | (simp only [roomP, true_and, and_true, List.length_take, List.length_drop, List.length_append, List.length_cons, List.length_nil, List.length_set, List.length_replicate]; omega) | (refine ⟨by first | exact trivial | rfl, by first | exact Nat.le_refl _ | omega, ?_⟩; change roomP _ _ 1; simp only [roomP]; omega) | (change roomP _ _ 1; simp only [roomP]; omega) | (simp; omega) | (simp [inR]; omega) | (simp [inR]; done) | decide | (simp; done)) ?_; conv => whnf)
        | (refine idx_nat (by omega) (fun x hx => ?_); conv => whnf)
        | (refine frz_auto ?_; conv => whnf)
        | (refine draw_plain ?_; conv => whnf)
        | (refine idx_intro (by omega) (by omega) (fun x hx => ?_); conv => whnf)
        | (refine idx_intro (by first | omega | (simp; omega) | (simp; done)) (by first | omega | (simp; omega) | (simp; done)) (fun x hx => ?_); conv => whnf)
        | fail
theorem lWo : ∀ es : Ty.Els lWo_T, tyOks lWo_T es → bodyA lWo_C (callN lWo_C lWo_N) Try.f8 (avTs lWo_T es) [] (fun v _ => v = .bool true) := by
  rintro ⟨⟨m, b, _⟩, l, _⟩ -
  exact lWo' m b l
end Go.Proofs.Ytfnikjihjjniiaa
