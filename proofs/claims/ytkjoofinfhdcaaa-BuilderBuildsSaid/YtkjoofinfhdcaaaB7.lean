/-
  What a builder makes, without the reference.
-/
import Derived.Test.YtkjoofinfhdcaaaB6
namespace Go.Proofs.Ytkjoofinfhdcaaa
open Av Bk

/-- Entries without a fault, ascending. -/
def okL (W : List entT.El) : Prop := (∀ x ∈ W, errX x = 0) ∧ ∀ (k : Nat) (x y : entT.El), W[k]? = some x → W[k + 1]? = some y → sLt x.1 y.1 = true
theorem okL_cl {W : List entT.El} (h : okL W) (hl : W.length ≤ 5000) : clL W = (0, 0) := by
  rw [clL, if_neg (by omega)]
  exact clGo_ok _ _ _ h.1 h.2 (fun x _ => rfl)
theorem okL_nil : okL [] := ⟨by simp, fun k x y h => by simp at h⟩
theorem okL_snoc {W : List entT.El} {x : entT.El} (h : okL W) (hx : errX x = 0) (hl : ∀ y, 0 < W.length → W[W.length - 1]? = some y → sLt y.1 x.1 = true) : okL (W ++ [x]) := by
  refine ⟨fun y hy => ?_, fun k y z hy hz => ?_⟩
  · rcases List.mem_append.1 hy with h1 | h1
    · exact h.1 y h1
    · rw [List.mem_singleton] at h1; subst h1; exact hx
  · have hk := (List.getElem?_eq_some_iff.1 hz).1
    rw [List.length_append, List.length_singleton] at hk
    rw [List.getElem?_append_left (by omega)] at hy
    by_cases h2 : k + 1 < W.length
    · rw [List.getElem?_append_left h2] at hz
      exact h.2 k y z hy hz
    · have : W.length = k + 1 := by omega
      rw [List.getElem?_append_right (by omega), this, Nat.sub_self] at hz
      cases hz
      exact hl y (by omega) (by rw [this]; exact hy)
theorem app_one {W : List entT.El} {c : Nat} (hc : W.length = c) (x : entT.El) : List.take c W ++ List.take 1 [x] = W ++ [x] := by
  rw [← hc, List.take_length]
  rfl
theorem last_idx {W : List entT.El} {c : Nat} {y : entT.El} (h : W[((c : Int) - 1).toNat]? = some y) (h0 : 0 < c) : W[c - 1]? = some y := by
  rw [show ((c : Int) - 1).toNat = c - 1 by omega] at h
  exact h
theorem bheap2 {T U V : TypeId} {r s : AV} {g g' n c : Nat} {l m l' m' : List entT.El} (hn : n = c) (hl : l = m) (hl' : l' = m') : [AObj.cells T [r, .own 2 g n, s], .arr V entT l' false g', .arr U entT l false g] = [.cells T [r, .own 2 g c, s], .arr V entT m' false g', .arr U entT m false g] := by
  subst hn hl hl'
  rfl
theorem fnOk_lBu : FnOk Try.prog 5 Try.f5 := ⟨by rfl, by kernel_rfl, by
  show okCode _ _ = true ∧ drawsOk _ = true
  exact ⟨by kernel_rfl, by kernel_rfl⟩⟩
noncomputable abbrev lBu_C : Cx := ⟨tb, cxB.fns, (22, spCL) :: (23, spSame) :: (10, spAwake) :: cxB.specs⟩
theorem lBu_D : SpecsOk Try.prog lBu_C.specs := .cons refCL_ok (.cons ref03Same_ok (.cons awake_ok specsB))
abbrev lBu_F := fnsB
abbrev lBu_N : Nat := 4
abbrev lBu_T : List Ty := [.int .u8, .sl entT, .int .i64]
abbrev lBu_FN := fnOk_lBu
set_option maxRecDepth 100000 in
set_option maxHeartbeats 8000000 in
theorem lBu' (a : Nat) (l : List entT.El) (id : Int) (h1 : a ≤ 255) : bodyA lBu_C (callN lBu_C lBu_N) Try.f5 [.int .u8 (a : Int), .lst entT l, .int .i64 id] [] (fun v _ => v = .bool true) := by
  conv => whnf
  repeat' first
    | (refine br_true (by first | with_reducible exact rfl | assumption | decide) ?_; conv => whnf)
    | (refine br_false (by first | with_reducible exact rfl | assumption | decide) ?_; conv => whnf)
    | ((with_reducible refine br_kt (by assumption) ?_); conv => whnf)
    | ((with_reducible refine br_kf (by assumption) ?_); conv => whnf)
    | ((with_reducible refine br_nt (by assumption) ?_); conv => whnf)
    | ((with_reducible refine br_nf (by assumption) ?_); conv => whnf)
    | ((with_reducible refine br_et (by assumption) ?_); conv => whnf)
    | ((with_reducible refine br_ef (by assumption) ?_); conv => whnf)
    | ((with_reducible refine br_dec (fun h => ?_) (fun h => ?_)) <;> first | (exfalso; omega) | conv => whnf)
    | ((with_reducible refine br_ndec (fun h => ?_) (fun h => ?_)) <;> first | (exfalso; omega) | conv => whnf)
    | ((with_reducible refine br_ne (fun h => ?_) (fun h => ?_)) <;> first | (exfalso; omega) | conv => whnf)
    | ((with_reducible refine br_eq (fun h => ?_) (fun h => ?_)) <;> first | (exfalso; omega) | conv => whnf)
    | (refine br_intro (fun h => ?_) (fun h => ?_) <;> conv => whnf)
    | (refine need_in (by first | exact trivial | assumption | exact ⟨rfl, Nat.le_refl _⟩ | exact ⟨rfl, rfl⟩ | (simp only [inR]; omega) | omega | (simp only [roomP, true_and, and_true, List.length_take, List.length_drop, List.length_append, List.length_cons, List.length_nil, List.length_set, List.length_replicate]; omega) | (refine ⟨by first | exact trivial | rfl, by first | exact Nat.le_refl _ | omega, ?_⟩; change roomP _ _ 1; simp only [roomP]; omega) | (change roomP _ _ 1; simp only [roomP]; omega) | (simp; omega) | (simp [inR]; omega) | (simp [inR]; done) | (simp; done)) ?_; conv => whnf)
    | (refine idx_nat (by omega) (fun x hx => ?_); conv => whnf)
    | (refine frz_auto ?_; conv => whnf)
    | (refine idx_intro (by omega) (by omega) (fun x hx => ?_); conv => whnf)
    | (refine idx_intro (by first | omega | (simp; omega) | (simp; done)) (by first | omega | (simp; omega) | (simp; done)) (fun x hx => ?_); conv => whnf)
    | fail
  obtain ⟨r, hr, hr2⟩ : ∃ r : Nat, ((a : Int) % 70 + 1) = r ∧ r ≤ 70 := ⟨a % 70 + 1, by omega, by omega⟩
  rw [hr]
  refine loop_inv [.cell 0 1 25 entT] [9, 10] (fun vs h => ∃ (i g g' c : Nat) (W : List entT.El), vs = [.own 1 g' c, .int .i64 (i : Int)] ∧ h = [.cells 65 [.int .i64 (r : Int), .own 2 g c, .int .i64 1], .arr 25 entT W false g', .arr 25 entT W false g] ∧ i ≤ l.length ∧ c ≤ i ∧ c ≤ r ∧ W.length = c ∧ okL W) (fun vs _ => match vs with | [_, .int _ k] => l.length - k.toNat | _ => 0) ?_
  conv => whnf
  refine ⟨⟨0, 0, 0, 0, [], rfl, rfl, Nat.zero_le _, Nat.zero_le _, Nat.zero_le _, rfl, okL_nil⟩, ?_⟩
  rintro vs h' - ⟨i, g, g', c, W, rfl, rfl, hi, hci, hcr, hW, hok⟩
  have ht : List.take c W = W := by rw [← hW]; exact List.take_length
  have hcl : clL (List.take c W) = (0, 0) := by rw [ht]; exact okL_cl hok (by omega)
  have hle : (ofR id (List.take c W)).2.1.length ≤ 4611686018427387904 := by
    have := ofR_len id (List.take c W)
    rw [ht] at this ⊢
    omega
  conv => whnf
  repeat' first
    | (refine br_true (by first | with_reducible exact rfl | assumption | decide) ?_; conv => whnf)
    | (refine br_false (by first | with_reducible exact rfl | assumption | decide) ?_; conv => whnf)
    | ((with_reducible refine br_kt (by assumption) ?_); conv => whnf)
    | ((with_reducible refine br_kf (by assumption) ?_); conv => whnf)
    | ((with_reducible refine br_nt (by assumption) ?_); conv => whnf)
    | ((with_reducible refine br_nf (by assumption) ?_); conv => whnf)
    | ((with_reducible refine br_et (by assumption) ?_); conv => whnf)
    | ((with_reducible refine br_ef (by assumption) ?_); conv => whnf)
    | ((with_reducible refine br_dec (fun h => ?_) (fun h => ?_)) <;> first | (exfalso; omega) | conv => whnf)
    | ((with_reducible refine br_ndec (fun h => ?_) (fun h => ?_)) <;> first | (exfalso; omega) | conv => whnf)
    | ((with_reducible refine br_ne (fun h => ?_) (fun h => ?_)) <;> first | (exfalso; omega) | conv => whnf)
    | ((with_reducible refine br_eq (fun h => ?_) (fun h => ?_)) <;> first | (exfalso; omega) | conv => whnf)
    | (refine br_intro (fun h => ?_) (fun h => ?_) <;> conv => whnf)
    | (refine need_in (by first | exact trivial | assumption | exact ⟨rfl, Nat.le_refl _⟩ | exact ⟨rfl, rfl⟩ | (simp only [inR]; omega) | omega | (simp only [roomP, true_and, and_true, List.length_take, List.length_drop, List.length_append, List.length_cons, List.length_nil, List.length_set, List.length_replicate]; omega) | (refine ⟨by first | exact trivial | rfl, by first | exact Nat.le_refl _ | omega, ?_⟩; change roomP _ _ 1; simp only [roomP]; omega) | (change roomP _ _ 1; simp only [roomP]; omega) | (simp; omega) | (simp [inR]; omega) | (simp [inR]; done) | (simp; done)) ?_; conv => whnf)
    | (refine idx_nat (by omega) (fun x hx => ?_); conv => whnf)
    | (refine frz_auto ?_; conv => whnf)
    | (refine idx_intro (by omega) (by omega) (fun x hx => ?_); conv => whnf)
    | (refine idx_intro (by first | omega | (simp; omega) | (simp; done)) (by first | omega | (simp; omega) | (simp; done)) (fun x hx => ?_); conv => whnf)
    | fail
  all_goals first
    | exact absurd rfl h
    | (refine back_intro (by conv => whnf) rfl ⟨i + 1, g, g', c, W, rfl, rfl, by omega, by omega, hcr, hW, hok⟩ ?_
       show l.length - ((i : Int) + 1).toNat < l.length - (i : Int).toNat
       omega)
    | (rename_i y hy e0 p0 z hz q q2 q3 q4
       obtain rfl := Option.some.inj (hy.symm.trans hx)
       refine back_intro (by conv => whnf) rfl ⟨i + 1, g + 1, g' + 1, c + 1, W ++ [y], rfl, bheap2 rfl (app_one hW y) (app_one hW y), by omega, by omega, by omega, by rw [List.length_append, hW]; rfl, okL_snoc hok e0 (fun w h0 hw => ?_)⟩ ?_
       · have hz := last_idx hz (by omega)
         rw [hW] at hw
         obtain rfl := Option.some.inj (hw.symm.trans hz)
         exact bnf q
       · show l.length - ((i : Int) + 1).toNat < l.length - (i : Int).toNat
         omega)
    | (rename_i y hy e0 p0 q2 q3 q4
       obtain rfl := Option.some.inj (hy.symm.trans hx)
       refine back_intro (by conv => whnf) rfl ⟨i + 1, g + 1, g' + 1, c + 1, W ++ [y], rfl, bheap2 rfl (app_one hW y) (app_one hW y), by omega, by omega, by omega, by rw [List.length_append, hW]; rfl, okL_snoc hok e0 (fun w h0 hw => ?_)⟩ ?_
       · omega
       · show l.length - ((i : Int) + 1).toNat < l.length - (i : Int).toNat
         omega)
    | skip
  all_goals
    have s1 := same_refl (ofR id (List.take c W)).2.1
    have s2 := same_refl (List.take c W)
    have hv : ofR id (List.take c W) = if id < 1 ∨ 1000000 < id then (0, [], 7) else if c = 0 then (0, [], 4) else (id, List.take c W, 0) := by
      rw [ofR, hcl, if_neg (show ¬ ((0 : Int), (0 : Int)).2 ≠ 0 by simp), ht, hW]
    exfalso
    grind
theorem lBu : ∀ es : Ty.Els lBu_T, tyOks lBu_T es → bodyA lBu_C (callN lBu_C lBu_N) Try.f5 (avTs lBu_T es) [] (fun v _ => v = .bool true) := by
  rintro ⟨most, l, id, _⟩ ⟨h1, -⟩
  obtain ⟨a, ha, ha2⟩ : ∃ a : Nat, most = (a : Int) ∧ a ≤ 255 := by
    have h1 : inR .u8 most := h1
    simp only [inR] at h1
    exact ⟨Int.toNat most, (Int.toNat_of_nonneg h1.1).symm, by have := h1.2; omega⟩
  show bodyA _ _ _ [.int .u8 most, .lst entT l, .int .i64 id] [] _
  have := lBu' a l id ha2
  rw [← ha] at this
  exact this
end Go.Proofs.Ytkjoofinfhdcaaa
