/-
  The view of writes.
  The map of the view of writes is the map that the writes lead to: plain Lean.
  What writes lead to: plain Lean.
  The law of the model.
-/
import Derived.Test.YtekkeajcmibbaaaQe
import Derived.Test.YtekkeajcmibbaaaPk
import Derived.Test.YtekkeajcmibbaaaPl
import Derived.Test.YtekkeajcmibbaaaLy
import Derived.Test.YtekkeajcmibbaaaLq
namespace Go.Proofs.Ytekkeajcmibbaaa
open Av Bk

def entO (i : Nat) (x : opT.El) : entT.El := (x.1, x.2.1, x.2.2.1, (i : Int) + 1, ())
def entsO (l : List opT.El) : List entT.El := l.mapIdx entO
theorem entsO_take {l : List opT.El} {i : Nat} {x : opT.El} (hx : l[i]? = some x) : entsO (l.take (i + 1)) = entsO (l.take i) ++ [entO i x] := by
  have hi := (List.getElem?_eq_some_iff.1 hx).1
  unfold entsO
  rw [take_snoc1 hx, List.mapIdx_concat, List.length_take, Nat.min_eq_left (by omega)]
theorem entsO_len (l : List opT.El) : (entsO l).length = l.length := by unfold entsO; rw [List.length_mapIdx]
theorem entsO_get {l : List opT.El} {i : Nat} {x : opT.El} (hx : l[i]? = some x) : (entsO l)[i]? = some (entO i x) := by
  unfold entsO; rw [List.getElem?_mapIdx, hx]; rfl
def okO (l : List opT.El) : Bool := (entsO l).all (fun x => errX x == 0)
def nwL (l : List entT.El) : List entT.El := (nwF false (sortX l)).1
def cutN (cuts : List Int) (i n : Nat) : Nat := min (match cuts[i]? with | some c => (c % 7).toNat + 1 | none => 7) n
def vwC (cuts : List Int) (i n : Nat) : Prop := (i < cuts.length ∧ 0 < n) ∨ 16 < n
instance (cuts : List Int) (i n : Nat) : Decidable (vwC cuts i n) := inferInstanceAs (Decidable (_ ∨ _))
def vwGo (cuts : List Int) : Nat → Nat → List entT.El → List runT.El → List entT.El × List runT.El
  | 0, _, all, rs => (all, rs)
  | f + 1, i, all, rs => if vwC cuts i all.length then vwGo cuts f (i + 1) (all.drop (cutN cuts i all.length)) (((i : Int) + 1, nwL (all.take (cutN cuts i all.length)), ()) :: rs) else (all, rs)
theorem vw_end {cuts : List Int} {f i : Nat} {all : List entT.El} {rs : List runT.El} (h : ¬ vwC cuts i all.length) : vwGo cuts f i all rs = (all, rs) := by
  cases f with
  | zero => rfl
  | succ f => rw [vwGo, if_neg h]
theorem vw_step {cuts : List Int} {f i : Nat} {all : List entT.El} {rs : List runT.El} (h : vwC cuts i all.length) (hf : all.length ≤ f) : ∃ f', f = f' + 1 ∧ vwGo cuts f i all rs = vwGo cuts f' (i + 1) (all.drop (cutN cuts i all.length)) (((i : Int) + 1, nwL (all.take (cutN cuts i all.length)), ()) :: rs) := by
  have hpos : 0 < all.length := by rcases h with h | h <;> omega
  obtain ⟨f', rfl⟩ : ∃ f', f = f' + 1 := ⟨f - 1, by omega⟩
  exact ⟨f', rfl, by rw [vwGo, if_pos h]⟩
theorem cutN_pos {cuts : List Int} {i n : Nat} (h : 0 < n) : 0 < cutN cuts i n ∧ cutN cuts i n ≤ n := by
  unfold cutN
  refine ⟨?_, Nat.min_le_right _ _⟩
  split <;> omega
def vwA (l : List opT.El) (cuts : List Int) : List entT.El × List runT.El := vwGo cuts (entsO l).length 0 (entsO l) []
def viewV (l : List opT.El) (cuts : List Int) : List entT.El × List runT.El × Bool := if okO l = true then (nwL (vwA l cuts).1, (vwA l cuts).2, decide ((vwA l cuts).2.length ≤ 20)) else ([], [], false)
theorem errGo_ok : ∀ {l : List entT.El}, (∀ x ∈ l, errX x = 0) → errGo l = 0
  | [], _ => rfl
  | x :: l, h => by
    have h1 := h x (by simp)
    have h2 := errGo_ok (l := l) (fun y hy => h y (by simp [hy]))
    rw [errGo, if_pos h1, h2]
theorem errAll_ok {l : List entT.El} (h : ∀ x ∈ l, errX x = 0) (hl : l.length ≤ 5000) : errAll l = 0 := by
  unfold errAll
  rw [if_neg (by omega)]
  exact errGo_ok h
theorem heap_n1 {a : AObj} {T : TypeId} {t : Ty} {g : Nat} {l m : List t.El} (hl : l = m) : [a, .arr T t l false g] = [a, AObj.arr T t m false g] := by rw [hl]
theorem lst_in0 {t : Ty} {A W : List t.El} (h : A = W) : [AV.lst t A, AV.int .i64 0] = [AV.lst t W, AV.int .i64 ((0 : Nat) : Int)] := by rw [h]; rfl
theorem vs_eq {t : Ty} {A W : List t.El} {a b : Int} (h : A = W) (h2 : a = b) : [AV.lst t A, AV.int .i64 a] = [AV.lst t W, AV.int .i64 b] := by rw [h, h2]
theorem heap_cc {a b d : AObj} {z : AV} {T : TypeId} {t : Ty} {l m : List t.El} (hl : l = m) : [a, b, .cells T [z, .lst t l], d] = [a, b, AObj.cells T [z, .lst t m], d] := by rw [hl]
theorem view_eq {A B : List entT.El} {R : List runT.El} {x y : Bool} (h : A = B) (h2 : x = y) : AV.tup [.agg [.lst entT A, .lst runT R], .bool x] = AV.tup [.agg [.lst entT B, .lst runT R], .bool y] := by rw [h, h2]
def spView : DSpec
  | [.lst (.st [.str, .str, .bool]) l, .lst (.int .u8) cuts] => some (l.length ≤ 1000 ∧ cuts.length ≤ 1000 ∧ ∀ c ∈ cuts, (0 : Int) ≤ c, .tup [.agg [.lst entT (viewV l cuts).1, .lst runT (viewV l cuts).2.1], .bool (viewV l cuts).2.2])
  | _ => none
set_option maxRecDepth 100000 in
theorem fnOk_lwView : FnOk Try.prog 23 Try.f23 := ⟨by rfl, by kernel_rfl, by
  show okCode _ _ = true ∧ drawsOk _ = true
  exact ⟨by kernel_rfl, by kernel_rfl⟩⟩
noncomputable def cqf1 : Cx := ⟨tb, [], [(32, spCheck), (54, spNewest)]⟩
theorem spqf1 : SpecsOk Try.prog cqf1.specs := .cons refCheck_ok (.cons refNewest_ok .nil)
set_option maxRecDepth 100000 in
set_option maxHeartbeats 4000000 in
theorem lwView_ok : SpecOk Try.prog 23 spView := by
  refine spec_body (C := cqf1) mixed tbOk spqf1 (callN_ok (C := cqf1) mixed tbOk spqf1 FnsOk.nil 3) fnOk_lwView ?_
  intro ys p r h hp
  unfold spView at h
  split at h
  · rename_i l cuts
    cases h
    obtain ⟨hl, hcu, hc0⟩ := hp
    conv => whnf
    repeat' first
      | ((first | refine idx_kn (by assumption) ?_ | refine idx_ki (by assumption) (by omega) ?_ | refine br_true (by first | with_reducible exact rfl | assumption | decide) ?_ | refine br_false (by first | with_reducible exact rfl | assumption | decide) ?_ | with_reducible first | refine br_kt (by assumption) ?_ | refine br_kf (by assumption) ?_ | refine br_nt (by assumption) ?_ | refine br_nf (by assumption) ?_ | refine br_et (by assumption) ?_ | refine br_ef (by assumption) ?_); conv => whnf)
      | ((with_reducible first | refine br_dec (fun h => ?_) (fun h => ?_) | refine br_ndec (fun h => ?_) (fun h => ?_) | refine br_ne (fun h => ?_) (fun h => ?_) | refine br_eq (fun h => ?_) (fun h => ?_)) <;> first | (exfalso; omega) | conv => whnf)
      | (refine br_intro (fun h => ?_) (fun h => ?_) <;> conv => whnf)
      | ((first | refine need_in (by first | exact trivial | assumption | exact ⟨rfl, Nat.le_refl _⟩ | exact ⟨rfl, rfl⟩ | (simp only [inR]; omega) | omega | (simp only [roomP, true_and, and_true, List.length_take, List.length_drop, List.length_append, List.length_cons, List.length_nil, List.length_set, List.length_replicate]; omega) | (refine ⟨by first | exact trivial | rfl, by first | exact Nat.le_refl _ | omega | (simp; omega), ?_⟩; change roomP _ _ 1; simp only [roomP]; omega) | (change roomP _ _ 1; simp only [roomP]; omega) | (simp; omega) | (simp [inR]; omega) | (simp [inR]; done) | decide | (simp; done)) ?_ | refine idx_nat (by omega) (fun x hx => ?_) | refine frz_auto ?_ | refine draw_plain ?_ | refine idx_intro (by first | omega | (simp; omega) | (simp; done)) (by first | omega | (simp; omega) | (simp; done)) (fun x hx => ?_)); conv => whnf)
    refine loop_inv [] [6, 7] (fun vs h => ∃ i g : Nat, vs = [.own 1 g i, .int .i64 (i : Int)] ∧ h = [.cells 25 [.zsl entT, .zsl runT], .arr 29 entT (entsO (l.take i)) false g] ∧ i ≤ l.length ∧ ∀ y ∈ entsO (l.take i), errX y = 0) (fun vs _ => match vs with | [_, .int _ k] => l.length - k.toNat | _ => 0) ?_
    conv => whnf
    refine ⟨⟨0, 0, rfl, rfl, by omega, by simp [entsO]⟩, ?_⟩
    rintro vs h' - ⟨i, g, rfl, rfl, hi, hall⟩
    have hel : (entsO (l.take i)).length = i := by rw [entsO_len, List.length_take]; omega
    by_cases hil : i < l.length
    · obtain ⟨⟨k, v, d, u⟩, hx⟩ : ∃ x, l[i]? = some x := ⟨_, List.getElem?_eq_getElem hil⟩
      have htk := entsO_take hx
      by_cases he : errE k v d ((i : Int) + 1) = 0
      · conv => whnf
        repeat' first
          | ((first | refine idx_kn (by assumption) ?_ | refine idx_ki (by assumption) (by omega) ?_ | refine br_true (by first | with_reducible exact rfl | assumption | decide) ?_ | refine br_false (by first | with_reducible exact rfl | assumption | decide) ?_ | with_reducible first | refine br_kt (by assumption) ?_ | refine br_kf (by assumption) ?_ | refine br_nt (by assumption) ?_ | refine br_nf (by assumption) ?_ | refine br_et (by assumption) ?_ | refine br_ef (by assumption) ?_); conv => whnf)
          | ((with_reducible first | refine br_dec (fun h => ?_) (fun h => ?_) | refine br_ndec (fun h => ?_) (fun h => ?_) | refine br_ne (fun h => ?_) (fun h => ?_) | refine br_eq (fun h => ?_) (fun h => ?_)) <;> first | (exfalso; omega) | conv => whnf)
          | (refine br_intro (fun h => ?_) (fun h => ?_) <;> conv => whnf)
          | ((first | refine need_in (by first | exact trivial | assumption | exact ⟨rfl, Nat.le_refl _⟩ | exact ⟨rfl, rfl⟩ | (simp only [inR]; omega) | omega | (simp only [roomP, true_and, and_true, List.length_take, List.length_drop, List.length_append, List.length_cons, List.length_nil, List.length_set, List.length_replicate]; omega) | (refine ⟨by first | exact trivial | rfl, by first | exact Nat.le_refl _ | omega | (simp; omega), ?_⟩; change roomP _ _ 1; simp only [roomP]; omega) | (change roomP _ _ 1; simp only [roomP]; omega) | (simp; omega) | (simp [inR]; omega) | (simp [inR]; done) | decide | (simp; done)) ?_ | refine idx_nat (by omega) (fun x hx => ?_) | refine frz_auto ?_ | refine draw_plain ?_ | refine idx_intro (by first | omega | (simp; omega) | (simp; done)) (by first | omega | (simp; omega) | (simp; done)) (fun x hx => ?_)); conv => whnf)
        refine back_intro (by conv => whnf) rfl ⟨i + 1, g + 1, rfl, heap_n1 ?_, by omega, ?_⟩ ?_
        · rw [htk, List.take_of_length_le (l := entsO (l.take i)) (by omega)]; rfl
        · intro y hy
          rw [htk] at hy
          rcases List.mem_append.1 hy with hy | hy
          · exact hall y hy
          · rw [List.mem_singleton] at hy
            rw [hy]; exact he
        · show l.length - ((i : Int) + 1).toNat < l.length - (i : Int).toNat
          omega
      · have hok : okO l = false := by
          cases hc : okO l with
          | false => rfl
          | true =>
            have := List.all_eq_true.1 hc _ (List.mem_of_getElem? (entsO_get hx))
            exact absurd (show errX (entO i (k, v, d, u)) = 0 by simpa using this) he
        have hvw : viewV l cuts = ([], [], false) := by unfold viewV; rw [hok]; rfl
        conv => whnf
        repeat' first
          | ((first | refine idx_kn (by assumption) ?_ | refine idx_ki (by assumption) (by omega) ?_ | refine br_true (by first | with_reducible exact rfl | assumption | decide) ?_ | refine br_false (by first | with_reducible exact rfl | assumption | decide) ?_ | with_reducible first | refine br_kt (by assumption) ?_ | refine br_kf (by assumption) ?_ | refine br_nt (by assumption) ?_ | refine br_nf (by assumption) ?_ | refine br_et (by assumption) ?_ | refine br_ef (by assumption) ?_); conv => whnf)
          | ((with_reducible first | refine br_dec (fun h => ?_) (fun h => ?_) | refine br_ndec (fun h => ?_) (fun h => ?_) | refine br_ne (fun h => ?_) (fun h => ?_) | refine br_eq (fun h => ?_) (fun h => ?_)) <;> first | (exfalso; omega) | conv => whnf)
          | (refine br_intro (fun h => ?_) (fun h => ?_) <;> conv => whnf)
          | ((first | refine need_in (by first | exact trivial | assumption | exact ⟨rfl, Nat.le_refl _⟩ | exact ⟨rfl, rfl⟩ | (simp only [inR]; omega) | omega | (simp only [roomP, true_and, and_true, List.length_take, List.length_drop, List.length_append, List.length_cons, List.length_nil, List.length_set, List.length_replicate]; omega) | (refine ⟨by first | exact trivial | rfl, by first | exact Nat.le_refl _ | omega | (simp; omega), ?_⟩; change roomP _ _ 1; simp only [roomP]; omega) | (change roomP _ _ 1; simp only [roomP]; omega) | (simp; omega) | (simp [inR]; omega) | (simp [inR]; done) | decide | (simp; done)) ?_ | refine idx_nat (by omega) (fun x hx => ?_) | refine frz_auto ?_ | refine draw_plain ?_ | refine idx_intro (by first | omega | (simp; omega) | (simp; done)) (by first | omega | (simp; omega) | (simp; done)) (fun x hx => ?_)); conv => whnf)
        rw [hvw]
    · have hie : i = l.length := by omega
      subst hie
      rw [List.take_length] at hall hel
      have hok : okO l = true := List.all_eq_true.2 (fun x hx => by simpa using hall x hx)
      have hvw : viewV l cuts = (nwL (vwA l cuts).1, (vwA l cuts).2, decide ((vwA l cuts).2.length ≤ 20)) := by unfold viewV; rw [hok]; rfl
      conv => whnf
      repeat' first
        | ((first | refine idx_kn (by assumption) ?_ | refine idx_ki (by assumption) (by omega) ?_ | refine br_true (by first | with_reducible exact rfl | assumption | decide) ?_ | refine br_false (by first | with_reducible exact rfl | assumption | decide) ?_ | with_reducible first | refine br_kt (by assumption) ?_ | refine br_kf (by assumption) ?_ | refine br_nt (by assumption) ?_ | refine br_nf (by assumption) ?_ | refine br_et (by assumption) ?_ | refine br_ef (by assumption) ?_); conv => whnf)
        | ((with_reducible first | refine br_dec (fun h => ?_) (fun h => ?_) | refine br_ndec (fun h => ?_) (fun h => ?_) | refine br_ne (fun h => ?_) (fun h => ?_) | refine br_eq (fun h => ?_) (fun h => ?_)) <;> first | (exfalso; omega) | conv => whnf)
        | (refine br_intro (fun h => ?_) (fun h => ?_) <;> conv => whnf)
        | ((first | refine need_in (by first | exact trivial | assumption | exact ⟨rfl, Nat.le_refl _⟩ | exact ⟨rfl, rfl⟩ | (simp only [inR]; omega) | omega | (simp only [roomP, true_and, and_true, List.length_take, List.length_drop, List.length_append, List.length_cons, List.length_nil, List.length_set, List.length_replicate]; omega) | (refine ⟨by first | exact trivial | rfl, by first | exact Nat.le_refl _ | omega | (simp; omega), ?_⟩; change roomP _ _ 1; simp only [roomP]; omega) | (change roomP _ _ 1; simp only [roomP]; omega) | (simp; omega) | (simp [inR]; omega) | (simp [inR]; done) | decide | (simp; done)) ?_ | refine idx_nat (by omega) (fun x hx => ?_) | refine frz_auto ?_ | refine draw_plain ?_ | refine idx_intro (by first | omega | (simp; omega) | (simp; done)) (by first | omega | (simp; omega) | (simp; done)) (fun x hx => ?_)); conv => whnf)
      refine loop_inv [.lst 6 entT, .cell 2 1 62 runT, .frz 3 [] [(2, 1)]] [6, 10] (fun vs h => ∃ (rest : List entT.El) (rs : List runT.El) (f : Nat), vs = [.lst entT rest, .int .i64 (rs.length : Int)] ∧ h = [.cells 25 [.zsl entT, .zsl runT], .dead, .cells 25 [.zsl entT, .lst runT rs], .dead] ∧ rest.length ≤ f ∧ vwA l cuts = vwGo cuts f rs.length rest rs ∧ (∀ y ∈ rest, errX y = 0) ∧ rs.length + rest.length ≤ l.length) (fun vs _ => match vs with | [.lst _ r, _] => r.length | _ => 0) ?_
      conv => whnf
      repeat' first
        | ((first | refine idx_kn (by assumption) ?_ | refine idx_ki (by assumption) (by omega) ?_ | refine br_true (by first | with_reducible exact rfl | assumption | decide) ?_ | refine br_false (by first | with_reducible exact rfl | assumption | decide) ?_ | with_reducible first | refine br_kt (by assumption) ?_ | refine br_kf (by assumption) ?_ | refine br_nt (by assumption) ?_ | refine br_nf (by assumption) ?_ | refine br_et (by assumption) ?_ | refine br_ef (by assumption) ?_); conv => whnf)
        | ((with_reducible first | refine br_dec (fun h => ?_) (fun h => ?_) | refine br_ndec (fun h => ?_) (fun h => ?_) | refine br_ne (fun h => ?_) (fun h => ?_) | refine br_eq (fun h => ?_) (fun h => ?_)) <;> first | (exfalso; omega) | conv => whnf)
        | (refine br_intro (fun h => ?_) (fun h => ?_) <;> conv => whnf)
        | ((first | refine need_in (by first | exact trivial | assumption | exact ⟨rfl, Nat.le_refl _⟩ | exact ⟨rfl, rfl⟩ | (simp only [inR]; omega) | omega | (simp only [roomP, true_and, and_true, List.length_take, List.length_drop, List.length_append, List.length_cons, List.length_nil, List.length_set, List.length_replicate]; omega) | (refine ⟨by first | exact trivial | rfl, by first | exact Nat.le_refl _ | omega | (simp; omega), ?_⟩; change roomP _ _ 1; simp only [roomP]; omega) | (change roomP _ _ 1; simp only [roomP]; omega) | (simp; omega) | (simp [inR]; omega) | (simp [inR]; done) | decide | (simp; done)) ?_ | refine idx_nat (by omega) (fun x hx => ?_) | refine frz_auto ?_ | refine draw_plain ?_ | refine idx_intro (by first | omega | (simp; omega) | (simp; done)) (by first | omega | (simp; omega) | (simp; done)) (fun x hx => ?_)); conv => whnf)
      conv => whnf
      refine ⟨⟨entsO l, [], (entsO l).length, lst_in0 ?_, rfl, by omega, rfl, hall, by simp; omega⟩, ?_⟩
      · rw [List.take_length, List.take_of_length_le (by omega)]
      rintro vs h' - ⟨rest, rs, f, rfl, rfl, hf, hva, hre, hle⟩
      by_cases hc : vwC cuts rs.length rest.length
      · have hpos : (0 : Int) < rest.length := by rcases hc with h | h <;> omega
        obtain ⟨f', rfl, hstep⟩ := vw_step (f := f) (rs := rs) hc hf
        have hcp := cutN_pos (cuts := cuts) (i := rs.length) (n := rest.length) (by omega)
        have hte : errAll (rest.take (cutN cuts rs.length rest.length)) = 0 := errAll_ok (fun x hx => hre x (List.mem_of_mem_take hx)) (by rw [List.length_take]; omega)
        by_cases c1 : (rs.length : Int) < cuts.length
        · obtain ⟨c, hcx⟩ : ∃ c : Int, cuts[rs.length]? = some c := ⟨_, List.getElem?_eq_getElem (by omega)⟩
          have hcc := hc0 c (List.mem_of_getElem? hcx)
          have hcn : cutN cuts rs.length rest.length = (if (rest.length : Int) < c % 7 + 1 then (rest.length : Int) else c % 7 + 1).toNat := by
            unfold cutN
            rw [hcx]
            show min ((c % 7).toNat + 1) rest.length = _
            split <;> omega
          conv => whnf
          repeat' first
            | ((first | refine idx_kn (by assumption) ?_ | refine idx_ki (by assumption) (by omega) ?_ | refine br_true (by first | with_reducible exact rfl | assumption | decide) ?_ | refine br_false (by first | with_reducible exact rfl | assumption | decide) ?_ | with_reducible first | refine br_kt (by assumption) ?_ | refine br_kf (by assumption) ?_ | refine br_nt (by assumption) ?_ | refine br_nf (by assumption) ?_ | refine br_et (by assumption) ?_ | refine br_ef (by assumption) ?_); conv => whnf)
            | ((with_reducible first | refine br_dec (fun h => ?_) (fun h => ?_) | refine br_ndec (fun h => ?_) (fun h => ?_) | refine br_ne (fun h => ?_) (fun h => ?_) | refine br_eq (fun h => ?_) (fun h => ?_)) <;> first | (exfalso; omega) | conv => whnf)
            | (refine br_intro (fun h => ?_) (fun h => ?_) <;> conv => whnf)
            | ((first | refine need_in (by first | exact trivial | assumption | exact ⟨rfl, Nat.le_refl _⟩ | exact ⟨rfl, rfl⟩ | (simp only [inR]; omega) | omega | (simp only [roomP, true_and, and_true, List.length_take, List.length_drop, List.length_append, List.length_cons, List.length_nil, List.length_set, List.length_replicate]; omega) | (refine ⟨by first | exact trivial | rfl, by first | exact Nat.le_refl _ | omega | (simp; omega), ?_⟩; change roomP _ _ 1; simp only [roomP]; omega) | (change roomP _ _ 1; simp only [roomP]; omega) | (simp; omega) | (simp [inR]; omega) | (simp [inR]; done) | decide | (simp; done)) ?_ | refine idx_nat (by omega) (fun x hx => ?_) | refine frz_auto ?_ | refine draw_plain ?_ | refine idx_intro (by first | omega | (simp; omega) | (simp; done)) (by first | omega | (simp; omega) | (simp; done)) (fun x hx => ?_)); conv => whnf)
          refine back_frz [4] ?_
          conv => whnf
          repeat' first
            | ((first | refine idx_kn (by assumption) ?_ | refine idx_ki (by assumption) (by omega) ?_ | refine br_true (by first | with_reducible exact rfl | assumption | decide) ?_ | refine br_false (by first | with_reducible exact rfl | assumption | decide) ?_ | with_reducible first | refine br_kt (by assumption) ?_ | refine br_kf (by assumption) ?_ | refine br_nt (by assumption) ?_ | refine br_nf (by assumption) ?_ | refine br_et (by assumption) ?_ | refine br_ef (by assumption) ?_); conv => whnf)
            | ((with_reducible first | refine br_dec (fun h => ?_) (fun h => ?_) | refine br_ndec (fun h => ?_) (fun h => ?_) | refine br_ne (fun h => ?_) (fun h => ?_) | refine br_eq (fun h => ?_) (fun h => ?_)) <;> first | (exfalso; omega) | conv => whnf)
            | (refine br_intro (fun h => ?_) (fun h => ?_) <;> conv => whnf)
            | ((first | refine need_in (by first | exact trivial | assumption | exact ⟨rfl, Nat.le_refl _⟩ | exact ⟨rfl, rfl⟩ | (simp only [inR]; omega) | omega | (simp only [roomP, true_and, and_true, List.length_take, List.length_drop, List.length_append, List.length_cons, List.length_nil, List.length_set, List.length_replicate]; omega) | (refine ⟨by first | exact trivial | rfl, by first | exact Nat.le_refl _ | omega | (simp; omega), ?_⟩; change roomP _ _ 1; simp only [roomP]; omega) | (change roomP _ _ 1; simp only [roomP]; omega) | (simp; omega) | (simp [inR]; omega) | (simp [inR]; done) | decide | (simp; done)) ?_ | refine idx_nat (by omega) (fun x hx => ?_) | refine frz_auto ?_ | refine draw_plain ?_ | refine idx_intro (by first | omega | (simp; omega) | (simp; done)) (by first | omega | (simp; omega) | (simp; done)) (fun x hx => ?_)); conv => whnf)
          refine backQ_in (by conv => whnf) rfl ⟨rest.drop (cutN cuts rs.length rest.length), ((rs.length : Int) + 1, nwL (rest.take (cutN cuts rs.length rest.length)), ()) :: rs, f', vs_eq ?_ rfl, heap_cc ?_, ?_, hva.trans hstep, fun y hy => hre y (List.mem_of_mem_drop hy), ?_⟩ ?_
          · rw [hcn]; exact List.take_of_length_le (by rw [List.length_drop]; omega)
          · show List.take _ _ = _
            simp only [cast_self, Int.toNat_zero, Nat.sub_zero, List.drop_zero]
            rw [← hcn, if_pos hte]
            exact List.take_of_length_le (by simp only [List.length_append, List.length_take, List.length_cons, List.length_nil]; omega)
          · rw [List.length_drop]; omega
          · rw [List.length_cons, List.length_drop]; omega
          · show List.length (List.take (_ - _) (List.drop _ rest)) < rest.length
            rw [← hcn, List.length_take, List.length_drop]; omega
        · have h16 : (16 : Int) < rest.length := by rcases hc with h | h <;> omega
          have hcn : cutN cuts rs.length rest.length = (if (rest.length : Int) < 7 then (rest.length : Int) else 7).toNat := by
            unfold cutN
            rw [List.getElem?_eq_none (by omega)]
            show min 7 rest.length = _
            split <;> omega
          conv => whnf
          repeat' first
            | ((first | refine idx_kn (by assumption) ?_ | refine idx_ki (by assumption) (by omega) ?_ | refine br_true (by first | with_reducible exact rfl | assumption | decide) ?_ | refine br_false (by first | with_reducible exact rfl | assumption | decide) ?_ | with_reducible first | refine br_kt (by assumption) ?_ | refine br_kf (by assumption) ?_ | refine br_nt (by assumption) ?_ | refine br_nf (by assumption) ?_ | refine br_et (by assumption) ?_ | refine br_ef (by assumption) ?_); conv => whnf)
            | ((with_reducible first | refine br_dec (fun h => ?_) (fun h => ?_) | refine br_ndec (fun h => ?_) (fun h => ?_) | refine br_ne (fun h => ?_) (fun h => ?_) | refine br_eq (fun h => ?_) (fun h => ?_)) <;> first | (exfalso; omega) | conv => whnf)
            | (refine br_intro (fun h => ?_) (fun h => ?_) <;> conv => whnf)
            | ((first | refine need_in (by first | exact trivial | assumption | exact ⟨rfl, Nat.le_refl _⟩ | exact ⟨rfl, rfl⟩ | (simp only [inR]; omega) | omega | (simp only [roomP, true_and, and_true, List.length_take, List.length_drop, List.length_append, List.length_cons, List.length_nil, List.length_set, List.length_replicate]; omega) | (refine ⟨by first | exact trivial | rfl, by first | exact Nat.le_refl _ | omega | (simp; omega), ?_⟩; change roomP _ _ 1; simp only [roomP]; omega) | (change roomP _ _ 1; simp only [roomP]; omega) | (simp; omega) | (simp [inR]; omega) | (simp [inR]; done) | decide | (simp; done)) ?_ | refine idx_nat (by omega) (fun x hx => ?_) | refine frz_auto ?_ | refine draw_plain ?_ | refine idx_intro (by first | omega | (simp; omega) | (simp; done)) (by first | omega | (simp; omega) | (simp; done)) (fun x hx => ?_)); conv => whnf)
          refine back_frz [4] ?_
          conv => whnf
          repeat' first
            | ((first | refine idx_kn (by assumption) ?_ | refine idx_ki (by assumption) (by omega) ?_ | refine br_true (by first | with_reducible exact rfl | assumption | decide) ?_ | refine br_false (by first | with_reducible exact rfl | assumption | decide) ?_ | with_reducible first | refine br_kt (by assumption) ?_ | refine br_kf (by assumption) ?_ | refine br_nt (by assumption) ?_ | refine br_nf (by assumption) ?_ | refine br_et (by assumption) ?_ | refine br_ef (by assumption) ?_); conv => whnf)
            | ((with_reducible first | refine br_dec (fun h => ?_) (fun h => ?_) | refine br_ndec (fun h => ?_) (fun h => ?_) | refine br_ne (fun h => ?_) (fun h => ?_) | refine br_eq (fun h => ?_) (fun h => ?_)) <;> first | (exfalso; omega) | conv => whnf)
            | (refine br_intro (fun h => ?_) (fun h => ?_) <;> conv => whnf)
            | ((first | refine need_in (by first | exact trivial | assumption | exact ⟨rfl, Nat.le_refl _⟩ | exact ⟨rfl, rfl⟩ | (simp only [inR]; omega) | omega | (simp only [roomP, true_and, and_true, List.length_take, List.length_drop, List.length_append, List.length_cons, List.length_nil, List.length_set, List.length_replicate]; omega) | (refine ⟨by first | exact trivial | rfl, by first | exact Nat.le_refl _ | omega | (simp; omega), ?_⟩; change roomP _ _ 1; simp only [roomP]; omega) | (change roomP _ _ 1; simp only [roomP]; omega) | (simp; omega) | (simp [inR]; omega) | (simp [inR]; done) | decide | (simp; done)) ?_ | refine idx_nat (by omega) (fun x hx => ?_) | refine frz_auto ?_ | refine draw_plain ?_ | refine idx_intro (by first | omega | (simp; omega) | (simp; done)) (by first | omega | (simp; omega) | (simp; done)) (fun x hx => ?_)); conv => whnf)
          refine backQ_in (by conv => whnf) rfl ⟨rest.drop (cutN cuts rs.length rest.length), ((rs.length : Int) + 1, nwL (rest.take (cutN cuts rs.length rest.length)), ()) :: rs, f', vs_eq ?_ rfl, heap_cc ?_, ?_, hva.trans hstep, fun y hy => hre y (List.mem_of_mem_drop hy), ?_⟩ ?_
          · rw [hcn]; exact List.take_of_length_le (by rw [List.length_drop]; omega)
          · show List.take _ _ = _
            simp only [cast_self, Int.toNat_zero, Nat.sub_zero, List.drop_zero]
            rw [← hcn, if_pos hte]
            exact List.take_of_length_le (by simp only [List.length_append, List.length_take, List.length_cons, List.length_nil]; omega)
          · rw [List.length_drop]; omega
          · rw [List.length_cons, List.length_drop]; omega
          · show List.length (List.take (_ - _) (List.drop _ rest)) < rest.length
            rw [← hcn, List.length_take, List.length_drop]; omega
      · rw [vw_end hc] at hva
        have hre' : errAll rest = 0 := errAll_ok hre (by omega)
        rw [hva] at hvw
        have d1 : ¬ ((rs.length : Int) < cuts.length ∧ (0 : Int) < rest.length) := fun e => hc (.inl ⟨by omega, by omega⟩)
        have d2 : ¬ (16 : Int) < rest.length := fun e => hc (.inr (by omega))
        conv => whnf
        repeat' first
          | ((first | refine idx_kn (by assumption) ?_ | refine idx_ki (by assumption) (by omega) ?_ | refine br_true (by first | with_reducible exact rfl | assumption | decide) ?_ | refine br_false (by first | with_reducible exact rfl | assumption | decide) ?_ | with_reducible first | refine br_kt (by assumption) ?_ | refine br_kf (by assumption) ?_ | refine br_nt (by assumption) ?_ | refine br_nf (by assumption) ?_ | refine br_et (by assumption) ?_ | refine br_ef (by assumption) ?_); conv => whnf)
          | ((with_reducible first | refine br_dec (fun h => ?_) (fun h => ?_) | refine br_ndec (fun h => ?_) (fun h => ?_) | refine br_ne (fun h => ?_) (fun h => ?_) | refine br_eq (fun h => ?_) (fun h => ?_)) <;> first | (exfalso; omega) | conv => whnf)
          | (refine br_intro (fun h => ?_) (fun h => ?_) <;> conv => whnf)
          | ((first | refine need_in (by first | exact trivial | assumption | exact ⟨rfl, Nat.le_refl _⟩ | exact ⟨rfl, rfl⟩ | (simp only [inR]; omega) | omega | (simp only [roomP, true_and, and_true, List.length_take, List.length_drop, List.length_append, List.length_cons, List.length_nil, List.length_set, List.length_replicate]; omega) | (refine ⟨by first | exact trivial | rfl, by first | exact Nat.le_refl _ | omega | (simp; omega), ?_⟩; change roomP _ _ 1; simp only [roomP]; omega) | (change roomP _ _ 1; simp only [roomP]; omega) | (simp; omega) | (simp [inR]; omega) | (simp [inR]; done) | decide | (simp; done)) ?_ | refine idx_nat (by omega) (fun x hx => ?_) | refine frz_auto ?_ | refine draw_plain ?_ | refine idx_intro (by first | omega | (simp; omega) | (simp; done)) (by first | omega | (simp; omega) | (simp; done)) (fun x hx => ?_)); conv => whnf)
        all_goals
          rw [hvw, if_pos hre']
          exact view_eq rfl (by rw [Bool.eq_iff_iff, decide_eq_true_iff, decide_eq_true_iff]; show (rs.length : Int) ≤ 20 ↔ rs.length ≤ 20; omega)
  · cases h
end Go.Proofs.Ytekkeajcmibbaaa
namespace Go.Proofs.Ytekkeajcmibbaaa
open Av Bk

/-! ### Sorting puts the newest entry first -/
abbrev seqX (x : entT.El) : Int := x.2.2.2.1
theorem ordX_pos {y x : entT.El} (hs : seqX y < seqX x) : 0 < ordX y x ↔ sLt y.1 x.1 = false := by
  unfold ordX ordE
  by_cases he : y.1 = x.1
  · have h0 : ordL y.1.data.toList x.1.data.toList = 0 := by rw [he]; unfold ordL; rw [if_pos rfl]
    rw [h0, he, sLt_irrefl, if_neg (by simp), if_neg (Int.not_lt.2 (Int.le_of_lt hs)), if_pos hs]
    simp
  · have hne : y.1.data.toList ≠ x.1.data.toList := fun e => he (ByteArray.ext (Array.toList_inj.1 e))
    have h1 : ordL y.1.data.toList x.1.data.toList = if Op.bytesLess y.1.data.toList x.1.data.toList = true then -1 else 1 := by unfold ordL; rw [if_neg hne]
    have h2 : ordL y.1.data.toList x.1.data.toList ≠ 0 := by rw [h1]; split <;> decide
    rw [if_pos h2, h1]
    show _ ↔ Op.bytesLess y.1.data.toList x.1.data.toList = false
    cases Op.bytesLess y.1.data.toList x.1.data.toList <;> simp
def upK (l : List entT.El) : Prop := l.Pairwise (fun x y => sLt y.1 x.1 = false)
theorem atGo_spec {out : List entT.El} {x : entT.El} (hs : ∀ y ∈ out, seqX y < seqX x) (hu : upK out) : ∀ n, n ≤ out.length → (∀ y ∈ out.drop n, sLt y.1 x.1 = false) → (∀ y ∈ out.take (atGo out x n), sLt y.1 x.1 = true) ∧ ∀ y ∈ out.drop (atGo out x n), sLt y.1 x.1 = false
  | 0, _, hd => ⟨by simp [atGo], by simpa [atGo] using hd⟩
  | n + 1, hn, hd => by
    obtain ⟨y, hy⟩ : ∃ y, out[n]? = some y := ⟨_, List.getElem?_eq_getElem (by omega)⟩
    have hyo : y ∈ out := List.mem_of_getElem? hy
    have hpos := ordX_pos (hs y hyo)
    have e : atGo out x (n + 1) = if 0 < ordX y x then atGo out x n else n + 1 := by
      simp only [atGo, hy]
    rw [e]
    by_cases h : 0 < ordX y x
    · rw [if_pos h]
      refine atGo_spec hs hu n (by omega) (fun z hz => ?_)
      rw [drop_some hy] at hz
      rcases List.mem_cons.1 hz with rfl | hz
      · exact hpos.1 h
      · exact hd z hz
    · rw [if_neg h]
      refine ⟨fun z hz => ?_, hd⟩
      have hyx : sLt y.1 x.1 = true := by
        cases hc : sLt y.1 x.1 with
        | true => rfl
        | false => exact absurd (hpos.2 hc) h
      rw [take_snoc1 hy] at hz
      rcases List.mem_append.1 hz with hz | hz
      · obtain ⟨j, hj⟩ := List.mem_iff_getElem?.1 hz
        rw [List.getElem?_take] at hj
        split at hj
        · rename_i hjn
          have h1 := List.getElem?_eq_some_iff.1 hj
          have h2 := List.getElem?_eq_some_iff.1 hy
          have := List.pairwise_iff_getElem.1 hu j n h1.1 h2.1 hjn
          rw [h1.2, h2.2] at this
          cases hzy : sLt z.1 y.1 with
          | true => exact sLt_trans hzy hyx
          | false => rw [sLt_ext hzy this]; exact hyx
        · cases hj
      · simp only [List.mem_singleton] at hz
        rw [hz]; exact hyx
theorem ins_first {out : List entT.El} {x : entT.El} (hs : ∀ y ∈ out, seqX y < seqX x) (hu : upK out) : upK (insX out x) ∧ ∀ k, firstK (insX out x) k = firstK (x :: out) k := by
  obtain ⟨h1, h2⟩ := atGo_spec hs hu out.length (Nat.le_refl _) (by simp)
  unfold insX
  generalize hj : atGo out x out.length = j at h1 h2 ⊢
  refine ⟨?_, fun k => ?_⟩
  · have hp := hu
    unfold upK at hp ⊢
    rw [← List.take_append_drop j out, List.pairwise_append] at hp
    rw [List.pairwise_append]
    refine ⟨hp.1, List.pairwise_cons.2 ⟨fun y hy => h2 y hy, hp.2.1⟩, fun y hy z hz => ?_⟩
    rcases List.mem_cons.1 hz with rfl | hz
    · exact sLt_asym (h1 y hy)
    · exact hp.2.2 y hy z hz
  · rw [firstK_append, firstK_cons, firstK_cons]
    by_cases hk : x.1 = k
    · rw [if_pos hk, if_pos hk, firstK_none.2 (fun y hy e => ?_)]
      · rfl
      · have := h1 y hy
        rw [e, hk, sLt_irrefl] at this; cases this
    · rw [if_neg hk, if_neg hk, ← firstK_append, List.take_append_drop]
def seqUp (l : List entT.El) : Prop := l.Pairwise (fun x y => seqX x < seqX y)
theorem sort_first : ∀ l : List entT.El, seqUp l → upK (sortX l) ∧ ∀ k, firstK (sortX l) k = firstK l.reverse k := by
  refine list_snoc (fun _ => ⟨List.Pairwise.nil, fun k => rfl⟩) ?_
  intro l x ih h
  unfold seqUp at h
  rw [List.pairwise_append] at h
  obtain ⟨h1, h2⟩ := ih h.1
  have e : sortX (l ++ [x]) = insX (sortX l) x := by unfold sortX; rw [List.foldl_append]; rfl
  obtain ⟨h3, h4⟩ := ins_first (x := x) (fun y hy => h.2.2 y (sortX_mem.1 hy) x (by simp)) h1
  refine ⟨by rw [e]; exact h3, fun k => ?_⟩
  rw [e, h4, List.reverse_append, firstK_cons, h2]
  show _ = firstK (x :: l.reverse) k
  rw [firstK_cons]
/-! ### Of each key the first one -/
theorem nwF_flt (b : Bool) : ∀ (l out : List entT.El) (so : Bool) (last : ByteArray), (l.foldl (nwStep b) (out, so, last)).1 = out ++ fltGo b so last l
  | [], out, so, last => by simp [fltGo]
  | x :: l, out, so, last => by
    rw [List.foldl_cons]
    have e : nwStep b (out, so, last) x = (out ++ (if stepK so last b x.1 x.2.2.1 = true then [x] else []), true, x.1) := by
      unfold nwStep stepK
      cases so <;> cases hs : sEq x.1 last <;> cases b <;> cases x.2.2.1 <;> simp [hs]
    rw [e, nwF_flt b l, fltGo, List.append_assoc]
theorem nwL_flt (l : List entT.El) : nwL l = fltGo false false ⟨#[]⟩ (sortX l) := by
  unfold nwL nwF
  rw [nwF_flt]; rfl
theorem nwL_first {l : List entT.El} (h : seqUp l) (k : ByteArray) : firstK (nwL l) k = firstK l.reverse k := by
  obtain ⟨h1, h2⟩ := sort_first l h
  rw [nwL_flt, flt_first k _ _ _ h1 (by simp), if_neg (by simp), fltO_false, h2]
theorem flt_mem {b : Bool} : ∀ {l : List entT.El} {so : Bool} {last : ByteArray} {x : entT.El}, x ∈ fltGo b so last l → x ∈ l
  | [], _, _, _, h => by cases h
  | y :: l, so, last, x, h => by
    rw [fltGo] at h
    rcases List.mem_append.1 h with h | h
    · split at h
      · rw [List.mem_singleton] at h; rw [h]; simp
      · cases h
    · exact List.mem_cons_of_mem _ (flt_mem h)
theorem flt_len {b : Bool} : ∀ (l : List entT.El) (so : Bool) (last : ByteArray), (fltGo b so last l).length ≤ l.length
  | [], _, _ => Nat.le_refl _
  | y :: l, so, last => by
    rw [fltGo, List.length_append, List.length_cons]
    have := flt_len (b := b) l true y.1
    split
    · rw [List.length_singleton]; omega
    · simp only [List.length_nil]; omega
theorem flt_asc {b : Bool} : ∀ {l : List entT.El} {so : Bool} {last : ByteArray}, upK l → (so = true → ∀ x ∈ l, sLt x.1 last = false) → (fltGo b so last l).Pairwise (fun x y => sLt x.1 y.1 = true) ∧ (so = true → ∀ x ∈ fltGo b so last l, sLt last x.1 = true)
  | [], _, _, _, _ => ⟨List.Pairwise.nil, fun _ x h => by cases h⟩
  | y :: l, so, last, hu, hs => by
    have hu' := List.pairwise_cons.1 hu
    obtain ⟨h1, h2⟩ := flt_asc (b := b) (l := l) (so := true) (last := y.1) hu'.2 (fun _ x hx => hu'.1 x hx)
    have h2 := h2 rfl
    rw [fltGo]
    refine ⟨?_, fun hso x hx => ?_⟩
    · split
      · exact List.pairwise_cons.2 ⟨h2, h1⟩
      · exact h1
    · have hy := hs hso y (by simp)
      rcases List.mem_append.1 hx with hx | hx
      · split at hx
        · rename_i hst
          rw [List.mem_singleton] at hx
          subst hx
          refine sLt_of hy (fun e => ?_)
          rw [hso, e] at hst
          unfold stepK at hst
          rw [sEq_refl] at hst
          cases hst
        · cases hx
      · cases hly : sLt last y.1 with
        | true => exact sLt_trans hly (h2 x hx)
        | false => rw [sLt_ext hly hy]; exact h2 x hx
theorem nwL_good {l : List entT.El} (h : seqUp l) (he : ∀ x ∈ l, errX x = 0) (hl : l.length ≤ 5000) : ascS (nwL l) ∧ clL (nwL l) = (0, 0) ∧ (nwL l).length ≤ l.length := by
  obtain ⟨h1, _⟩ := sort_first l h
  have h2 : ascS (nwL l) := by rw [nwL_flt]; exact pw_asc (flt_asc h1 (by simp)).1
  have h3 : (nwL l).length ≤ l.length := by
    rw [nwL_flt]
    have := flt_len (b := false) (sortX l) false ⟨#[]⟩
    rw [sortX_len] at this
    exact this
  refine ⟨h2, ?_, h3⟩
  unfold clL
  rw [if_neg (by omega)]
  refine clGo_ok1 _ _ _ (fun x hx => he x ?_) h2 (fun x hx => rfl)
  rw [nwL_flt] at hx
  exact sortX_mem.1 (flt_mem hx)
/-! ### The view -/
theorem ents_seq (l : List opT.El) : seqUp (entsO l) := by
  unfold seqUp
  rw [List.pairwise_iff_getElem]
  intro i j hi hj hij
  rw [entsO_len] at hi hj
  obtain ⟨x, hx⟩ : ∃ x, l[i]? = some x := ⟨_, List.getElem?_eq_getElem hi⟩
  obtain ⟨y, hy⟩ : ∃ y, l[j]? = some y := ⟨_, List.getElem?_eq_getElem hj⟩
  have h1 := List.getElem?_eq_some_iff.1 (entsO_get hx)
  have h2 := List.getElem?_eq_some_iff.1 (entsO_get hy)
  rw [h1.2, h2.2]
  show (i : Int) + 1 < (j : Int) + 1
  omega
theorem seqUp_app {a b : List entT.El} (h : seqUp (a ++ b)) : seqUp a ∧ seqUp b := by
  unfold seqUp at h
  rw [List.pairwise_append] at h
  exact ⟨h.1, h.2.1⟩
abbrev flatR (rs : List runT.El) : List entT.El := (rs.map (fun r => r.2.1)).flatten
abbrev idX (r : runT.El) : Int := r.1
/-- What is good of runs that are made. -/
structure MadeR (n : Nat) (rs : List runT.El) : Prop where
  len : rs.length = n
  cl : ∀ r ∈ rs, clL r.2.1 = (0, 0)
  ids : ∀ r ∈ rs, 1 ≤ idX r ∧ idX r ≤ (n : Int)
  ne : rs.Pairwise (fun x y => idX y < idX x)
theorem vwGo_good {cuts : List Int} : ∀ (f i : Nat) (all : List entT.El) (rs : List runT.El), all.length ≤ f → all.length ≤ 5000 → seqUp all → (∀ x ∈ all, errX x = 0) → MadeR i rs →
    (∀ k, firstK ((vwGo cuts f i all rs).1.reverse ++ flatR (vwGo cuts f i all rs).2) k = firstK (all.reverse ++ flatR rs) k) ∧ seqUp (vwGo cuts f i all rs).1 ∧ (∀ x ∈ (vwGo cuts f i all rs).1, errX x = 0) ∧ (vwGo cuts f i all rs).1.length ≤ 16 ∧ MadeR (vwGo cuts f i all rs).2.length (vwGo cuts f i all rs).2
  | 0, i, all, rs, hf, _, hs, he, hm => by
    refine ⟨fun k => rfl, hs, he, ?_, ?_⟩
    · show all.length ≤ 16; omega
    · show MadeR rs.length rs
      rw [hm.len]; exact hm
  | f + 1, i, all, rs, hf, hl, hs, he, hm => by
    rw [vwGo]
    by_cases hc : vwC cuts i all.length
    · rw [if_pos hc]
      have hpos : 0 < all.length := by rcases hc with h | h <;> omega
      have hcp := cutN_pos (cuts := cuts) (i := i) hpos
      generalize cutN cuts i all.length = n at hcp ⊢
      have hcut := List.take_append_drop n all
      have hs2 := hs
      rw [← hcut] at hs2
      obtain ⟨s1, s2⟩ := seqUp_app hs2
      have hg := nwL_good s1 (fun x hx => he x (List.mem_of_mem_take hx)) (by rw [List.length_take]; omega)
      have hm' : MadeR (i + 1) (((i : Int) + 1, nwL (all.take n), ()) :: rs) := by
        refine ⟨by rw [List.length_cons, hm.len], fun r hr => ?_, fun r hr => ?_, List.pairwise_cons.2 ⟨fun r hr => ?_, hm.ne⟩⟩
        · rcases List.mem_cons.1 hr with rfl | hr
          · exact hg.2.1
          · exact hm.cl r hr
        · rcases List.mem_cons.1 hr with rfl | hr
          · show (1 : Int) ≤ (i : Int) + 1 ∧ (i : Int) + 1 ≤ ((i + 1 : Nat) : Int)
            omega
          · have := hm.ids r hr
            exact ⟨this.1, by have := this.2; omega⟩
        · have := (hm.ids r hr).2
          exact Int.lt_add_one_of_le this
      obtain ⟨h1, h2⟩ := vwGo_good f (i + 1) (all.drop n) _ (by rw [List.length_drop]; omega) (by rw [List.length_drop]; omega) s2 (fun x hx => he x (List.mem_of_mem_drop hx)) hm'
      refine ⟨fun k => ?_, h2⟩
      rw [h1 k]
      conv => rhs; rw [← hcut]
      rw [List.reverse_append, List.append_assoc, firstK_append, firstK_append]
      congr 1
      show firstK (nwL (all.take n) ++ flatR rs) k = _
      rw [firstK_append, firstK_append, nwL_first s1]
    · rw [if_neg hc]
      refine ⟨fun k => rfl, hs, he, ?_, ?_⟩
      · show all.length ≤ 16
        have : ¬ 16 < all.length := fun e => hc (.inr e)
        omega
      · show MadeR rs.length rs
        rw [hm.len]; exact hm
theorem okO_mem {l : List opT.El} (h : okO l = true) : ∀ x ∈ entsO l, errX x = 0 := fun x hx => by
  have := List.all_eq_true.1 h x hx
  simpa using this
theorem vwA_good {l : List opT.El} {cuts : List Int} (h : okO l = true) (hl : l.length ≤ 5000) :
    (∀ k, firstK ((vwA l cuts).1.reverse ++ flatR (vwA l cuts).2) k = firstK (entsO l).reverse k) ∧ seqUp (vwA l cuts).1 ∧ (∀ x ∈ (vwA l cuts).1, errX x = 0) ∧ (vwA l cuts).1.length ≤ 16 ∧ MadeR (vwA l cuts).2.length (vwA l cuts).2 := by
  obtain ⟨q1, q2⟩ := vwGo_good (cuts := cuts) (entsO l).length 0 (entsO l) [] (Nat.le_refl _) (by rw [entsO_len]; exact hl) (ents_seq l) (okO_mem h) ⟨rfl, by simp, by simp, List.Pairwise.nil⟩
  refine ⟨fun k => ?_, q2⟩
  rw [show (vwA l cuts) = vwGo cuts (entsO l).length 0 (entsO l) [] from rfl, q1 k]
  show firstK ((entsO l).reverse ++ []) k = _
  rw [List.append_nil]
theorem vcGo_made : ∀ (rs pre : List runT.El), (∀ r ∈ rs, clL r.2.1 = (0, 0)) → (∀ r ∈ rs, 1 ≤ idX r ∧ idX r ≤ 1000000) → (pre ++ rs).Pairwise (fun x y => idX y < idX x) → vcGo pre rs = (0, 0)
  | [], _, _, _, _ => rfl
  | x :: l, pre, h1, h2, h3 => by
    have hx := h2 x (by simp)
    have hr : rcL x = (0, 0) := by
      unfold rcL
      rw [if_neg (fun e => e.elim (Int.not_lt.2 hx.1) (Int.not_lt.2 hx.2))]
      exact h1 x (by simp)
    have hany : pre.any (fun y => y.1 == x.1) = false := by
      rw [List.any_eq_false]
      intro y hy e
      rw [List.pairwise_append] at h3
      have := h3.2.2 y hy x (by simp)
      have e : idX y = idX x := by simpa using e
      rw [e] at this
      exact Int.lt_irrefl _ this
    rw [vcGo, if_neg (by rw [hr]; decide), if_neg (by rw [hany]; decide)]
    exact vcGo_made l _ (fun r hr => h1 r (by simp [hr])) (fun r hr => h2 r (by simp [hr])) (by rw [List.append_assoc]; exact h3)
theorem view_good {l : List opT.El} {cuts : List Int} (h : okO l = true) (hl : l.length ≤ 5000) (hr : (vwA l cuts).2.length ≤ 20) : (vcL (nwL (vwA l cuts).1) (vwA l cuts).2).2 = 0 ∧ ∀ k, getM (allE (nwL (vwA l cuts).1) (vwA l cuts).2) k = getM (entsO l).reverse k := by
  obtain ⟨h1, h2, h3, h4, h5⟩ := vwA_good (cuts := cuts) h hl
  have hg := nwL_good h2 h3 (by omega)
  refine ⟨?_, fun k => ?_⟩
  · have hv : vcGo [] (vwA l cuts).2 = (0, 0) := vcGo_made _ [] h5.cl (fun r hr' => ⟨(h5.ids r hr').1, by have := (h5.ids r hr').2; omega⟩) h5.ne
    unfold vcL
    have h7 := hg.2.2
    rw [if_neg (by omega), if_neg (by rw [hg.2.1]; decide), if_neg (by omega), hv]
  · unfold getM
    rw [← h1 k]
    show valE (firstK (nwL (vwA l cuts).1 :: (vwA l cuts).2.map (fun r => r.2.1)).flatten k) = _
    rw [List.flatten_cons, firstK_append, firstK_append, nwL_first h2]
end Go.Proofs.Ytekkeajcmibbaaa
namespace Go.Proofs.Ytekkeajcmibbaaa
open Av Bk

theorem lbP_take (k : ByteArray) : ∀ (m : List pairT.El), ∀ p ∈ m.take (lbP k m), sLt p.1 k = true
  | [], p, h => by simp at h
  | q :: m, p, h => by
    unfold lbP at h
    split at h
    · rename_i hq
      rw [List.take_succ_cons] at h
      rcases List.mem_cons.1 h with rfl | h
      · exact hq
      · exact lbP_take k m p h
    · simp at h
theorem lbP_drop (k : ByteArray) : ∀ {m : List pairT.El}, ascP m → ∀ p ∈ m.drop (lbP k m), sLt p.1 k = false
  | [], _, p, h => by simp at h
  | q :: m, ha, p, h => by
    have ha' := List.pairwise_cons.1 ha
    unfold lbP at h
    split at h
    · rw [List.drop_succ_cons] at h
      exact lbP_drop k ha'.2 p h
    · rename_i hq
      rw [List.drop_zero] at h
      have hq : sLt q.1 k = false := by simpa using hq
      rcases List.mem_cons.1 h with rfl | h
      · exact hq
      · cases hp : sLt p.1 k with
        | false => rfl
        | true => rw [sLt_trans (ha'.1 p h) hp] at hq; cases hq
theorem rest_spec {k : ByteArray} : ∀ {r : List pairT.El}, ascP r → (∀ p ∈ r, sLt p.1 k = false) → ascP (restP k r) ∧ (∀ p, p ∈ restP k r ↔ p ∈ r ∧ p.1 ≠ k) ∧ ∀ p ∈ restP k r, sLt k p.1 = true
  | [], _, _ => ⟨List.Pairwise.nil, by simp [restP], by simp [restP]⟩
  | q :: r, ha, hd => by
    have ha' := List.pairwise_cons.1 ha
    have hup : ∀ p ∈ r, sLt k p.1 = true := fun p hp => by
      have h1 := ha'.1 p hp
      have h2 := hd q (by simp)
      cases hkq : sLt k q.1 with
      | true => exact sLt_trans hkq h1
      | false => rw [sLt_ext hkq h2]; exact h1
    have hr : restP k (q :: r) = if sEq q.1 k = true then r else q :: r := rfl
    rw [hr]
    by_cases he : sEq q.1 k = true
    · rw [if_pos he]
      refine ⟨ha'.2, fun p => ?_, hup⟩
      rw [List.mem_cons]
      constructor
      · intro hp
        refine ⟨.inr hp, fun e => ?_⟩
        have := hup p hp
        rw [e, sLt_irrefl] at this; cases this
      · rintro ⟨rfl | hp, hne⟩
        · exact absurd (sEq_iff.1 he) hne
        · exact hp
    · rw [if_neg he]
      have hqk : q.1 ≠ k := fun e => he (sEq_iff.2 e)
      refine ⟨ha, fun p => ?_, fun p hp => ?_⟩
      · rw [List.mem_cons]
        constructor
        · rintro (rfl | hp)
          · exact ⟨.inl rfl, hqk⟩
          · refine ⟨.inr hp, fun e => ?_⟩
            have := hup p hp
            rw [e, sLt_irrefl] at this; cases this
        · exact fun h => h.1
      · rcases List.mem_cons.1 hp with rfl | hp
        · exact sLt_of (hd p (by simp)) hqk
        · exact hup p hp
theorem one_spec {m : List pairT.El} (ha : ascP m) (k v : ByteArray) (d : Bool) : ascP (oneP m k v d) ∧ ∀ p, p ∈ oneP m k v d ↔ (d = false ∧ p = mkP k v) ∨ (p ∈ m ∧ p.1 ≠ k) := by
  have h1 := lbP_take k m
  have h2 := lbP_drop k ha
  have hcut := List.take_append_drop (lbP k m) m
  unfold oneP
  generalize lbP k m = j at h1 h2 hcut ⊢
  have ha2 := ha
  unfold ascP at ha2
  rw [← hcut, List.pairwise_append] at ha2
  obtain ⟨r1, r2, r3⟩ := rest_spec ha2.2.1 h2
  refine ⟨?_, fun p => ?_⟩
  · unfold ascP
    rw [List.pairwise_append, List.pairwise_append]
    refine ⟨ha2.1, ⟨?_, r1, ?_⟩, ?_⟩
    · split
      · exact List.Pairwise.nil
      · exact List.pairwise_singleton _ _
    · intro a hA b hB
      split at hA
      · cases hA
      · rw [List.mem_singleton] at hA
        rw [hA]; exact r3 b hB
    · intro a hA b hB
      rcases List.mem_append.1 hB with hB | hB
      · split at hB
        · cases hB
        · rw [List.mem_singleton] at hB
          rw [hB]; exact h1 a hA
      · exact sLt_trans (h1 a hA) (r3 b hB)
  · rw [List.mem_append, List.mem_append, r2]
    conv => rhs; rw [← hcut, List.mem_append]
    constructor
    · rintro (h | h | h)
      · exact .inr ⟨.inl h, sLt_ne (h1 p h)⟩
      · split at h
        · cases h
        · rename_i hd
          exact .inl ⟨by simpa using hd, List.mem_singleton.1 h⟩
      · exact .inr ⟨.inr h.1, h.2⟩
    · rintro (⟨hd, rfl⟩ | ⟨h | h, hne⟩)
      · right; left; rw [hd, if_neg (by decide)]; simp
      · exact .inl h
      · exact .inr (.inr ⟨h, hne⟩)
theorem one_map (E : List entT.El) (k v : ByteArray) (d : Bool) (s : Int) : oneP (mapL E) k v d = mapL ((k, v, d, s, ()) :: E) := by
  obtain ⟨h1, h2⟩ := one_spec (mapL_asc E) k v d
  refine asc_ext h1 (mapL_asc _) (fun p => ?_)
  rw [h2, mapL_mem, mapL_mem]
  have hg : getM ((k, v, d, s, ()) :: E) p.1 = if k = p.1 then (if d = true then none else some v) else getM E p.1 := by
    unfold getM
    rw [firstK_cons]
    by_cases h : k = p.1
    · rw [if_pos h, if_pos h]; rfl
    · rw [if_neg h, if_neg h]
  rw [hg]
  obtain ⟨pk, pv, pu⟩ := p
  by_cases h : k = pk
  · subst h
    rw [if_pos rfl]
    cases d with
    | true => simp
    | false =>
      rw [if_neg (by decide)]
      constructor
      · rintro (⟨_, e⟩ | ⟨_, e⟩)
        · cases e; rfl
        · exact absurd rfl e
      · intro e
        cases e
        exact .inl ⟨rfl, rfl⟩
  · rw [if_neg h]
    constructor
    · rintro (⟨_, e⟩ | ⟨e, _⟩)
      · cases e; exact absurd rfl h
      · exact e
    · exact fun e => .inr ⟨e, fun e2 => h e2.symm⟩
/-- The map behind so many writes. -/
def mapO (l : List opT.El) : List pairT.El := mapL (entsO l).reverse
theorem mapO_step {l : List opT.El} {i : Nat} {x : opT.El} (hx : l[i]? = some x) : oneP (mapO (l.take i)) x.1 x.2.1 x.2.2.1 = mapO (l.take (i + 1)) := by
  unfold mapO
  rw [entsO_take hx, List.reverse_append, one_map _ _ _ _ ((i : Int) + 1)]
  rfl
theorem mapO_len (l : List opT.El) : (mapO l).length ≤ l.length := by
  have := mapL_len (entsO l).reverse
  rw [List.length_reverse, entsO_len] at this
  exact this
theorem pcGo_ok : ∀ (m : List pairT.El) (pv : Option ByteArray) (i : Int), (∀ p ∈ m, ¬ longP p.1 p.2.1) → ascP m → (∀ p, m[0]? = some p → fallP pv p.1 = false) → pcGo pv i m = (0, 0)
  | [], _, _, _, _, _ => rfl
  | p :: m, pv, i, h1, h2, h3 => by
    rw [pcGo, if_neg (h1 p (by simp)), if_neg (by rw [h3 p rfl]; decide)]
    have h2' := List.pairwise_cons.1 h2
    refine pcGo_ok m _ _ (fun q hq => h1 q (by simp [hq])) h2'.2 (fun q hq => ?_)
    have := h2'.1 q (List.mem_of_getElem? hq)
    show (!sLt p.1 q.1) = false
    rw [this]; rfl
theorem errX_long {x : entT.El} (h : errX x = 0) : ¬ longP x.1 x.2.1 := by
  unfold errX errE at h
  unfold longP
  rintro (h1 | h1)
  · rw [decide_eq_true h1] at h; simp at h
  · rw [decide_eq_true h1] at h; simp at h
theorem mapL_pc {E : List entT.El} (he : ∀ x ∈ E, errX x = 0) (hl : E.length ≤ 4000) : pcL (mapL E) = (0, 0) := by
  have hm := mapL_len E
  unfold pcL
  rw [if_neg (by omega)]
  refine pcGo_ok _ _ _ (fun p hp => ?_) (mapL_asc E) (fun _ _ => rfl)
  have h1 := (mapL_mem E p).1 hp
  unfold getM at h1
  cases hf : firstK E p.1 with
  | none => rw [hf] at h1; cases h1
  | some x =>
    obtain ⟨h2, h3⟩ := firstK_some hf
    rw [hf] at h1
    have h4 := errX_long (he x h2)
    unfold valE at h1
    split at h1
    · rename_i y hy
      cases hy
      split at h1
      · cases h1
      · rw [h3, Option.some.inj h1] at h4
        exact h4
    · cases h1
theorem entO_wr {i : Nat} {x : opT.El} (h : errX (entO i x) = 0) : wrE x = 0 := by
  have h1 : ¬ longP x.1 x.2.1 := errX_long h
  unfold wrE
  rw [if_neg h1]
  by_cases hd : (x.2.2.1 && !sEq x.2.1 ⟨#[]⟩) = true
  · exfalso
    unfold errX errE at h
    have h2 : decide (32 < ((entO i x).1.size : Int)) = false := decide_eq_false (fun e => h1 (.inl e))
    have h3 : decide (64 < ((entO i x).2.1.size : Int)) = false := decide_eq_false (fun e => h1 (.inr e))
    have h4 : ((entO i x).2.2.1 && !sEq (entO i x).2.1 ⟨#[]⟩) = true := hd
    rw [h2, h3, h4] at h
    exact absurd h (show ¬ ((6 : Int) = 0) by decide)
  · rw [if_neg hd]
theorem w05_step {l : List opT.El} {i : Nat} {x : opT.El} (hx : l[i]? = some x) (hok : okO l = true) (hl : l.length ≤ 3000) : w05 (mapO (l.take i)) [x] = (mapO (l.take (i + 1)), 0) := by
  have he := okO_mem hok
  have hil := (List.getElem?_eq_some_iff.1 hx).1
  have hpc : pcL (mapO (l.take i)) = (0, 0) := by
    refine mapL_pc (fun y hy => he y ?_) (by rw [List.length_reverse, entsO_len, List.length_take]; omega)
    rw [List.mem_reverse] at hy
    obtain ⟨j, hj⟩ := List.mem_iff_getElem?.1 hy
    unfold entsO at hj ⊢
    rw [List.getElem?_mapIdx] at hj
    refine List.mem_iff_getElem?.2 ⟨j, ?_⟩
    rw [List.getElem?_mapIdx]
    rw [List.getElem?_take] at hj
    split at hj
    · exact hj
    · cases hj
  have hw : wrL [x] = 0 := by
    have h1 := entO_wr (he _ (List.mem_of_getElem? (entsO_get hx)))
    unfold wrL
    rw [if_neg (by simp), if_neg (by simp)]
    show (if wrE x ≠ 0 then wrE x else 0) = 0
    rw [h1]; rfl
  have hs : wrA (mapO (l.take i)) [x] = mapO (l.take (i + 1)) := mapO_step hx
  have hlen := mapO_len (l.take (i + 1))
  rw [List.length_take] at hlen
  unfold w05
  rw [hpc, hs, hw]
  rw [if_neg (by decide), if_neg (by decide), if_neg (by omega)]
theorem ge05_map {E : List entT.El} {k : ByteArray} (he : ∀ x ∈ E, errX x = 0) (hl : E.length ≤ 4000) (hk : (k.size : Int) ≤ 32) : ge05 (mapL E) k = match getM E k with | some v => (v, 0) | none => (⟨#[]⟩, 4) := by
  have hpc := mapL_pc he hl
  have hask : ask05 (mapL E) k = 0 := by
    unfold ask05
    rw [hpc, if_neg (by decide), if_neg (by omega)]
  have h1 := lbP_take k (mapL E)
  have h2 := lbP_drop k (mapL_asc E)
  have hce : ce05 (mapL E) k = match (mapL E)[lbP k (mapL E)]? with
    | none => (mkP ⟨#[]⟩ ⟨#[]⟩, 4)
    | some p => (p, 0) := by
    unfold ce05
    rw [if_neg (fun e => e hask)]
    rfl
  have hmem : ∀ p : pairT.El, p ∈ mapL E → p.1 = k → (mapL E)[lbP k (mapL E)]? = some p := by
    intro p hp hpk
    have hd : p ∈ (mapL E).drop (lbP k (mapL E)) := by
      have := List.take_append_drop (lbP k (mapL E)) (mapL E)
      rw [← this] at hp
      rcases List.mem_append.1 hp with hp | hp
      · have := h1 p hp
        rw [hpk, sLt_irrefl] at this; cases this
      · exact hp
    cases hdr : (mapL E).drop (lbP k (mapL E)) with
    | nil => rw [hdr] at hd; cases hd
    | cons q r =>
      have hq : (mapL E)[lbP k (mapL E)]? = some q := by
        have := List.getElem?_drop (xs := mapL E) (i := lbP k (mapL E)) (j := 0)
        rw [hdr] at this
        simpa using this.symm
      rw [hq]
      rw [hdr] at hd h2
      rcases List.mem_cons.1 hd with rfl | hd
      · rfl
      · have ha := mapL_asc E
        rw [← List.take_append_drop (lbP k (mapL E)) (mapL E), hdr] at ha
        have ha := (List.pairwise_cons.1 (List.pairwise_append.1 ha).2.1).1 p hd
        have h3 := h2 q (by simp)
        rw [hpk, h3] at ha
        cases ha
  cases hg : getM E k with
  | some v =>
    have hp := hmem (mkP k v) ((mapL_mem E _).2 hg) rfl
    rw [hp] at hce
    unfold ge05
    rw [hce]
    rw [if_neg (fun e => e rfl), if_pos (sEq_refl k)]
  | none =>
    unfold ge05
    cases hx : (mapL E)[lbP k (mapL E)]? with
    | none =>
      rw [hx] at hce
      rw [hce, if_pos (by decide)]
    | some p =>
      rw [hx] at hce
      rw [hce, if_neg (fun e => e rfl), if_neg (fun e => ?_)]
      have := (mapL_mem E p).1 (List.mem_of_getElem? hx)
      rw [sEq_iff.1 e, hg] at this
      cases this
end Go.Proofs.Ytekkeajcmibbaaa
namespace Go.Proofs.Ytekkeajcmibbaaa
open Av Bk

def wideL (l : List opT.El) : Bool := decide (80 < l.length) || l.any (fun x => decide (200 < (x.1.size : Int)) || decide (200 < (x.2.1.size : Int)))
def spWide : DSpec
  | [.lst (.st [.str, .str, .bool]) l] => some (True, .bool (wideL l))
  | _ => none
theorem any_step {α : Type} {p : α → Bool} {l : List α} {i : Nat} {x : α} (hx : l[i]? = some x) : (l.drop i).any p = (p x || (l.drop (i + 1)).any p) := by
  have hi := (List.getElem?_eq_some_iff.1 hx).1
  have he := (List.getElem?_eq_some_iff.1 hx).2
  rw [List.drop_eq_getElem_cons hi, he, List.any_cons]
set_option maxRecDepth 100000 in
theorem fnOk_lwWide : FnOk Try.prog 22 Try.f22 := ⟨by rfl, by kernel_rfl, by
  show okCode _ _ = true ∧ drawsOk _ = true
  exact ⟨by kernel_rfl, by kernel_rfl⟩⟩
set_option maxRecDepth 100000 in
set_option maxHeartbeats 4000000 in
theorem lwWide_ok : SpecOk Try.prog 22 spWide := by
  refine spec_body (C := cx0) mixed tbOk SpecsOk.nil (callN_ok (C := cx0) mixed tbOk SpecsOk.nil FnsOk.nil 0) fnOk_lwWide ?_
  intro ys p r h hp
  unfold spWide at h
  split at h
  · rename_i l
    cases h
    by_cases hl : 80 < (l.length : Int)
    · have hw : wideL l = true := by unfold wideL; rw [decide_eq_true (by omega), Bool.true_or]
      conv => whnf
      repeat' first
        | ((first | refine idx_kn (by assumption) ?_ | refine idx_ki (by assumption) (by omega) ?_ | refine br_true (by first | with_reducible exact rfl | assumption | decide) ?_ | refine br_false (by first | with_reducible exact rfl | assumption | decide) ?_ | with_reducible first | refine br_kt (by assumption) ?_ | refine br_kf (by assumption) ?_ | refine br_nt (by assumption) ?_ | refine br_nf (by assumption) ?_ | refine br_et (by assumption) ?_ | refine br_ef (by assumption) ?_); conv => whnf)
        | ((with_reducible first | refine br_dec (fun h => ?_) (fun h => ?_) | refine br_ndec (fun h => ?_) (fun h => ?_) | refine br_ne (fun h => ?_) (fun h => ?_) | refine br_eq (fun h => ?_) (fun h => ?_)) <;> first | (exfalso; omega) | conv => whnf)
        | (refine br_intro (fun h => ?_) (fun h => ?_) <;> conv => whnf)
        | ((first | refine need_in (by first | exact trivial | assumption | exact ⟨rfl, Nat.le_refl _⟩ | exact ⟨rfl, rfl⟩ | (simp only [inR]; omega) | omega | (simp only [roomP, true_and, and_true, List.length_take, List.length_drop, List.length_append, List.length_cons, List.length_nil, List.length_set, List.length_replicate]; omega) | (refine ⟨by first | exact trivial | rfl, by first | exact Nat.le_refl _ | omega | (simp; omega), ?_⟩; change roomP _ _ 1; simp only [roomP]; omega) | (change roomP _ _ 1; simp only [roomP]; omega) | (simp; omega) | (simp [inR]; omega) | (simp [inR]; done) | decide | (simp; done)) ?_ | refine idx_nat (by omega) (fun x hx => ?_) | refine frz_auto ?_ | refine draw_plain ?_ | refine idx_intro (by first | omega | (simp; omega) | (simp; done)) (by first | omega | (simp; omega) | (simp; done)) (fun x hx => ?_)); conv => whnf)
      rw [hw]
    · have hw : wideL l = l.any (fun x => decide (200 < (x.1.size : Int)) || decide (200 < (x.2.1.size : Int))) := by unfold wideL; rw [decide_eq_false (by omega), Bool.false_or]
      conv => whnf
      repeat' first
        | ((first | refine idx_kn (by assumption) ?_ | refine idx_ki (by assumption) (by omega) ?_ | refine br_true (by first | with_reducible exact rfl | assumption | decide) ?_ | refine br_false (by first | with_reducible exact rfl | assumption | decide) ?_ | with_reducible first | refine br_kt (by assumption) ?_ | refine br_kf (by assumption) ?_ | refine br_nt (by assumption) ?_ | refine br_nf (by assumption) ?_ | refine br_et (by assumption) ?_ | refine br_ef (by assumption) ?_); conv => whnf)
        | ((with_reducible first | refine br_dec (fun h => ?_) (fun h => ?_) | refine br_ndec (fun h => ?_) (fun h => ?_) | refine br_ne (fun h => ?_) (fun h => ?_) | refine br_eq (fun h => ?_) (fun h => ?_)) <;> first | (exfalso; omega) | conv => whnf)
        | (refine br_intro (fun h => ?_) (fun h => ?_) <;> conv => whnf)
        | ((first | refine need_in (by first | exact trivial | assumption | exact ⟨rfl, Nat.le_refl _⟩ | exact ⟨rfl, rfl⟩ | (simp only [inR]; omega) | omega | (simp only [roomP, true_and, and_true, List.length_take, List.length_drop, List.length_append, List.length_cons, List.length_nil, List.length_set, List.length_replicate]; omega) | (refine ⟨by first | exact trivial | rfl, by first | exact Nat.le_refl _ | omega | (simp; omega), ?_⟩; change roomP _ _ 1; simp only [roomP]; omega) | (change roomP _ _ 1; simp only [roomP]; omega) | (simp; omega) | (simp [inR]; omega) | (simp [inR]; done) | decide | (simp; done)) ?_ | refine idx_nat (by omega) (fun x hx => ?_) | refine frz_auto ?_ | refine draw_plain ?_ | refine idx_intro (by first | omega | (simp; omega) | (simp; done)) (by first | omega | (simp; omega) | (simp; done)) (fun x hx => ?_)); conv => whnf)
      refine loop_inv [] [3] (fun vs h => ∃ i : Nat, vs = [.int .i64 (i : Int)] ∧ h = [] ∧ i ≤ l.length ∧ wideL l = (l.drop i).any (fun x => decide (200 < (x.1.size : Int)) || decide (200 < (x.2.1.size : Int)))) (fun vs _ => match vs with | [.int _ k] => l.length - k.toNat | _ => 0) ?_
      refine ⟨⟨0, rfl, rfl, by omega, hw⟩, ?_⟩
      rintro vs h' - ⟨i, rfl, rfl, hi, hc⟩
      by_cases hil : i < l.length
      · obtain ⟨⟨k, v, d, u⟩, hx⟩ : ∃ x, l[i]? = some x := ⟨_, List.getElem?_eq_getElem hil⟩
        rw [any_step hx] at hc
        by_cases h1 : 200 < (k.size : Int)
        · rw [decide_eq_true h1, Bool.true_or, Bool.true_or] at hc
          conv => whnf
          repeat' first
            | ((first | refine idx_kn (by assumption) ?_ | refine idx_ki (by assumption) (by omega) ?_ | refine br_true (by first | with_reducible exact rfl | assumption | decide) ?_ | refine br_false (by first | with_reducible exact rfl | assumption | decide) ?_ | with_reducible first | refine br_kt (by assumption) ?_ | refine br_kf (by assumption) ?_ | refine br_nt (by assumption) ?_ | refine br_nf (by assumption) ?_ | refine br_et (by assumption) ?_ | refine br_ef (by assumption) ?_); conv => whnf)
            | ((with_reducible first | refine br_dec (fun h => ?_) (fun h => ?_) | refine br_ndec (fun h => ?_) (fun h => ?_) | refine br_ne (fun h => ?_) (fun h => ?_) | refine br_eq (fun h => ?_) (fun h => ?_)) <;> first | (exfalso; omega) | conv => whnf)
            | (refine br_intro (fun h => ?_) (fun h => ?_) <;> conv => whnf)
            | ((first | refine need_in (by first | exact trivial | assumption | exact ⟨rfl, Nat.le_refl _⟩ | exact ⟨rfl, rfl⟩ | (simp only [inR]; omega) | omega | (simp only [roomP, true_and, and_true, List.length_take, List.length_drop, List.length_append, List.length_cons, List.length_nil, List.length_set, List.length_replicate]; omega) | (refine ⟨by first | exact trivial | rfl, by first | exact Nat.le_refl _ | omega | (simp; omega), ?_⟩; change roomP _ _ 1; simp only [roomP]; omega) | (change roomP _ _ 1; simp only [roomP]; omega) | (simp; omega) | (simp [inR]; omega) | (simp [inR]; done) | decide | (simp; done)) ?_ | refine idx_nat (by omega) (fun x hx => ?_) | refine frz_auto ?_ | refine draw_plain ?_ | refine idx_intro (by first | omega | (simp; omega) | (simp; done)) (by first | omega | (simp; omega) | (simp; done)) (fun x hx => ?_)); conv => whnf)
          rw [hc]
        · by_cases h2 : 200 < (v.size : Int)
          · rw [decide_eq_true h2, Bool.or_true, Bool.true_or] at hc
            conv => whnf
            repeat' first
              | ((first | refine idx_kn (by assumption) ?_ | refine idx_ki (by assumption) (by omega) ?_ | refine br_true (by first | with_reducible exact rfl | assumption | decide) ?_ | refine br_false (by first | with_reducible exact rfl | assumption | decide) ?_ | with_reducible first | refine br_kt (by assumption) ?_ | refine br_kf (by assumption) ?_ | refine br_nt (by assumption) ?_ | refine br_nf (by assumption) ?_ | refine br_et (by assumption) ?_ | refine br_ef (by assumption) ?_); conv => whnf)
              | ((with_reducible first | refine br_dec (fun h => ?_) (fun h => ?_) | refine br_ndec (fun h => ?_) (fun h => ?_) | refine br_ne (fun h => ?_) (fun h => ?_) | refine br_eq (fun h => ?_) (fun h => ?_)) <;> first | (exfalso; omega) | conv => whnf)
              | (refine br_intro (fun h => ?_) (fun h => ?_) <;> conv => whnf)
              | ((first | refine need_in (by first | exact trivial | assumption | exact ⟨rfl, Nat.le_refl _⟩ | exact ⟨rfl, rfl⟩ | (simp only [inR]; omega) | omega | (simp only [roomP, true_and, and_true, List.length_take, List.length_drop, List.length_append, List.length_cons, List.length_nil, List.length_set, List.length_replicate]; omega) | (refine ⟨by first | exact trivial | rfl, by first | exact Nat.le_refl _ | omega | (simp; omega), ?_⟩; change roomP _ _ 1; simp only [roomP]; omega) | (change roomP _ _ 1; simp only [roomP]; omega) | (simp; omega) | (simp [inR]; omega) | (simp [inR]; done) | decide | (simp; done)) ?_ | refine idx_nat (by omega) (fun x hx => ?_) | refine frz_auto ?_ | refine draw_plain ?_ | refine idx_intro (by first | omega | (simp; omega) | (simp; done)) (by first | omega | (simp; omega) | (simp; done)) (fun x hx => ?_)); conv => whnf)
            rw [hc]
          · rw [decide_eq_false h1, decide_eq_false h2, Bool.false_or, Bool.false_or] at hc
            conv => whnf
            repeat' first
              | ((first | refine idx_kn (by assumption) ?_ | refine idx_ki (by assumption) (by omega) ?_ | refine br_true (by first | with_reducible exact rfl | assumption | decide) ?_ | refine br_false (by first | with_reducible exact rfl | assumption | decide) ?_ | with_reducible first | refine br_kt (by assumption) ?_ | refine br_kf (by assumption) ?_ | refine br_nt (by assumption) ?_ | refine br_nf (by assumption) ?_ | refine br_et (by assumption) ?_ | refine br_ef (by assumption) ?_); conv => whnf)
              | ((with_reducible first | refine br_dec (fun h => ?_) (fun h => ?_) | refine br_ndec (fun h => ?_) (fun h => ?_) | refine br_ne (fun h => ?_) (fun h => ?_) | refine br_eq (fun h => ?_) (fun h => ?_)) <;> first | (exfalso; omega) | conv => whnf)
              | (refine br_intro (fun h => ?_) (fun h => ?_) <;> conv => whnf)
              | ((first | refine need_in (by first | exact trivial | assumption | exact ⟨rfl, Nat.le_refl _⟩ | exact ⟨rfl, rfl⟩ | (simp only [inR]; omega) | omega | (simp only [roomP, true_and, and_true, List.length_take, List.length_drop, List.length_append, List.length_cons, List.length_nil, List.length_set, List.length_replicate]; omega) | (refine ⟨by first | exact trivial | rfl, by first | exact Nat.le_refl _ | omega | (simp; omega), ?_⟩; change roomP _ _ 1; simp only [roomP]; omega) | (change roomP _ _ 1; simp only [roomP]; omega) | (simp; omega) | (simp [inR]; omega) | (simp [inR]; done) | decide | (simp; done)) ?_ | refine idx_nat (by omega) (fun x hx => ?_) | refine frz_auto ?_ | refine draw_plain ?_ | refine idx_intro (by first | omega | (simp; omega) | (simp; done)) (by first | omega | (simp; omega) | (simp; done)) (fun x hx => ?_)); conv => whnf)
            refine back_intro (by conv => whnf) rfl ⟨i + 1, rfl, rfl, by omega, hc⟩ ?_
            show l.length - ((i : Int) + 1).toNat < l.length - (i : Int).toNat
            omega
      · rw [List.drop_eq_nil_of_le (by omega)] at hc
        have hc : wideL l = false := hc
        conv => whnf
        repeat' first
          | ((first | refine idx_kn (by assumption) ?_ | refine idx_ki (by assumption) (by omega) ?_ | refine br_true (by first | with_reducible exact rfl | assumption | decide) ?_ | refine br_false (by first | with_reducible exact rfl | assumption | decide) ?_ | with_reducible first | refine br_kt (by assumption) ?_ | refine br_kf (by assumption) ?_ | refine br_nt (by assumption) ?_ | refine br_nf (by assumption) ?_ | refine br_et (by assumption) ?_ | refine br_ef (by assumption) ?_); conv => whnf)
          | ((with_reducible first | refine br_dec (fun h => ?_) (fun h => ?_) | refine br_ndec (fun h => ?_) (fun h => ?_) | refine br_ne (fun h => ?_) (fun h => ?_) | refine br_eq (fun h => ?_) (fun h => ?_)) <;> first | (exfalso; omega) | conv => whnf)
          | (refine br_intro (fun h => ?_) (fun h => ?_) <;> conv => whnf)
          | ((first | refine need_in (by first | exact trivial | assumption | exact ⟨rfl, Nat.le_refl _⟩ | exact ⟨rfl, rfl⟩ | (simp only [inR]; omega) | omega | (simp only [roomP, true_and, and_true, List.length_take, List.length_drop, List.length_append, List.length_cons, List.length_nil, List.length_set, List.length_replicate]; omega) | (refine ⟨by first | exact trivial | rfl, by first | exact Nat.le_refl _ | omega | (simp; omega), ?_⟩; change roomP _ _ 1; simp only [roomP]; omega) | (change roomP _ _ 1; simp only [roomP]; omega) | (simp; omega) | (simp [inR]; omega) | (simp [inR]; done) | decide | (simp; done)) ?_ | refine idx_nat (by omega) (fun x hx => ?_) | refine frz_auto ?_ | refine draw_plain ?_ | refine idx_intro (by first | omega | (simp; omega) | (simp; done)) (by first | omega | (simp; omega) | (simp; done)) (fun x hx => ?_)); conv => whnf)
        rw [hc]
  · cases h
theorem askM0 {b : List entT.El} {rs : List runT.El} {k : ByteArray} (h : (vcL b rs).2 = 0) (hk : (k.size : Int) ≤ 32) : askE b rs k = 0 := by
  unfold askE
  rw [if_neg (fun e => e h)]
  unfold keyE
  rw [decide_eq_false (by omega)]
  rfl
set_option maxRecDepth 100000 in
theorem fnOk_lMo : FnOk Try.prog 5 Try.f5 := ⟨by rfl, by kernel_rfl, by
  show okCode _ _ = true ∧ drawsOk _ = true
  exact ⟨by kernel_rfl, by kernel_rfl⟩⟩
noncomputable def lMo_C : Cx := ⟨tb, [], [(12, spAwake), (22, spWide), (23, spView), (24, spW05), (17, spPart), (19, spCount), (21, spSameP), (15, spGet), (25, spGe05)]⟩
theorem lMo_D : SpecsOk Try.prog lMo_C.specs := .cons awake_ok (.cons lwWide_ok (.cons lwView_ok (.cons rfW05_ok (.cons lkPart_ok (.cons lkCount_ok (.cons same05_ok (.cons lkGet_ok (.cons rfGe05_ok .nil))))))))
theorem lMo_F : FnsOk Try.prog lMo_C.fns := FnsOk.nil
abbrev lMo_N : Nat := 0
abbrev lMo_T : List Ty := [.sl opT, .sl (.int .u8)]
abbrev lMo_FN := fnOk_lMo
set_option maxRecDepth 100000 in
set_option maxHeartbeats 8000000 in
theorem lMo' (l : List opT.El) (cuts : List (Ty.int .u8).El) (hc0 : ∀ c ∈ cuts, (0 : Int) ≤ c) : bodyA lMo_C (callN lMo_C lMo_N) Try.f5 [.lst opT l, .lst (.int .u8) cuts] [] (fun v _ => v = .bool true) := by
  by_cases hw : wideL l = false
  · have hl80 : l.length ≤ 80 := by
      unfold wideL at hw
      rw [Bool.or_eq_false_iff] at hw
      have := of_decide_eq_false hw.1
      omega
    by_cases hcu : (cuts.length : Int) ≤ 80
    · have hPv : l.length ≤ 1000 ∧ cuts.length ≤ 1000 ∧ ∀ c ∈ cuts, (0 : Int) ≤ c := ⟨by omega, by omega, hc0⟩
      cases hvi : (viewV l cuts).2.2 with
      | false =>
        have hvi' : (!(viewV l cuts).2.2) = true := by rw [hvi]; rfl
        conv => whnf
        repeat' first
          | ((first | refine idx_kn (by assumption) ?_ | refine idx_ki (by assumption) (by omega) ?_ | refine br_true (by first | with_reducible exact rfl | assumption | decide) ?_ | refine br_false (by first | with_reducible exact rfl | assumption | decide) ?_ | with_reducible first | refine br_kt (by assumption) ?_ | refine br_kf (by assumption) ?_ | refine br_nt (by assumption) ?_ | refine br_nf (by assumption) ?_ | refine br_et (by assumption) ?_ | refine br_ef (by assumption) ?_); conv => whnf)
          | ((with_reducible first | refine br_dec (fun h => ?_) (fun h => ?_) | refine br_ndec (fun h => ?_) (fun h => ?_) | refine br_ne (fun h => ?_) (fun h => ?_) | refine br_eq (fun h => ?_) (fun h => ?_)) <;> first | (exfalso; omega) | conv => whnf)
          | (refine br_intro (fun h => ?_) (fun h => ?_) <;> conv => whnf)
          | ((first | refine need_in (by first | exact trivial | assumption | exact ⟨rfl, Nat.le_refl _⟩ | exact ⟨rfl, rfl⟩ | (simp only [inR]; omega) | omega | (simp only [roomP, true_and, and_true, List.length_take, List.length_drop, List.length_append, List.length_cons, List.length_nil, List.length_set, List.length_replicate]; omega) | (refine ⟨by first | exact trivial | rfl, by first | exact Nat.le_refl _ | omega | (simp; omega), ?_⟩; change roomP _ _ 1; simp only [roomP]; omega) | (change roomP _ _ 1; simp only [roomP]; omega) | (simp; omega) | (simp [inR]; omega) | (simp [inR]; done) | decide | (simp; done)) ?_ | refine idx_nat (by omega) (fun x hx => ?_) | refine frz_auto ?_ | refine draw_plain ?_ | refine idx_intro (by first | omega | (simp; omega) | (simp; done)) (by first | omega | (simp; omega) | (simp; done)) (fun x hx => ?_)); conv => whnf)
      | true =>
        have hvi' : (!(viewV l cuts).2.2) = false := by rw [hvi]; rfl
        have hok : okO l = true := by
          cases hk : okO l with
          | true => rfl
          | false => unfold viewV at hvi; rw [hk] at hvi; cases hvi
        have hvw : viewV l cuts = (nwL (vwA l cuts).1, (vwA l cuts).2, decide ((vwA l cuts).2.length ≤ 20)) := by unfold viewV; rw [hok]; rfl
        have hr20 : (vwA l cuts).2.length ≤ 20 := by rw [hvw] at hvi; exact of_decide_eq_true hvi
        have hvg : (vcL (viewV l cuts).1 (viewV l cuts).2.1).2 = 0 ∧ ∀ k, getM (allE (viewV l cuts).1 (viewV l cuts).2.1) k = getM (entsO l).reverse k := by
          rw [hvw]; exact view_good hok (by omega) hr20
        obtain ⟨hv, hgm⟩ := hvg
        have hpa := part_all hv
        have hmm : mapL (allE (viewV l cuts).1 (viewV l cuts).2.1) = mapO l := map_ext hgm
        have hml := mapO_len l
        have p1 : (partR (viewV l cuts).1 (viewV l cuts).2.1 ⟨#[]⟩ ⟨#[]⟩ false).2 = 0 := by rw [hpa]
        have p2 : (partR (viewV l cuts).1 (viewV l cuts).2.1 ⟨#[]⟩ ⟨#[]⟩ false).1.length = (mapO l).length := by rw [hpa, ← hmm]
        have p2' : ((partR (viewV l cuts).1 (viewV l cuts).2.1 ⟨#[]⟩ ⟨#[]⟩ false).1.length : Int) = ((mapO l).length : Int) := by rw [p2]
        have p3 : sameL pairT (partR (viewV l cuts).1 (viewV l cuts).2.1 ⟨#[]⟩ ⟨#[]⟩ false).1 (mapO l) = true := by rw [hpa, ← hmm]; exact sameP_refl _
        have p4 : (!sameL pairT (partR (viewV l cuts).1 (viewV l cuts).2.1 ⟨#[]⟩ ⟨#[]⟩ false).1 (mapO l)) = false := by rw [p3]; rfl
        have p5 : (partR (viewV l cuts).1 (viewV l cuts).2.1 ⟨#[]⟩ ⟨#[]⟩ false).1.length ≤ 4611686018427387904 := by omega
        conv => whnf
        repeat' first
          | ((first | refine idx_kn (by assumption) ?_ | refine idx_ki (by assumption) (by omega) ?_ | refine br_true (by first | with_reducible exact rfl | assumption | decide) ?_ | refine br_false (by first | with_reducible exact rfl | assumption | decide) ?_ | with_reducible first | refine br_kt (by assumption) ?_ | refine br_kf (by assumption) ?_ | refine br_nt (by assumption) ?_ | refine br_nf (by assumption) ?_ | refine br_et (by assumption) ?_ | refine br_ef (by assumption) ?_); conv => whnf)
          | ((with_reducible first | refine br_dec (fun h => ?_) (fun h => ?_) | refine br_ndec (fun h => ?_) (fun h => ?_) | refine br_ne (fun h => ?_) (fun h => ?_) | refine br_eq (fun h => ?_) (fun h => ?_)) <;> first | (exfalso; omega) | conv => whnf)
          | (refine br_intro (fun h => ?_) (fun h => ?_) <;> conv => whnf)
          | ((first | refine need_in (by first | exact trivial | assumption | exact ⟨rfl, Nat.le_refl _⟩ | exact ⟨rfl, rfl⟩ | (simp only [inR]; omega) | omega | (simp only [roomP, true_and, and_true, List.length_take, List.length_drop, List.length_append, List.length_cons, List.length_nil, List.length_set, List.length_replicate]; omega) | (refine ⟨by first | exact trivial | rfl, by first | exact Nat.le_refl _ | omega | (simp; omega), ?_⟩; change roomP _ _ 1; simp only [roomP]; omega) | (change roomP _ _ 1; simp only [roomP]; omega) | (simp; omega) | (simp [inR]; omega) | (simp [inR]; done) | decide | (simp; done)) ?_ | refine idx_nat (by omega) (fun x hx => ?_) | refine frz_auto ?_ | refine draw_plain ?_ | refine idx_intro (by first | omega | (simp; omega) | (simp; done)) (by first | omega | (simp; omega) | (simp; done)) (fun x hx => ?_)); conv => whnf)
        refine loop_inv [.lst 7 pairT] [7, 8] (fun vs h => ∃ i : Nat, vs = [.lst pairT (mapO (l.take i)), .int .i64 (i : Int)] ∧ h = [.cells 25 [.lst entT (viewV l cuts).1, .lst runT (viewV l cuts).2.1], .dead] ∧ i ≤ l.length) (fun vs _ => match vs with | [_, .int _ k] => l.length - k.toNat | _ => 0) ?_
        conv => whnf
        repeat' first
          | ((first | refine idx_kn (by assumption) ?_ | refine idx_ki (by assumption) (by omega) ?_ | refine br_true (by first | with_reducible exact rfl | assumption | decide) ?_ | refine br_false (by first | with_reducible exact rfl | assumption | decide) ?_ | with_reducible first | refine br_kt (by assumption) ?_ | refine br_kf (by assumption) ?_ | refine br_nt (by assumption) ?_ | refine br_nf (by assumption) ?_ | refine br_et (by assumption) ?_ | refine br_ef (by assumption) ?_); conv => whnf)
          | ((with_reducible first | refine br_dec (fun h => ?_) (fun h => ?_) | refine br_ndec (fun h => ?_) (fun h => ?_) | refine br_ne (fun h => ?_) (fun h => ?_) | refine br_eq (fun h => ?_) (fun h => ?_)) <;> first | (exfalso; omega) | conv => whnf)
          | (refine br_intro (fun h => ?_) (fun h => ?_) <;> conv => whnf)
          | ((first | refine need_in (by first | exact trivial | assumption | exact ⟨rfl, Nat.le_refl _⟩ | exact ⟨rfl, rfl⟩ | (simp only [inR]; omega) | omega | (simp only [roomP, true_and, and_true, List.length_take, List.length_drop, List.length_append, List.length_cons, List.length_nil, List.length_set, List.length_replicate]; omega) | (refine ⟨by first | exact trivial | rfl, by first | exact Nat.le_refl _ | omega | (simp; omega), ?_⟩; change roomP _ _ 1; simp only [roomP]; omega) | (change roomP _ _ 1; simp only [roomP]; omega) | (simp; omega) | (simp [inR]; omega) | (simp [inR]; done) | decide | (simp; done)) ?_ | refine idx_nat (by omega) (fun x hx => ?_) | refine frz_auto ?_ | refine draw_plain ?_ | refine idx_intro (by first | omega | (simp; omega) | (simp; done)) (by first | omega | (simp; omega) | (simp; done)) (fun x hx => ?_)); conv => whnf)
        conv => whnf
        refine ⟨⟨0, rfl, rfl, by omega⟩, ?_⟩
        rintro vs h' - ⟨i, rfl, rfl, hi⟩
        by_cases hil : i < l.length
        · obtain ⟨x, hx⟩ : ∃ x, l[i]? = some x := ⟨_, List.getElem?_eq_getElem hil⟩
          have hsl : List.take (((i : Int) + 1).toNat - (i : Int).toNat) (List.drop (i : Int).toNat l) = [x] := by
            rw [show ((i : Int) + 1).toNat - (i : Int).toNat = 1 by omega, Int.toNat_natCast]
            have hi' := (List.getElem?_eq_some_iff.1 hx).1
            have he' := (List.getElem?_eq_some_iff.1 hx).2
            rw [List.drop_eq_getElem_cons hi', he']
            rfl
          have hws := w05_step hx hok (by omega)
          have w1 : (w05 (mapO (l.take i)) (List.take (((i : Int) + 1).toNat - (i : Int).toNat) (List.drop (i : Int).toNat l))).2 = 0 := by rw [hsl, hws]
          conv => whnf
          repeat' first
            | ((first | refine idx_kn (by assumption) ?_ | refine idx_ki (by assumption) (by omega) ?_ | refine br_true (by first | with_reducible exact rfl | assumption | decide) ?_ | refine br_false (by first | with_reducible exact rfl | assumption | decide) ?_ | with_reducible first | refine br_kt (by assumption) ?_ | refine br_kf (by assumption) ?_ | refine br_nt (by assumption) ?_ | refine br_nf (by assumption) ?_ | refine br_et (by assumption) ?_ | refine br_ef (by assumption) ?_); conv => whnf)
            | ((with_reducible first | refine br_dec (fun h => ?_) (fun h => ?_) | refine br_ndec (fun h => ?_) (fun h => ?_) | refine br_ne (fun h => ?_) (fun h => ?_) | refine br_eq (fun h => ?_) (fun h => ?_)) <;> first | (exfalso; omega) | conv => whnf)
            | (refine br_intro (fun h => ?_) (fun h => ?_) <;> conv => whnf)
            | ((first | refine need_in (by first | exact trivial | assumption | exact ⟨rfl, Nat.le_refl _⟩ | exact ⟨rfl, rfl⟩ | (simp only [inR]; omega) | omega | (simp only [roomP, true_and, and_true, List.length_take, List.length_drop, List.length_append, List.length_cons, List.length_nil, List.length_set, List.length_replicate]; omega) | (refine ⟨by first | exact trivial | rfl, by first | exact Nat.le_refl _ | omega | (simp; omega), ?_⟩; change roomP _ _ 1; simp only [roomP]; omega) | (change roomP _ _ 1; simp only [roomP]; omega) | (simp; omega) | (simp [inR]; omega) | (simp [inR]; done) | decide | (simp; done)) ?_ | refine idx_nat (by omega) (fun x hx => ?_) | refine frz_auto ?_ | refine draw_plain ?_ | refine idx_intro (by first | omega | (simp; omega) | (simp; done)) (by first | omega | (simp; omega) | (simp; done)) (fun x hx => ?_)); conv => whnf)
          refine back_intro (by conv => whnf) rfl ⟨i + 1, two_eq ?_, rfl, by omega⟩ ?_
          · rw [hsl, hws]
          · show l.length - ((i : Int) + 1).toNat < l.length - (i : Int).toNat
            omega
        · have hie : i = l.length := by omega
          subst hie
          rw [List.take_length]
          conv => whnf
          repeat' first
            | ((first | refine idx_kn (by assumption) ?_ | refine idx_ki (by assumption) (by omega) ?_ | refine br_true (by first | with_reducible exact rfl | assumption | decide) ?_ | refine br_false (by first | with_reducible exact rfl | assumption | decide) ?_ | with_reducible first | refine br_kt (by assumption) ?_ | refine br_kf (by assumption) ?_ | refine br_nt (by assumption) ?_ | refine br_nf (by assumption) ?_ | refine br_et (by assumption) ?_ | refine br_ef (by assumption) ?_); conv => whnf)
            | ((with_reducible first | refine br_dec (fun h => ?_) (fun h => ?_) | refine br_ndec (fun h => ?_) (fun h => ?_) | refine br_ne (fun h => ?_) (fun h => ?_) | refine br_eq (fun h => ?_) (fun h => ?_)) <;> first | (exfalso; omega) | conv => whnf)
            | (refine br_intro (fun h => ?_) (fun h => ?_) <;> conv => whnf)
            | ((first | refine need_in (by first | exact trivial | assumption | exact ⟨rfl, Nat.le_refl _⟩ | exact ⟨rfl, rfl⟩ | (simp only [inR]; omega) | omega | (simp only [roomP, true_and, and_true, List.length_take, List.length_drop, List.length_append, List.length_cons, List.length_nil, List.length_set, List.length_replicate]; omega) | (refine ⟨by first | exact trivial | rfl, by first | exact Nat.le_refl _ | omega | (simp; omega), ?_⟩; change roomP _ _ 1; simp only [roomP]; omega) | (change roomP _ _ 1; simp only [roomP]; omega) | (simp; omega) | (simp [inR]; omega) | (simp [inR]; done) | decide | (simp; done)) ?_ | refine idx_nat (by omega) (fun x hx => ?_) | refine frz_auto ?_ | refine draw_plain ?_ | refine idx_intro (by first | omega | (simp; omega) | (simp; done)) (by first | omega | (simp; omega) | (simp; done)) (fun x hx => ?_)); conv => whnf)
          apply loop_inv [] [15] (fun vs h => ∃ i : Nat, vs = [.int .i64 (i : Int)] ∧ h = [.cells 25 [.lst entT (viewV l cuts).1, .lst runT (viewV l cuts).2.1], .dead] ∧ i ≤ l.length) (fun vs _ => match vs with | [.int _ k] => l.length - k.toNat | _ => 0)
          conv => whnf
          refine ⟨⟨0, rfl, rfl, by omega⟩, ?_⟩
          rintro vs h' - ⟨i, rfl, rfl, hi2⟩
          by_cases hil2 : i < l.length
          · obtain ⟨⟨k, v, d, u⟩, hx⟩ : ∃ x, l[i]? = some x := ⟨_, List.getElem?_eq_getElem hil2⟩
            have hex := okO_mem hok _ (List.mem_of_getElem? (entsO_get hx))
            have hks : (k.size : Int) ≤ 32 := by
              have := errX_long hex
              exact Int.not_lt.1 (fun e => this (.inl e))
            have hg1 := getR_o (askM0 hv hks)
            have hg2 := ge05_map (E := (entsO l).reverse) (k := k) (fun y hy => okO_mem hok y (List.mem_reverse.1 hy)) (by rw [List.length_reverse, entsO_len]; omega) hks
            rw [hgm] at hg1
            replace hg1 : getR (viewV l cuts).1 (viewV l cuts).2.1 k = ge05 (mapO l) k := by
              rw [hg1, show mapO l = mapL (entsO l).reverse from rfl, hg2]
              cases getM (entsO l).reverse k <;> rfl
            have g1 : sEq (getR (viewV l cuts).1 (viewV l cuts).2.1 k).1 (ge05 (mapO l) k).1 = true := by rw [hg1]; exact sEq_refl _
            have g1' : (!sEq (getR (viewV l cuts).1 (viewV l cuts).2.1 k).1 (ge05 (mapO l) k).1) = false := by rw [g1]; rfl
            have g2 : (getR (viewV l cuts).1 (viewV l cuts).2.1 k).2 = (ge05 (mapO l) k).2 := by rw [hg1]
            conv => whnf
            repeat' first
              | ((first | refine idx_kn (by assumption) ?_ | refine idx_ki (by assumption) (by omega) ?_ | refine br_true (by first | with_reducible exact rfl | assumption | decide) ?_ | refine br_false (by first | with_reducible exact rfl | assumption | decide) ?_ | with_reducible first | refine br_kt (by assumption) ?_ | refine br_kf (by assumption) ?_ | refine br_nt (by assumption) ?_ | refine br_nf (by assumption) ?_ | refine br_et (by assumption) ?_ | refine br_ef (by assumption) ?_); conv => whnf)
              | ((with_reducible first | refine br_dec (fun h => ?_) (fun h => ?_) | refine br_ndec (fun h => ?_) (fun h => ?_) | refine br_ne (fun h => ?_) (fun h => ?_) | refine br_eq (fun h => ?_) (fun h => ?_)) <;> first | (exfalso; omega) | conv => whnf)
              | (refine br_intro (fun h => ?_) (fun h => ?_) <;> conv => whnf)
              | ((first | refine need_in (by first | exact trivial | assumption | exact ⟨rfl, Nat.le_refl _⟩ | exact ⟨rfl, rfl⟩ | (simp only [inR]; omega) | omega | (simp only [roomP, true_and, and_true, List.length_take, List.length_drop, List.length_append, List.length_cons, List.length_nil, List.length_set, List.length_replicate]; omega) | (refine ⟨by first | exact trivial | rfl, by first | exact Nat.le_refl _ | omega | (simp; omega), ?_⟩; change roomP _ _ 1; simp only [roomP]; omega) | (change roomP _ _ 1; simp only [roomP]; omega) | (simp; omega) | (simp [inR]; omega) | (simp [inR]; done) | decide | (simp; done)) ?_ | refine idx_nat (by omega) (fun x hx => ?_) | refine frz_auto ?_ | refine draw_plain ?_ | refine idx_intro (by first | omega | (simp; omega) | (simp; done)) (by first | omega | (simp; omega) | (simp; done)) (fun x hx => ?_)); conv => whnf)
            refine back_intro (by conv => whnf) rfl ⟨i + 1, rfl, rfl, by omega⟩ ?_
            show l.length - ((i : Int) + 1).toNat < l.length - (i : Int).toNat
            omega
          · conv => whnf
            repeat' first
              | ((first | refine idx_kn (by assumption) ?_ | refine idx_ki (by assumption) (by omega) ?_ | refine br_true (by first | with_reducible exact rfl | assumption | decide) ?_ | refine br_false (by first | with_reducible exact rfl | assumption | decide) ?_ | with_reducible first | refine br_kt (by assumption) ?_ | refine br_kf (by assumption) ?_ | refine br_nt (by assumption) ?_ | refine br_nf (by assumption) ?_ | refine br_et (by assumption) ?_ | refine br_ef (by assumption) ?_); conv => whnf)
              | ((with_reducible first | refine br_dec (fun h => ?_) (fun h => ?_) | refine br_ndec (fun h => ?_) (fun h => ?_) | refine br_ne (fun h => ?_) (fun h => ?_) | refine br_eq (fun h => ?_) (fun h => ?_)) <;> first | (exfalso; omega) | conv => whnf)
              | (refine br_intro (fun h => ?_) (fun h => ?_) <;> conv => whnf)
              | ((first | refine need_in (by first | exact trivial | assumption | exact ⟨rfl, Nat.le_refl _⟩ | exact ⟨rfl, rfl⟩ | (simp only [inR]; omega) | omega | (simp only [roomP, true_and, and_true, List.length_take, List.length_drop, List.length_append, List.length_cons, List.length_nil, List.length_set, List.length_replicate]; omega) | (refine ⟨by first | exact trivial | rfl, by first | exact Nat.le_refl _ | omega | (simp; omega), ?_⟩; change roomP _ _ 1; simp only [roomP]; omega) | (change roomP _ _ 1; simp only [roomP]; omega) | (simp; omega) | (simp [inR]; omega) | (simp [inR]; done) | decide | (simp; done)) ?_ | refine idx_nat (by omega) (fun x hx => ?_) | refine frz_auto ?_ | refine draw_plain ?_ | refine idx_intro (by first | omega | (simp; omega) | (simp; done)) (by first | omega | (simp; omega) | (simp; done)) (fun x hx => ?_)); conv => whnf)
    · conv => whnf
      repeat' first
        | ((first | refine idx_kn (by assumption) ?_ | refine idx_ki (by assumption) (by omega) ?_ | refine br_true (by first | with_reducible exact rfl | assumption | decide) ?_ | refine br_false (by first | with_reducible exact rfl | assumption | decide) ?_ | with_reducible first | refine br_kt (by assumption) ?_ | refine br_kf (by assumption) ?_ | refine br_nt (by assumption) ?_ | refine br_nf (by assumption) ?_ | refine br_et (by assumption) ?_ | refine br_ef (by assumption) ?_); conv => whnf)
        | ((with_reducible first | refine br_dec (fun h => ?_) (fun h => ?_) | refine br_ndec (fun h => ?_) (fun h => ?_) | refine br_ne (fun h => ?_) (fun h => ?_) | refine br_eq (fun h => ?_) (fun h => ?_)) <;> first | (exfalso; omega) | conv => whnf)
        | (refine br_intro (fun h => ?_) (fun h => ?_) <;> conv => whnf)
        | ((first | refine need_in (by first | exact trivial | assumption | exact ⟨rfl, Nat.le_refl _⟩ | exact ⟨rfl, rfl⟩ | (simp only [inR]; omega) | omega | (simp only [roomP, true_and, and_true, List.length_take, List.length_drop, List.length_append, List.length_cons, List.length_nil, List.length_set, List.length_replicate]; omega) | (refine ⟨by first | exact trivial | rfl, by first | exact Nat.le_refl _ | omega | (simp; omega), ?_⟩; change roomP _ _ 1; simp only [roomP]; omega) | (change roomP _ _ 1; simp only [roomP]; omega) | (simp; omega) | (simp [inR]; omega) | (simp [inR]; done) | decide | (simp; done)) ?_ | refine idx_nat (by omega) (fun x hx => ?_) | refine frz_auto ?_ | refine draw_plain ?_ | refine idx_intro (by first | omega | (simp; omega) | (simp; done)) (by first | omega | (simp; omega) | (simp; done)) (fun x hx => ?_)); conv => whnf)
  · have hw : wideL l = true := by simpa using hw
    conv => whnf
    repeat' first
      | ((first | refine idx_kn (by assumption) ?_ | refine idx_ki (by assumption) (by omega) ?_ | refine br_true (by first | with_reducible exact rfl | assumption | decide) ?_ | refine br_false (by first | with_reducible exact rfl | assumption | decide) ?_ | with_reducible first | refine br_kt (by assumption) ?_ | refine br_kf (by assumption) ?_ | refine br_nt (by assumption) ?_ | refine br_nf (by assumption) ?_ | refine br_et (by assumption) ?_ | refine br_ef (by assumption) ?_); conv => whnf)
      | ((with_reducible first | refine br_dec (fun h => ?_) (fun h => ?_) | refine br_ndec (fun h => ?_) (fun h => ?_) | refine br_ne (fun h => ?_) (fun h => ?_) | refine br_eq (fun h => ?_) (fun h => ?_)) <;> first | (exfalso; omega) | conv => whnf)
      | (refine br_intro (fun h => ?_) (fun h => ?_) <;> conv => whnf)
      | ((first | refine need_in (by first | exact trivial | assumption | exact ⟨rfl, Nat.le_refl _⟩ | exact ⟨rfl, rfl⟩ | (simp only [inR]; omega) | omega | (simp only [roomP, true_and, and_true, List.length_take, List.length_drop, List.length_append, List.length_cons, List.length_nil, List.length_set, List.length_replicate]; omega) | (refine ⟨by first | exact trivial | rfl, by first | exact Nat.le_refl _ | omega | (simp; omega), ?_⟩; change roomP _ _ 1; simp only [roomP]; omega) | (change roomP _ _ 1; simp only [roomP]; omega) | (simp; omega) | (simp [inR]; omega) | (simp [inR]; done) | decide | (simp; done)) ?_ | refine idx_nat (by omega) (fun x hx => ?_) | refine frz_auto ?_ | refine draw_plain ?_ | refine idx_intro (by first | omega | (simp; omega) | (simp; done)) (by first | omega | (simp; omega) | (simp; done)) (fun x hx => ?_)); conv => whnf)
theorem lMo : ∀ es : Ty.Els lMo_T, tyOks lMo_T es → bodyA lMo_C (callN lMo_C lMo_N) Try.f5 (avTs lMo_T es) [] (fun v _ => v = .bool true) := by
  rintro ⟨l, cuts, _⟩ h
  simp only [tyOks, tyOk] at h
  exact lMo' l cuts (fun c hc => (h.2.1.2 c hc).1)
end Go.Proofs.Ytekkeajcmibbaaa
