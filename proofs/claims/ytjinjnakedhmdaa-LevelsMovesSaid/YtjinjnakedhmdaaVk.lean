/-
  Levels: Arrive and Leave.
  Levels: comparison; what is looked at.
-/
import Derived.Test.YtjinjnakedhmdaaVi
import Derived.Test.YtjinjnakedhmdaaVg
namespace Go.Proofs.Ytjinjnakedhmdaa
open Av Bk

def spArr : DSpec
  | [.agg [.int .i64 b, .lst (.st [.sl (.st [.int .i64, .sl (.st [.str, .str, .bool, .int .i64])])]) l], .int .i64 n, .agg [.int .i64 id, .lst (.st [.str, .str, .bool, .int .i64]) es]] => some (True, .tup [.agg [.int .i64 (arrL b l n (id, es, ())).1, .lst lvT (arrL b l n (id, es, ())).2.1], .int .i64 (arrL b l n (id, es, ())).2.2])
  | _ => none
def spLea : DSpec
  | [.agg [.int .i64 b, .lst (.st [.sl (.st [.int .i64, .sl (.st [.str, .str, .bool, .int .i64])])]) l], .int .i64 n] => some (True, .tup [.agg [.int .i64 (leaL b l n).1.1, .lst lvT (leaL b l n).1.2], .lst runT (leaL b l n).2.1, .int .i64 (leaL b l n).2.2])
  | _ => none
set_option maxRecDepth 100000 in
theorem fnOk_lvArr : FnOk Try.prog 16 Try.f16 := ⟨by rfl, by kernel_rfl, by
  show okCode _ _ = true ∧ drawsOk _ = true
  exact ⟨by kernel_rfl, by kernel_rfl⟩⟩
set_option maxRecDepth 100000 in
theorem fnOk_lvLea : FnOk Try.prog 19 Try.f19 := ⟨by rfl, by kernel_rfl, by
  show okCode _ _ = true ∧ drawsOk _ = true
  exact ⟨by kernel_rfl, by kernel_rfl⟩⟩
noncomputable def cvA : Cx := ⟨tb, [(41, Try.f41)], [(39, .d spInE), (40, .d spFit), (42, .d spOwnL), (43, .d (nz [none, none, some runT] spWith)), (50, .i spNew1)]⟩
theorem spvA : SpecsOk Try.prog cvA.specs := .cons lvIn_ok (.cons lvFit_ok (.cons lvOwn_ok (.cons (SpecOk.nz lvWith_ok _) (.consI lvNew1_ok .nil))))
theorem fnvA : FnsOk Try.prog cvA.fns := .cons fnOk_lvNewest1 .nil
set_option maxRecDepth 100000 in
set_option maxHeartbeats 4000000 in
theorem lvLea_ok : SpecOk Try.prog 19 spLea := by
  refine spec_body (C := cvA) mixed tbOk spvA (callN_ok (C := cvA) mixed tbOk spvA fnvA 2) fnOk_lvLea ?_
  intro ys p r h hp
  unfold spLea at h
  split at h
  · rename_i b l n
    cases h
    by_cases h1 : inE b l n = 0
    · obtain ⟨hok, hn0, hn1⟩ := inE_ok h1
      have hll := hok.len
      have hol := ownL_len hok n
      by_cases h2 : ((ownL l n).length : Int) = 0
      · have hc : leaL b l n = ((0, []), [], 4) := by unfold leaL; rw [if_neg (fun e => e h1), if_pos (by omega)]
        conv => whnf
        repeat' first
          | ((first | refine idx_kn (by assumption) ?_ | refine idx_ki (by assumption) (by omega) ?_ | refine br_true (by first | with_reducible exact rfl | assumption | decide) ?_ | refine br_false (by first | with_reducible exact rfl | assumption | decide) ?_ | with_reducible first | refine br_kt (by assumption) ?_ | refine br_kf (by assumption) ?_ | refine br_nt (by assumption) ?_ | refine br_nf (by assumption) ?_ | refine br_et (by assumption) ?_ | refine br_ef (by assumption) ?_); conv => whnf)
          | ((with_reducible first | refine br_dec (fun h => ?_) (fun h => ?_) | refine br_ndec (fun h => ?_) (fun h => ?_) | refine br_ne (fun h => ?_) (fun h => ?_) | refine br_eq (fun h => ?_) (fun h => ?_)) <;> first | (exfalso; omega) | conv => whnf)
          | (refine br_intro (fun h => ?_) (fun h => ?_) <;> conv => whnf)
          | ((first | refine need_in (by first | exact trivial | assumption | exact ⟨rfl, Nat.le_refl _⟩ | exact ⟨rfl, rfl⟩ | (simp only [inR]; omega) | omega | (simp only [roomP, true_and, and_true, List.length_take, List.length_drop, List.length_append, List.length_cons, List.length_nil, List.length_set, List.length_replicate]; omega) | (refine ⟨by first | exact trivial | rfl, by first | exact Nat.le_refl _ | omega | (simp; omega), ?_⟩; change roomP _ _ 1; simp only [roomP]; omega) | (change roomP _ _ 1; simp only [roomP]; omega) | (simp; omega) | (simp [inR]; omega) | (simp [inR]; done) | decide | (simp; done) | exact ⟨by first | omega | (simp; omega), by assumption⟩) ?_ | refine idx_nat (by omega) (fun x hx => ?_) | refine frz_auto ?_ | refine draw_plain ?_ | refine idx_intro (by first | omega | (simp; omega) | (simp; done)) (by first | omega | (simp; omega) | (simp; done)) (fun x hx => ?_)); conv => whnf)
        all_goals (rw [hc]; rfl)
      · have hc : leaL b l n = ((b, withL l n.toNat []), ownL l n, 0) := by unfold leaL; rw [if_neg (fun e => e h1), if_neg (by omega)]
        conv => whnf
        repeat' first
          | ((first | refine idx_kn (by assumption) ?_ | refine idx_ki (by assumption) (by omega) ?_ | refine br_true (by first | with_reducible exact rfl | assumption | decide) ?_ | refine br_false (by first | with_reducible exact rfl | assumption | decide) ?_ | with_reducible first | refine br_kt (by assumption) ?_ | refine br_kf (by assumption) ?_ | refine br_nt (by assumption) ?_ | refine br_nf (by assumption) ?_ | refine br_et (by assumption) ?_ | refine br_ef (by assumption) ?_); conv => whnf)
          | ((with_reducible first | refine br_dec (fun h => ?_) (fun h => ?_) | refine br_ndec (fun h => ?_) (fun h => ?_) | refine br_ne (fun h => ?_) (fun h => ?_) | refine br_eq (fun h => ?_) (fun h => ?_)) <;> first | (exfalso; omega) | conv => whnf)
          | (refine br_intro (fun h => ?_) (fun h => ?_) <;> conv => whnf)
          | ((first | refine need_in (by first | exact trivial | assumption | exact ⟨rfl, Nat.le_refl _⟩ | exact ⟨rfl, rfl⟩ | (simp only [inR]; omega) | omega | (simp only [roomP, true_and, and_true, List.length_take, List.length_drop, List.length_append, List.length_cons, List.length_nil, List.length_set, List.length_replicate]; omega) | (refine ⟨by first | exact trivial | rfl, by first | exact Nat.le_refl _ | omega | (simp; omega), ?_⟩; change roomP _ _ 1; simp only [roomP]; omega) | (change roomP _ _ 1; simp only [roomP]; omega) | (simp; omega) | (simp [inR]; omega) | (simp [inR]; done) | decide | (simp; done) | exact ⟨by first | omega | (simp; omega), by assumption⟩) ?_ | refine idx_nat (by omega) (fun x hx => ?_) | refine frz_auto ?_ | refine draw_plain ?_ | refine idx_intro (by first | omega | (simp; omega) | (simp; done)) (by first | omega | (simp; omega) | (simp; done)) (fun x hx => ?_)); conv => whnf)
        rw [hc]
        show AV.tup [.agg [.int .i64 b, .lst lvT (withL l n.toNat [])], .lst runT (List.take (ownL l n).length (ownL l n)), .int .i64 0] = _
        rw [List.take_length]
    · have hc : leaL b l n = ((0, []), [], inE b l n) := if_pos h1
      conv => whnf
      repeat' first
        | ((first | refine idx_kn (by assumption) ?_ | refine idx_ki (by assumption) (by omega) ?_ | refine br_true (by first | with_reducible exact rfl | assumption | decide) ?_ | refine br_false (by first | with_reducible exact rfl | assumption | decide) ?_ | with_reducible first | refine br_kt (by assumption) ?_ | refine br_kf (by assumption) ?_ | refine br_nt (by assumption) ?_ | refine br_nf (by assumption) ?_ | refine br_et (by assumption) ?_ | refine br_ef (by assumption) ?_); conv => whnf)
        | ((with_reducible first | refine br_dec (fun h => ?_) (fun h => ?_) | refine br_ndec (fun h => ?_) (fun h => ?_) | refine br_ne (fun h => ?_) (fun h => ?_) | refine br_eq (fun h => ?_) (fun h => ?_)) <;> first | (exfalso; omega) | conv => whnf)
        | (refine br_intro (fun h => ?_) (fun h => ?_) <;> conv => whnf)
        | ((first | refine need_in (by first | exact trivial | assumption | exact ⟨rfl, Nat.le_refl _⟩ | exact ⟨rfl, rfl⟩ | (simp only [inR]; omega) | omega | (simp only [roomP, true_and, and_true, List.length_take, List.length_drop, List.length_append, List.length_cons, List.length_nil, List.length_set, List.length_replicate]; omega) | (refine ⟨by first | exact trivial | rfl, by first | exact Nat.le_refl _ | omega | (simp; omega), ?_⟩; change roomP _ _ 1; simp only [roomP]; omega) | (change roomP _ _ 1; simp only [roomP]; omega) | (simp; omega) | (simp [inR]; omega) | (simp [inR]; done) | decide | (simp; done) | exact ⟨by first | omega | (simp; omega), by assumption⟩) ?_ | refine idx_nat (by omega) (fun x hx => ?_) | refine frz_auto ?_ | refine draw_plain ?_ | refine idx_intro (by first | omega | (simp; omega) | (simp; done)) (by first | omega | (simp; omega) | (simp; done)) (fun x hx => ?_)); conv => whnf)
      all_goals (rw [hc]; rfl)
  · cases h
set_option maxRecDepth 100000 in
set_option maxHeartbeats 4000000 in
theorem lvArr_ok : SpecOk Try.prog 16 spArr := by
  refine spec_body (C := cvA) mixed tbOk spvA (callN_ok (C := cvA) mixed tbOk spvA fnvA 2) fnOk_lvArr ?_
  intro ys p r h hp
  unfold spArr at h
  split at h
  · rename_i b l n id es
    cases h
    by_cases h1 : inE b l n = 0
    · obtain ⟨hok, hn0, hn1⟩ := inE_ok h1
      have hll := hok.len
      have hol := ownL_len hok n
      have hb := szL_bnd (b := b) hok.lo hok.hi (i := n.toNat) (by omega)
      have hnd : 0 ≤ n ∧ n < ((IntKind.i64.bits : Nat) : Int) ∧ inR .i64 (b * 2 ^ n.toNat) := ⟨by omega, show n < 64 by omega, by show _ ≤ szL b n.toNat; omega, by show szL b n.toNat ≤ _; omega⟩
      by_cases h2 : fitE (id, es, ()) (b * 2 ^ n.toNat) = 0
      · have hfi : fitI ((newL l).map idR) (szL b n.toNat) (id, es, ()) = if id ∈ (newL l).map idR then 8 else 0 := by
          have : fitE (id, es, ()) (szL b n.toNat) = 0 := h2
          unfold fitI; rw [if_neg (fun e => e this)]
        conv => whnf
        repeat' first
          | ((first | refine idx_kn (by assumption) ?_ | refine idx_ki (by assumption) (by omega) ?_ | refine br_true (by first | with_reducible exact rfl | assumption | decide) ?_ | refine br_false (by first | with_reducible exact rfl | assumption | decide) ?_ | with_reducible first | refine br_kt (by assumption) ?_ | refine br_kf (by assumption) ?_ | refine br_nt (by assumption) ?_ | refine br_nf (by assumption) ?_ | refine br_et (by assumption) ?_ | refine br_ef (by assumption) ?_); conv => whnf)
          | ((with_reducible first | refine br_dec (fun h => ?_) (fun h => ?_) | refine br_ndec (fun h => ?_) (fun h => ?_) | refine br_ne (fun h => ?_) (fun h => ?_) | refine br_eq (fun h => ?_) (fun h => ?_)) <;> first | (exfalso; omega) | conv => whnf)
          | (refine br_intro (fun h => ?_) (fun h => ?_) <;> conv => whnf)
          | ((first | refine need_in (by first | exact trivial | assumption | exact ⟨rfl, Nat.le_refl _⟩ | exact ⟨rfl, rfl⟩ | (simp only [inR]; omega) | omega | (simp only [roomP, true_and, and_true, List.length_take, List.length_drop, List.length_append, List.length_cons, List.length_nil, List.length_set, List.length_replicate]; omega) | (refine ⟨by first | exact trivial | rfl, by first | exact Nat.le_refl _ | omega | (simp; omega), ?_⟩; change roomP _ _ 1; simp only [roomP]; omega) | (change roomP _ _ 1; simp only [roomP]; omega) | (simp; omega) | (simp [inR]; omega) | (simp [inR]; done) | decide | (simp; done) | exact ⟨by first | omega | (simp; omega), by assumption⟩) ?_ | refine idx_nat (by omega) (fun x hx => ?_) | refine frz_auto ?_ | refine draw_plain ?_ | refine idx_intro (by first | omega | (simp; omega) | (simp; done)) (by first | omega | (simp; omega) | (simp; done)) (fun x hx => ?_)); conv => whnf)
        have hnl := newL_len hok
        refine .mk [] ?_
        conv => whnf
        refine .mk _ ⟨runT, newL l⟩ (fun k h => h = [.cells 29 [.int .i64 b, .lst lvT l], .cells 32 [.int .i64 id, .lst entT es], .cells 29 [.int .i64 0, .zsl lvT], .cells 22 [.int .i64 0], .cells 29 [.int .i64 b, .lst lvT l]] ∧ ∀ x ∈ (newL l).take k, x.1 ≠ id) rfl hok.ln ⟨rfl, by simp⟩ ?_ ?_
        · rintro k x h' hx ⟨rfl, hs⟩
          have hx : (newL l)[k]? = some x := hx
          by_cases hxe : x.1 = id
          · have hc : arrL b l n (id, es, ()) = (0, [], 8) := by
              unfold arrL
              have hmi : id ∈ (newL l).map idR := by rw [← hxe]; exact List.mem_map_of_mem (f := idR) (List.mem_of_getElem? hx)
              rw [if_pos hmi] at hfi
              rw [if_neg (fun e => e h1), hfi, if_pos (by decide)]
            conv => whnf
            repeat' first
              | ((first | refine idx_kn (by assumption) ?_ | refine idx_ki (by assumption) (by omega) ?_ | refine br_true (by first | with_reducible exact rfl | assumption | decide) ?_ | refine br_false (by first | with_reducible exact rfl | assumption | decide) ?_ | with_reducible first | refine br_kt (by assumption) ?_ | refine br_kf (by assumption) ?_ | refine br_nt (by assumption) ?_ | refine br_nf (by assumption) ?_ | refine br_et (by assumption) ?_ | refine br_ef (by assumption) ?_); conv => whnf)
              | ((with_reducible first | refine br_dec (fun h => ?_) (fun h => ?_) | refine br_ndec (fun h => ?_) (fun h => ?_) | refine br_ne (fun h => ?_) (fun h => ?_) | refine br_eq (fun h => ?_) (fun h => ?_)) <;> first | (exfalso; omega) | conv => whnf)
              | (refine br_intro (fun h => ?_) (fun h => ?_) <;> conv => whnf)
              | ((first | refine need_in (by first | exact trivial | assumption | exact ⟨rfl, Nat.le_refl _⟩ | exact ⟨rfl, rfl⟩ | (simp only [inR]; omega) | omega | (simp only [roomP, true_and, and_true, List.length_take, List.length_drop, List.length_append, List.length_cons, List.length_nil, List.length_set, List.length_replicate]; omega) | (refine ⟨by first | exact trivial | rfl, by first | exact Nat.le_refl _ | omega | (simp; omega), ?_⟩; change roomP _ _ 1; simp only [roomP]; omega) | (change roomP _ _ 1; simp only [roomP]; omega) | (simp; omega) | (simp [inR]; omega) | (simp [inR]; done) | decide | (simp; done) | exact ⟨by first | omega | (simp; omega), by assumption⟩) ?_ | refine idx_nat (by omega) (fun x hx => ?_) | refine frz_auto ?_ | refine draw_plain ?_ | refine idx_intro (by first | omega | (simp; omega) | (simp; done)) (by first | omega | (simp; omega) | (simp; done)) (fun x hx => ?_)); conv => whnf)
            all_goals (rw [hc])
          · conv => whnf
            repeat' first
              | ((first | refine idx_kn (by assumption) ?_ | refine idx_ki (by assumption) (by omega) ?_ | refine br_true (by first | with_reducible exact rfl | assumption | decide) ?_ | refine br_false (by first | with_reducible exact rfl | assumption | decide) ?_ | with_reducible first | refine br_kt (by assumption) ?_ | refine br_kf (by assumption) ?_ | refine br_nt (by assumption) ?_ | refine br_nf (by assumption) ?_ | refine br_et (by assumption) ?_ | refine br_ef (by assumption) ?_); conv => whnf)
              | ((with_reducible first | refine br_dec (fun h => ?_) (fun h => ?_) | refine br_ndec (fun h => ?_) (fun h => ?_) | refine br_ne (fun h => ?_) (fun h => ?_) | refine br_eq (fun h => ?_) (fun h => ?_)) <;> first | (exfalso; omega) | conv => whnf)
              | (refine br_intro (fun h => ?_) (fun h => ?_) <;> conv => whnf)
              | ((first | refine need_in (by first | exact trivial | assumption | exact ⟨rfl, Nat.le_refl _⟩ | exact ⟨rfl, rfl⟩ | (simp only [inR]; omega) | omega | (simp only [roomP, true_and, and_true, List.length_take, List.length_drop, List.length_append, List.length_cons, List.length_nil, List.length_set, List.length_replicate]; omega) | (refine ⟨by first | exact trivial | rfl, by first | exact Nat.le_refl _ | omega | (simp; omega), ?_⟩; change roomP _ _ 1; simp only [roomP]; omega) | (change roomP _ _ 1; simp only [roomP]; omega) | (simp; omega) | (simp [inR]; omega) | (simp [inR]; done) | decide | (simp; done) | exact ⟨by first | omega | (simp; omega), by assumption⟩) ?_ | refine idx_nat (by omega) (fun x hx => ?_) | refine frz_auto ?_ | refine draw_plain ?_ | refine idx_intro (by first | omega | (simp; omega) | (simp; done)) (by first | omega | (simp; omega) | (simp; done)) (fun x hx => ?_)); conv => whnf)
            refine .mk [] ⟨rfl, rfl, fun y hy => ?_⟩
            rw [List.take_add_one, hx] at hy
            rcases List.mem_append.1 hy with hy | hy
            · exact hs y hy
            · have : y = x := by simpa using hy
              rw [this]; exact hxe
        · rintro h' ⟨rfl, hs⟩
          have hll2 : ({ t := runT, l := newL l } : IRes).l.length = (newL l).length := rfl
          rw [hll2, List.take_length] at hs
          have hni : ¬ id ∈ (newL l).map idR := fun hm => by
            obtain ⟨x, hx, he⟩ := List.mem_map.1 hm
            exact hs x hx he
          rw [if_neg hni] at hfi
          by_cases h3 : ((ownL l n).length : Int) = 2
          · have hc : arrL b l n (id, es, ()) = (0, [], 5) := by
              unfold arrL
              rw [if_neg (fun e => e h1), hfi, if_neg (by decide), if_pos (by omega)]
            conv => whnf
            repeat' first
              | ((first | refine idx_kn (by assumption) ?_ | refine idx_ki (by assumption) (by omega) ?_ | refine br_true (by first | with_reducible exact rfl | assumption | decide) ?_ | refine br_false (by first | with_reducible exact rfl | assumption | decide) ?_ | with_reducible first | refine br_kt (by assumption) ?_ | refine br_kf (by assumption) ?_ | refine br_nt (by assumption) ?_ | refine br_nf (by assumption) ?_ | refine br_et (by assumption) ?_ | refine br_ef (by assumption) ?_); conv => whnf)
              | ((with_reducible first | refine br_dec (fun h => ?_) (fun h => ?_) | refine br_ndec (fun h => ?_) (fun h => ?_) | refine br_ne (fun h => ?_) (fun h => ?_) | refine br_eq (fun h => ?_) (fun h => ?_)) <;> first | (exfalso; omega) | conv => whnf)
              | (refine br_intro (fun h => ?_) (fun h => ?_) <;> conv => whnf)
              | ((first | refine need_in (by first | exact trivial | assumption | exact ⟨rfl, Nat.le_refl _⟩ | exact ⟨rfl, rfl⟩ | (simp only [inR]; omega) | omega | (simp only [roomP, true_and, and_true, List.length_take, List.length_drop, List.length_append, List.length_cons, List.length_nil, List.length_set, List.length_replicate]; omega) | (refine ⟨by first | exact trivial | rfl, by first | exact Nat.le_refl _ | omega | (simp; omega), ?_⟩; change roomP _ _ 1; simp only [roomP]; omega) | (change roomP _ _ 1; simp only [roomP]; omega) | (simp; omega) | (simp [inR]; omega) | (simp [inR]; done) | decide | (simp; done) | exact ⟨by first | omega | (simp; omega), by assumption⟩) ?_ | refine idx_nat (by omega) (fun x hx => ?_) | refine frz_auto ?_ | refine draw_plain ?_ | refine idx_intro (by first | omega | (simp; omega) | (simp; done)) (by first | omega | (simp; omega) | (simp; done)) (fun x hx => ?_)); conv => whnf)
            all_goals (rw [hc])
          · have hc : arrL b l n (id, es, ()) = (b, withL l n.toNat (ownL l n ++ [(id, es, ())]), 0) := by
              unfold arrL
              rw [if_neg (fun e => e h1), hfi, if_neg (by decide), if_neg (by omega)]
            conv => whnf
            repeat' first
              | ((first | refine idx_kn (by assumption) ?_ | refine idx_ki (by assumption) (by omega) ?_ | refine br_true (by first | with_reducible exact rfl | assumption | decide) ?_ | refine br_false (by first | with_reducible exact rfl | assumption | decide) ?_ | with_reducible first | refine br_kt (by assumption) ?_ | refine br_kf (by assumption) ?_ | refine br_nt (by assumption) ?_ | refine br_nf (by assumption) ?_ | refine br_et (by assumption) ?_ | refine br_ef (by assumption) ?_); conv => whnf)
              | ((with_reducible first | refine br_dec (fun h => ?_) (fun h => ?_) | refine br_ndec (fun h => ?_) (fun h => ?_) | refine br_ne (fun h => ?_) (fun h => ?_) | refine br_eq (fun h => ?_) (fun h => ?_)) <;> first | (exfalso; omega) | conv => whnf)
              | (refine br_intro (fun h => ?_) (fun h => ?_) <;> conv => whnf)
              | ((first | refine need_in (by first | exact trivial | assumption | exact ⟨rfl, Nat.le_refl _⟩ | exact ⟨rfl, rfl⟩ | (simp only [inR]; omega) | omega | (simp only [roomP, true_and, and_true, List.length_take, List.length_drop, List.length_append, List.length_cons, List.length_nil, List.length_set, List.length_replicate]; omega) | (refine ⟨by first | exact trivial | rfl, by first | exact Nat.le_refl _ | omega | (simp; omega), ?_⟩; change roomP _ _ 1; simp only [roomP]; omega) | (change roomP _ _ 1; simp only [roomP]; omega) | (simp; omega) | (simp [inR]; omega) | (simp [inR]; done) | decide | (simp; done) | exact ⟨by first | omega | (simp; omega), by assumption⟩) ?_ | refine idx_nat (by omega) (fun x hx => ?_) | refine frz_auto ?_ | refine draw_plain ?_ | refine idx_intro (by first | omega | (simp; omega) | (simp; done)) (by first | omega | (simp; omega) | (simp; done)) (fun x hx => ?_)); conv => whnf)
            · exfalso
              simp only [cast_self, List.length_cons, List.length_nil] at h
              omega
            · have e : (ownL l n).length = ((ownL l n).length : Int).toNat - Int.toNat 0 := by show _ = _ - 0; omega
              have e2 : List.take (((ownL l n).length : Int).toNat - Int.toNat 0) (List.drop (Int.toNat 0) (ownL l n)) = ownL l n := by
                rw [← e]; exact List.take_length
              simp only [cast_self]
              rw [hc, e2]
      · have hc : arrL b l n (id, es, ()) = (0, [], fitE (id, es, ()) (b * 2 ^ n.toNat)) := by
          have : fitI ((newL l).map idR) (szL b n.toNat) (id, es, ()) = fitE (id, es, ()) (b * 2 ^ n.toNat) := if_pos h2
          unfold arrL; rw [if_neg (fun e => e h1), this, if_pos h2]
        conv => whnf
        repeat' first
          | ((first | refine idx_kn (by assumption) ?_ | refine idx_ki (by assumption) (by omega) ?_ | refine br_true (by first | with_reducible exact rfl | assumption | decide) ?_ | refine br_false (by first | with_reducible exact rfl | assumption | decide) ?_ | with_reducible first | refine br_kt (by assumption) ?_ | refine br_kf (by assumption) ?_ | refine br_nt (by assumption) ?_ | refine br_nf (by assumption) ?_ | refine br_et (by assumption) ?_ | refine br_ef (by assumption) ?_); conv => whnf)
          | ((with_reducible first | refine br_dec (fun h => ?_) (fun h => ?_) | refine br_ndec (fun h => ?_) (fun h => ?_) | refine br_ne (fun h => ?_) (fun h => ?_) | refine br_eq (fun h => ?_) (fun h => ?_)) <;> first | (exfalso; omega) | conv => whnf)
          | (refine br_intro (fun h => ?_) (fun h => ?_) <;> conv => whnf)
          | ((first | refine need_in (by first | exact trivial | assumption | exact ⟨rfl, Nat.le_refl _⟩ | exact ⟨rfl, rfl⟩ | (simp only [inR]; omega) | omega | (simp only [roomP, true_and, and_true, List.length_take, List.length_drop, List.length_append, List.length_cons, List.length_nil, List.length_set, List.length_replicate]; omega) | (refine ⟨by first | exact trivial | rfl, by first | exact Nat.le_refl _ | omega | (simp; omega), ?_⟩; change roomP _ _ 1; simp only [roomP]; omega) | (change roomP _ _ 1; simp only [roomP]; omega) | (simp; omega) | (simp [inR]; omega) | (simp [inR]; done) | decide | (simp; done) | exact ⟨by first | omega | (simp; omega), by assumption⟩) ?_ | refine idx_nat (by omega) (fun x hx => ?_) | refine frz_auto ?_ | refine draw_plain ?_ | refine idx_intro (by first | omega | (simp; omega) | (simp; done)) (by first | omega | (simp; omega) | (simp; done)) (fun x hx => ?_)); conv => whnf)
        all_goals (rw [hc])
    · have hc : arrL b l n (id, es, ()) = (0, [], inE b l n) := if_pos h1
      conv => whnf
      repeat' first
        | ((first | refine idx_kn (by assumption) ?_ | refine idx_ki (by assumption) (by omega) ?_ | refine br_true (by first | with_reducible exact rfl | assumption | decide) ?_ | refine br_false (by first | with_reducible exact rfl | assumption | decide) ?_ | with_reducible first | refine br_kt (by assumption) ?_ | refine br_kf (by assumption) ?_ | refine br_nt (by assumption) ?_ | refine br_nf (by assumption) ?_ | refine br_et (by assumption) ?_ | refine br_ef (by assumption) ?_); conv => whnf)
        | ((with_reducible first | refine br_dec (fun h => ?_) (fun h => ?_) | refine br_ndec (fun h => ?_) (fun h => ?_) | refine br_ne (fun h => ?_) (fun h => ?_) | refine br_eq (fun h => ?_) (fun h => ?_)) <;> first | (exfalso; omega) | conv => whnf)
        | (refine br_intro (fun h => ?_) (fun h => ?_) <;> conv => whnf)
        | ((first | refine need_in (by first | exact trivial | assumption | exact ⟨rfl, Nat.le_refl _⟩ | exact ⟨rfl, rfl⟩ | (simp only [inR]; omega) | omega | (simp only [roomP, true_and, and_true, List.length_take, List.length_drop, List.length_append, List.length_cons, List.length_nil, List.length_set, List.length_replicate]; omega) | (refine ⟨by first | exact trivial | rfl, by first | exact Nat.le_refl _ | omega | (simp; omega), ?_⟩; change roomP _ _ 1; simp only [roomP]; omega) | (change roomP _ _ 1; simp only [roomP]; omega) | (simp; omega) | (simp [inR]; omega) | (simp [inR]; done) | decide | (simp; done) | exact ⟨by first | omega | (simp; omega), by assumption⟩) ?_ | refine idx_nat (by omega) (fun x hx => ?_) | refine frz_auto ?_ | refine draw_plain ?_ | refine idx_intro (by first | omega | (simp; omega) | (simp; done)) (by first | omega | (simp; omega) | (simp; done)) (fun x hx => ?_)); conv => whnf)
      all_goals (rw [hc])
  · cases h
end Go.Proofs.Ytjinjnakedhmdaa
namespace Go.Proofs.Ytjinjnakedhmdaa
open Av Bk

def spSame : DSpec
  | [.lst (.st [.str, .str, .bool, .int .i64]) a, .lst (.st [.str, .str, .bool, .int .i64]) b] => some (a.length ≤ 4611686018427387904, .bool (sameL entT a b))
  | _ => none
theorem same_fin {t : Ty} {a b : List t.El} {i : Nat} (h : a.length ≤ i ∨ b.length ≤ i) (ha : i ≤ a.length) (hb : i ≤ b.length) : sameL t (a.drop i) (b.drop i) = ((a.length : Int) == b.length) := by
  by_cases e : a.length = b.length
  · rw [same_end (by omega) (by omega), e, beq_self_eq_true]
  · rw [same_len (by rw [List.length_drop, List.length_drop]; omega)]
    exact (beq_eq_false_iff_ne.2 (by omega)).symm
set_option maxRecDepth 100000 in
theorem fnOk_rSameL : FnOk Try.prog 44 Try.f44 := ⟨by rfl, by kernel_rfl, by
  show okCode _ _ = true ∧ drawsOk _ = true
  exact ⟨by kernel_rfl, by kernel_rfl⟩⟩
set_option maxRecDepth 100000 in
set_option maxHeartbeats 2000000 in
theorem rSameL_ok : SpecOk Try.prog 44 spSame := by
  refine spec_body (C := cx0) mixed tbOk SpecsOk.nil (callN_ok (C := cx0) mixed tbOk SpecsOk.nil FnsOk.nil 0) fnOk_rSameL ?_
  intro ys p r h hp
  unfold spSame at h
  split at h
  · rename_i a b
    cases h
    conv => whnf
    refine loop_inv [] [5] (fun vs h => ∃ i : Nat, vs = [.int .i64 (i : Int)] ∧ h = [] ∧ i ≤ a.length ∧ i ≤ b.length ∧ sameL entT a b = sameL entT (a.drop i) (b.drop i)) (fun vs _ => match vs with | [.int _ k] => a.length - k.toNat | _ => 0) ?_
    refine ⟨⟨0, rfl, rfl, Nat.zero_le _, Nat.zero_le _, rfl⟩, ?_⟩
    rintro vs h' - ⟨i, rfl, rfl, hi, hi2, hs⟩
    conv => whnf
    repeat' first
      | ((first | refine br_true (by first | with_reducible exact rfl | assumption | decide) ?_ | refine br_false (by first | with_reducible exact rfl | assumption | decide) ?_ | with_reducible first | refine br_kt (by assumption) ?_ | refine br_kf (by assumption) ?_ | refine br_nt (by assumption) ?_ | refine br_nf (by assumption) ?_ | refine br_et (by assumption) ?_ | refine br_ef (by assumption) ?_); conv => whnf)
      | ((with_reducible first | refine br_dec (fun h => ?_) (fun h => ?_) | refine br_ndec (fun h => ?_) (fun h => ?_) | refine br_ne (fun h => ?_) (fun h => ?_) | refine br_eq (fun h => ?_) (fun h => ?_)) <;> first | (exfalso; omega) | conv => whnf)
      | (refine br_intro (fun h => ?_) (fun h => ?_) <;> conv => whnf)
      | ((first | refine need_in (by first | exact trivial | assumption | exact ⟨rfl, Nat.le_refl _⟩ | exact ⟨rfl, rfl⟩ | (simp only [inR]; omega) | omega | (simp only [roomP, true_and, and_true, List.length_take, List.length_drop, List.length_append, List.length_cons, List.length_nil, List.length_set, List.length_replicate]; omega) | (refine ⟨by first | exact trivial | rfl, by first | exact Nat.le_refl _ | omega | (simp; omega), ?_⟩; change roomP _ _ 1; simp only [roomP]; omega) | (change roomP _ _ 1; simp only [roomP]; omega) | (simp; omega) | (simp [inR]; omega) | (simp [inR]; done) | decide | (simp; done) | exact ⟨by first | omega | (simp; omega), by assumption⟩) ?_ | refine idx_nat (by omega) (fun x hx => ?_) | refine frz_auto ?_ | refine draw_plain ?_ | refine idx_intro (by first | omega | (simp; omega) | (simp; done)) (by first | omega | (simp; omega) | (simp; done)) (fun x hx => ?_)); conv => whnf)
    · rename_i y hy
      rw [hs, same_step hy hx, show eqT entT y x = false from bnt h]
      rfl
    · rename_i y hy
      rw [same_step hy hx, show eqT entT y x = true from bnf h] at hs
      refine back_intro (by conv => whnf) rfl ⟨i + 1, rfl, rfl, by omega, by omega, hs⟩ ?_
      show a.length - ((i : Int) + 1).toNat < a.length - (i : Int).toNat
      omega
    · rw [hs, same_fin (by omega) hi hi2]
    · rw [hs, same_fin (by omega) hi hi2]
  · cases h
set_option maxRecDepth 100000 in
theorem fnOk_lLong : FnOk Try.prog 15 Try.f15 := ⟨by rfl, by kernel_rfl, by
  show okCode _ _ = true ∧ drawsOk _ = true
  exact ⟨by kernel_rfl, by kernel_rfl⟩⟩
def wide (x : entT.El) : Bool := decide (100 < (x.1.size : Int)) || decide (100 < (x.2.1.size : Int))
def longL (l : List entT.El) : Bool := (l.take 40).any wide || decide (30 < (l.length : Int))
def spLong : DSpec
  | [.lst (.st [.str, .str, .bool, .int .i64]) l] => some (True, .bool (longL l))
  | _ => none
theorem any_take {l : List entT.El} {i : Nat} {x : entT.El} (h : (l.take i).any wide = false) (hx : l[i]? = some x) (hw : wide x = false) : (l.take (i + 1)).any wide = false := by
  rw [List.take_add_one, hx, List.any_append, h]
  simp [hw]
theorem any_hit {l : List entT.El} {i n : Nat} {x : entT.El} (hin : i < n) (hx : l[i]? = some x) (hw : wide x = true) : (l.take n).any wide = true := by
  rw [List.any_eq_true]
  exact ⟨x, List.mem_iff_getElem?.2 ⟨i, by rw [List.getElem?_take, if_pos hin]; exact hx⟩, hw⟩
set_option maxRecDepth 100000 in
set_option maxHeartbeats 2000000 in
theorem lLong_ok : SpecOk Try.prog 15 spLong := by
  refine spec_body (C := cx0) mixed tbOk SpecsOk.nil (callN_ok (C := cx0) mixed tbOk SpecsOk.nil FnsOk.nil 0) fnOk_lLong ?_
  intro ys p r h hp
  unfold spLong at h
  split at h
  · rename_i l
    cases h
    conv => whnf
    refine loop_inv [] [3] (fun vs h => ∃ i : Nat, vs = [.int .i64 (i : Int)] ∧ h = [] ∧ i ≤ l.length ∧ i ≤ 40 ∧ (l.take i).any wide = false) (fun vs _ => match vs with | [.int _ k] => l.length - k.toNat | _ => 0) ?_
    refine ⟨⟨0, rfl, rfl, Nat.zero_le _, Nat.zero_le _, rfl⟩, ?_⟩
    rintro vs h' - ⟨i, rfl, rfl, hi, hi2, hs⟩
    conv => whnf
    repeat' first
      | ((first | refine br_true (by first | with_reducible exact rfl | assumption | decide) ?_ | refine br_false (by first | with_reducible exact rfl | assumption | decide) ?_ | with_reducible first | refine br_kt (by assumption) ?_ | refine br_kf (by assumption) ?_ | refine br_nt (by assumption) ?_ | refine br_nf (by assumption) ?_ | refine br_et (by assumption) ?_ | refine br_ef (by assumption) ?_); conv => whnf)
      | ((with_reducible first | refine br_dec (fun h => ?_) (fun h => ?_) | refine br_ndec (fun h => ?_) (fun h => ?_) | refine br_ne (fun h => ?_) (fun h => ?_) | refine br_eq (fun h => ?_) (fun h => ?_)) <;> first | (exfalso; omega) | conv => whnf)
      | (refine br_intro (fun h => ?_) (fun h => ?_) <;> conv => whnf)
      | ((first | refine need_in (by first | exact trivial | assumption | exact ⟨rfl, Nat.le_refl _⟩ | exact ⟨rfl, rfl⟩ | (simp only [inR]; omega) | omega | (simp only [roomP, true_and, and_true, List.length_take, List.length_drop, List.length_append, List.length_cons, List.length_nil, List.length_set, List.length_replicate]; omega) | (refine ⟨by first | exact trivial | rfl, by first | exact Nat.le_refl _ | omega | (simp; omega), ?_⟩; change roomP _ _ 1; simp only [roomP]; omega) | (change roomP _ _ 1; simp only [roomP]; omega) | (simp; omega) | (simp [inR]; omega) | (simp [inR]; done) | decide | (simp; done) | exact ⟨by first | omega | (simp; omega), by assumption⟩) ?_ | refine idx_nat (by omega) (fun x hx => ?_) | refine frz_auto ?_ | refine draw_plain ?_ | refine idx_intro (by first | omega | (simp; omega) | (simp; done)) (by first | omega | (simp; omega) | (simp; done)) (fun x hx => ?_)); conv => whnf)
    · refine congrArg AV.bool ?_
      rw [longL, any_hit (i := i) (by omega) hx (by simp [wide, h])]; rfl
    · refine congrArg AV.bool ?_
      rw [longL, any_hit (i := i) (by omega) hx (by simp [wide, h])]; rfl
    · rename_i y hy hk
      obtain rfl := Option.some.inj (hy.symm.trans hx)
      refine back_intro (by conv => whnf) rfl ⟨i + 1, rfl, rfl, by omega, by omega, any_take hs hx (by rw [wide, decide_eq_false hk, decide_eq_false h]; rfl)⟩ ?_
      show l.length - ((i : Int) + 1).toNat < l.length - (i : Int).toNat
      omega
    · refine congrArg AV.bool ?_
      rw [longL, show 40 = i by omega, hs]; rfl
    · refine congrArg AV.bool ?_
      have e : l.take 40 = l.take i := by rw [List.take_of_length_le (by omega), List.take_of_length_le (by omega)]
      rw [longL, e, hs]; rfl
  · cases h
/-! ### Runs and levels, compared -/
def samR (x y : runT.El) : Bool := x.1 == y.1 && sameL entT x.2.1 y.2.1
def samRs : List runT.El → List runT.El → Bool
  | [], [] => true
  | x :: a, y :: b => samR x y && samRs a b
  | _, _ => false
def samLs : List lvT.El → List lvT.El → Bool
  | [], [] => true
  | x :: a, y :: b => samRs (rsL x) (rsL y) && samLs a b
  | _, _ => false
theorem samR_refl (x : runT.El) : samR x x = true := by unfold samR; rw [beq_self_eq_true, same_refl]; rfl
theorem samRs_refl : ∀ l : List runT.El, samRs l l = true
  | [] => rfl
  | x :: l => by
    show (samR x x && samRs l l) = true
    rw [samR_refl, samRs_refl l]; rfl
theorem samLs_refl : ∀ l : List lvT.El, samLs l l = true
  | [] => rfl
  | x :: l => by
    show (samRs (rsL x) (rsL x) && samLs l l) = true
    rw [samRs_refl, samLs_refl l]; rfl
theorem samRs_len : ∀ {a b : List runT.El}, a.length ≠ b.length → samRs a b = false
  | [], [], h => absurd rfl h
  | [], _ :: _, _ => rfl
  | _ :: _, [], _ => rfl
  | x :: a, y :: b, h => by
    show (samR x y && samRs a b) = false
    rw [samRs_len (fun e => h (by rw [List.length_cons, List.length_cons, e])), Bool.and_false]
theorem samLs_len : ∀ {a b : List lvT.El}, a.length ≠ b.length → samLs a b = false
  | [], [], h => absurd rfl h
  | [], _ :: _, _ => rfl
  | _ :: _, [], _ => rfl
  | x :: a, y :: b, h => by
    show (samRs (rsL x) (rsL y) && samLs a b) = false
    rw [samLs_len (fun e => h (by rw [List.length_cons, List.length_cons, e])), Bool.and_false]
theorem samRs_step {a b : List runT.El} {i : Nat} {x y : runT.El} (hx : a[i]? = some x) (hy : b[i]? = some y) : samRs (a.drop i) (b.drop i) = (samR x y && samRs (a.drop (i + 1)) (b.drop (i + 1))) := by
  have h1 : i < a.length := (List.getElem?_eq_some_iff.1 hx).1
  have h2 : i < b.length := (List.getElem?_eq_some_iff.1 hy).1
  rw [List.drop_eq_getElem_cons h1, List.drop_eq_getElem_cons h2]
  rw [List.getElem?_eq_getElem h1] at hx
  rw [List.getElem?_eq_getElem h2] at hy
  cases hx; cases hy; rfl
theorem samLs_step {a b : List lvT.El} {i : Nat} {x y : lvT.El} (hx : a[i]? = some x) (hy : b[i]? = some y) : samLs (a.drop i) (b.drop i) = (samRs (rsL x) (rsL y) && samLs (a.drop (i + 1)) (b.drop (i + 1))) := by
  have h1 : i < a.length := (List.getElem?_eq_some_iff.1 hx).1
  have h2 : i < b.length := (List.getElem?_eq_some_iff.1 hy).1
  rw [List.drop_eq_getElem_cons h1, List.drop_eq_getElem_cons h2]
  rw [List.getElem?_eq_getElem h1] at hx
  rw [List.getElem?_eq_getElem h2] at hy
  cases hx; cases hy; rfl
def spSR : DSpec
  | [.agg [.int .i64 i, .lst (.st [.str, .str, .bool, .int .i64]) a], .agg [.int .i64 j, .lst (.st [.str, .str, .bool, .int .i64]) b]] => some (a.length ≤ 4611686018427387904, .bool (samR (i, a, ()) (j, b, ())))
  | _ => none
def spSRs : DSpec
  | [.lst (.st [.int .i64, .sl (.st [.str, .str, .bool, .int .i64])]) a, .lst (.st [.int .i64, .sl (.st [.str, .str, .bool, .int .i64])]) b] => some (a.length ≤ 1000000 ∧ ∀ r ∈ (a : List runT.El), r.2.1.length ≤ 1000000, .bool (samRs a b))
  | _ => none
def spSLs : DSpec
  | [.agg [.int .i64 i, .lst (.st [.sl (.st [.int .i64, .sl (.st [.str, .str, .bool, .int .i64])])]) a], .agg [.int .i64 j, .lst (.st [.sl (.st [.int .i64, .sl (.st [.str, .str, .bool, .int .i64])])]) b]] => some (a.length ≤ 1000000 ∧ ∀ x ∈ (a : List lvT.El), (rsL x).length ≤ 1000000 ∧ ∀ r ∈ rsL x, r.2.1.length ≤ 1000000, .bool (i == j && samLs a b))
  | _ => none
set_option maxRecDepth 100000 in
theorem fnOk_r15SR : FnOk Try.prog 20 Try.f20 := ⟨by rfl, by kernel_rfl, by
  show okCode _ _ = true ∧ drawsOk _ = true
  exact ⟨by kernel_rfl, by kernel_rfl⟩⟩
set_option maxRecDepth 100000 in
theorem fnOk_r15SRs : FnOk Try.prog 18 Try.f18 := ⟨by rfl, by kernel_rfl, by
  show okCode _ _ = true ∧ drawsOk _ = true
  exact ⟨by kernel_rfl, by kernel_rfl⟩⟩
set_option maxRecDepth 100000 in
theorem fnOk_r15SLs : FnOk Try.prog 21 Try.f21 := ⟨by rfl, by kernel_rfl, by
  show okCode _ _ = true ∧ drawsOk _ = true
  exact ⟨by kernel_rfl, by kernel_rfl⟩⟩
noncomputable def cv7 : Cx := ⟨tb, [], [(44, spSame)]⟩
theorem spv7 : SpecsOk Try.prog cv7.specs := .cons rSameL_ok .nil
set_option maxRecDepth 100000 in
set_option maxHeartbeats 2000000 in
theorem r15SR_ok : SpecOk Try.prog 20 spSR := by
  refine spec_body (C := cv7) mixed tbOk spv7 (callN_ok (C := cv7) mixed tbOk spv7 FnsOk.nil 0) fnOk_r15SR ?_
  intro ys p r h hp
  unfold spSR at h
  split at h
  · rename_i i a j b
    cases h
    by_cases hij : i = j
    · have hs : samR (i, a, ()) (j, b, ()) = sameL entT a b := by unfold samR; rw [beq_iff_eq.2 hij]; rfl
      conv => whnf
      repeat' first
        | ((first | refine idx_kn (by assumption) ?_ | refine idx_ki (by assumption) (by omega) ?_ | refine br_true (by first | with_reducible exact rfl | assumption | decide) ?_ | refine br_false (by first | with_reducible exact rfl | assumption | decide) ?_ | with_reducible first | refine br_kt (by assumption) ?_ | refine br_kf (by assumption) ?_ | refine br_nt (by assumption) ?_ | refine br_nf (by assumption) ?_ | refine br_et (by assumption) ?_ | refine br_ef (by assumption) ?_); conv => whnf)
        | ((with_reducible first | refine br_dec (fun h => ?_) (fun h => ?_) | refine br_ndec (fun h => ?_) (fun h => ?_) | refine br_ne (fun h => ?_) (fun h => ?_) | refine br_eq (fun h => ?_) (fun h => ?_)) <;> first | (exfalso; omega) | conv => whnf)
        | (refine br_intro (fun h => ?_) (fun h => ?_) <;> conv => whnf)
        | ((first | refine need_in (by first | exact trivial | assumption | exact ⟨rfl, Nat.le_refl _⟩ | exact ⟨rfl, rfl⟩ | (simp only [inR]; omega) | omega | (simp only [roomP, true_and, and_true, List.length_take, List.length_drop, List.length_append, List.length_cons, List.length_nil, List.length_set, List.length_replicate]; omega) | (refine ⟨by first | exact trivial | rfl, by first | exact Nat.le_refl _ | omega | (simp; omega), ?_⟩; change roomP _ _ 1; simp only [roomP]; omega) | (change roomP _ _ 1; simp only [roomP]; omega) | (simp; omega) | (simp [inR]; omega) | (simp [inR]; done) | decide | (simp; done) | exact ⟨by first | omega | (simp; omega), by assumption⟩) ?_ | refine idx_nat (by omega) (fun x hx => ?_) | refine frz_auto ?_ | refine draw_plain ?_ | refine idx_intro (by first | omega | (simp; omega) | (simp; done)) (by first | omega | (simp; omega) | (simp; done)) (fun x hx => ?_)); conv => whnf)
      all_goals (rw [hs])
    · have hs : samR (i, a, ()) (j, b, ()) = false := by unfold samR; rw [beq_eq_false_iff_ne.2 hij]; rfl
      conv => whnf
      repeat' first
        | ((first | refine idx_kn (by assumption) ?_ | refine idx_ki (by assumption) (by omega) ?_ | refine br_true (by first | with_reducible exact rfl | assumption | decide) ?_ | refine br_false (by first | with_reducible exact rfl | assumption | decide) ?_ | with_reducible first | refine br_kt (by assumption) ?_ | refine br_kf (by assumption) ?_ | refine br_nt (by assumption) ?_ | refine br_nf (by assumption) ?_ | refine br_et (by assumption) ?_ | refine br_ef (by assumption) ?_); conv => whnf)
        | ((with_reducible first | refine br_dec (fun h => ?_) (fun h => ?_) | refine br_ndec (fun h => ?_) (fun h => ?_) | refine br_ne (fun h => ?_) (fun h => ?_) | refine br_eq (fun h => ?_) (fun h => ?_)) <;> first | (exfalso; omega) | conv => whnf)
        | (refine br_intro (fun h => ?_) (fun h => ?_) <;> conv => whnf)
        | ((first | refine need_in (by first | exact trivial | assumption | exact ⟨rfl, Nat.le_refl _⟩ | exact ⟨rfl, rfl⟩ | (simp only [inR]; omega) | omega | (simp only [roomP, true_and, and_true, List.length_take, List.length_drop, List.length_append, List.length_cons, List.length_nil, List.length_set, List.length_replicate]; omega) | (refine ⟨by first | exact trivial | rfl, by first | exact Nat.le_refl _ | omega | (simp; omega), ?_⟩; change roomP _ _ 1; simp only [roomP]; omega) | (change roomP _ _ 1; simp only [roomP]; omega) | (simp; omega) | (simp [inR]; omega) | (simp [inR]; done) | decide | (simp; done) | exact ⟨by first | omega | (simp; omega), by assumption⟩) ?_ | refine idx_nat (by omega) (fun x hx => ?_) | refine frz_auto ?_ | refine draw_plain ?_ | refine idx_intro (by first | omega | (simp; omega) | (simp; done)) (by first | omega | (simp; omega) | (simp; done)) (fun x hx => ?_)); conv => whnf)
      all_goals (rw [hs])
  · cases h
noncomputable def cv8 : Cx := ⟨tb, [], [(20, spSR)]⟩
theorem spv8 : SpecsOk Try.prog cv8.specs := .cons r15SR_ok .nil
set_option maxRecDepth 100000 in
set_option maxHeartbeats 2000000 in
theorem r15SRs_ok : SpecOk Try.prog 18 spSRs := by
  refine spec_body (C := cv8) mixed tbOk spv8 (callN_ok (C := cv8) mixed tbOk spv8 FnsOk.nil 0) fnOk_r15SRs ?_
  intro ys p r h hp
  unfold spSRs at h
  split at h
  · rename_i a b
    cases h
    obtain ⟨hal, har⟩ := hp
    by_cases hab : (a.length : Int) = b.length
    · conv => whnf
      repeat' first
        | ((first | refine idx_kn (by assumption) ?_ | refine idx_ki (by assumption) (by omega) ?_ | refine br_true (by first | with_reducible exact rfl | assumption | decide) ?_ | refine br_false (by first | with_reducible exact rfl | assumption | decide) ?_ | with_reducible first | refine br_kt (by assumption) ?_ | refine br_kf (by assumption) ?_ | refine br_nt (by assumption) ?_ | refine br_nf (by assumption) ?_ | refine br_et (by assumption) ?_ | refine br_ef (by assumption) ?_); conv => whnf)
        | ((with_reducible first | refine br_dec (fun h => ?_) (fun h => ?_) | refine br_ndec (fun h => ?_) (fun h => ?_) | refine br_ne (fun h => ?_) (fun h => ?_) | refine br_eq (fun h => ?_) (fun h => ?_)) <;> first | (exfalso; omega) | conv => whnf)
        | (refine br_intro (fun h => ?_) (fun h => ?_) <;> conv => whnf)
        | ((first | refine need_in (by first | exact trivial | assumption | exact ⟨rfl, Nat.le_refl _⟩ | exact ⟨rfl, rfl⟩ | (simp only [inR]; omega) | omega | (simp only [roomP, true_and, and_true, List.length_take, List.length_drop, List.length_append, List.length_cons, List.length_nil, List.length_set, List.length_replicate]; omega) | (refine ⟨by first | exact trivial | rfl, by first | exact Nat.le_refl _ | omega | (simp; omega), ?_⟩; change roomP _ _ 1; simp only [roomP]; omega) | (change roomP _ _ 1; simp only [roomP]; omega) | (simp; omega) | (simp [inR]; omega) | (simp [inR]; done) | decide | (simp; done) | exact ⟨by first | omega | (simp; omega), by assumption⟩) ?_ | refine idx_nat (by omega) (fun x hx => ?_) | refine frz_auto ?_ | refine draw_plain ?_ | refine idx_intro (by first | omega | (simp; omega) | (simp; done)) (by first | omega | (simp; omega) | (simp; done)) (fun x hx => ?_)); conv => whnf)
      refine loop_inv [] [5] (fun vs h => ∃ i : Nat, vs = [.int .i64 (i : Int)] ∧ h = [] ∧ i ≤ a.length ∧ samRs a b = samRs (a.drop i) (b.drop i)) (fun vs _ => match vs with | [.int _ k] => a.length - k.toNat | _ => 0) ?_
      conv => whnf
      refine ⟨⟨0, rfl, rfl, Nat.zero_le _, rfl⟩, ?_⟩
      rintro vs h' - ⟨i, rfl, rfl, hi, hs⟩
      by_cases hlt : i < a.length
      · obtain ⟨x, hx⟩ : ∃ x : runT.El, (a : List runT.El)[i]? = some x := ⟨_, List.getElem?_eq_getElem hlt⟩
        obtain ⟨y, hy⟩ : ∃ y : runT.El, (b : List runT.El)[i]? = some y := ⟨_, List.getElem?_eq_getElem (by omega)⟩
        have hxl := har x (List.mem_of_getElem? hx)
        rw [samRs_step hx hy] at hs
        cases he : samR x y with
        | true =>
          rw [he, Bool.true_and] at hs
          have he1 : samR (x.1, x.2.1, ()) (y.1, y.2.1, ()) = true := he
          have he2 : (!samR (x.1, x.2.1, ()) (y.1, y.2.1, ())) = false := by rw [he1]; rfl
          conv => whnf
          repeat' first
            | ((first | refine idx_kn (by assumption) ?_ | refine idx_ki (by assumption) (by omega) ?_ | refine br_true (by first | with_reducible exact rfl | assumption | decide) ?_ | refine br_false (by first | with_reducible exact rfl | assumption | decide) ?_ | with_reducible first | refine br_kt (by assumption) ?_ | refine br_kf (by assumption) ?_ | refine br_nt (by assumption) ?_ | refine br_nf (by assumption) ?_ | refine br_et (by assumption) ?_ | refine br_ef (by assumption) ?_); conv => whnf)
            | ((with_reducible first | refine br_dec (fun h => ?_) (fun h => ?_) | refine br_ndec (fun h => ?_) (fun h => ?_) | refine br_ne (fun h => ?_) (fun h => ?_) | refine br_eq (fun h => ?_) (fun h => ?_)) <;> first | (exfalso; omega) | conv => whnf)
            | (refine br_intro (fun h => ?_) (fun h => ?_) <;> conv => whnf)
            | ((first | refine need_in (by first | exact trivial | assumption | exact ⟨rfl, Nat.le_refl _⟩ | exact ⟨rfl, rfl⟩ | (simp only [inR]; omega) | omega | (simp only [roomP, true_and, and_true, List.length_take, List.length_drop, List.length_append, List.length_cons, List.length_nil, List.length_set, List.length_replicate]; omega) | (refine ⟨by first | exact trivial | rfl, by first | exact Nat.le_refl _ | omega | (simp; omega), ?_⟩; change roomP _ _ 1; simp only [roomP]; omega) | (change roomP _ _ 1; simp only [roomP]; omega) | (simp; omega) | (simp [inR]; omega) | (simp [inR]; done) | decide | (simp; done) | exact ⟨by first | omega | (simp; omega), by assumption⟩) ?_ | refine idx_nat (by omega) (fun x hx => ?_) | refine frz_auto ?_ | refine draw_plain ?_ | refine idx_intro (by first | omega | (simp; omega) | (simp; done)) (by first | omega | (simp; omega) | (simp; done)) (fun x hx => ?_)); conv => whnf)
          refine back_intro (by conv => whnf) rfl ⟨i + 1, rfl, rfl, by omega, hs⟩ ?_
          show a.length - ((i : Int) + 1).toNat < a.length - (i : Int).toNat
          omega
        | false =>
          rw [he, Bool.false_and] at hs
          have he1 : samR (x.1, x.2.1, ()) (y.1, y.2.1, ()) = false := he
          have he2 : (!samR (x.1, x.2.1, ()) (y.1, y.2.1, ())) = true := by rw [he1]; rfl
          conv => whnf
          repeat' first
            | ((first | refine idx_kn (by assumption) ?_ | refine idx_ki (by assumption) (by omega) ?_ | refine br_true (by first | with_reducible exact rfl | assumption | decide) ?_ | refine br_false (by first | with_reducible exact rfl | assumption | decide) ?_ | with_reducible first | refine br_kt (by assumption) ?_ | refine br_kf (by assumption) ?_ | refine br_nt (by assumption) ?_ | refine br_nf (by assumption) ?_ | refine br_et (by assumption) ?_ | refine br_ef (by assumption) ?_); conv => whnf)
            | ((with_reducible first | refine br_dec (fun h => ?_) (fun h => ?_) | refine br_ndec (fun h => ?_) (fun h => ?_) | refine br_ne (fun h => ?_) (fun h => ?_) | refine br_eq (fun h => ?_) (fun h => ?_)) <;> first | (exfalso; omega) | conv => whnf)
            | (refine br_intro (fun h => ?_) (fun h => ?_) <;> conv => whnf)
            | ((first | refine need_in (by first | exact trivial | assumption | exact ⟨rfl, Nat.le_refl _⟩ | exact ⟨rfl, rfl⟩ | (simp only [inR]; omega) | omega | (simp only [roomP, true_and, and_true, List.length_take, List.length_drop, List.length_append, List.length_cons, List.length_nil, List.length_set, List.length_replicate]; omega) | (refine ⟨by first | exact trivial | rfl, by first | exact Nat.le_refl _ | omega | (simp; omega), ?_⟩; change roomP _ _ 1; simp only [roomP]; omega) | (change roomP _ _ 1; simp only [roomP]; omega) | (simp; omega) | (simp [inR]; omega) | (simp [inR]; done) | decide | (simp; done) | exact ⟨by first | omega | (simp; omega), by assumption⟩) ?_ | refine idx_nat (by omega) (fun x hx => ?_) | refine frz_auto ?_ | refine draw_plain ?_ | refine idx_intro (by first | omega | (simp; omega) | (simp; done)) (by first | omega | (simp; omega) | (simp; done)) (fun x hx => ?_)); conv => whnf)
          all_goals (rw [hs])
      · rw [List.drop_of_length_le (by omega), List.drop_of_length_le (by omega)] at hs
        conv => whnf
        repeat' first
          | ((first | refine idx_kn (by assumption) ?_ | refine idx_ki (by assumption) (by omega) ?_ | refine br_true (by first | with_reducible exact rfl | assumption | decide) ?_ | refine br_false (by first | with_reducible exact rfl | assumption | decide) ?_ | with_reducible first | refine br_kt (by assumption) ?_ | refine br_kf (by assumption) ?_ | refine br_nt (by assumption) ?_ | refine br_nf (by assumption) ?_ | refine br_et (by assumption) ?_ | refine br_ef (by assumption) ?_); conv => whnf)
          | ((with_reducible first | refine br_dec (fun h => ?_) (fun h => ?_) | refine br_ndec (fun h => ?_) (fun h => ?_) | refine br_ne (fun h => ?_) (fun h => ?_) | refine br_eq (fun h => ?_) (fun h => ?_)) <;> first | (exfalso; omega) | conv => whnf)
          | (refine br_intro (fun h => ?_) (fun h => ?_) <;> conv => whnf)
          | ((first | refine need_in (by first | exact trivial | assumption | exact ⟨rfl, Nat.le_refl _⟩ | exact ⟨rfl, rfl⟩ | (simp only [inR]; omega) | omega | (simp only [roomP, true_and, and_true, List.length_take, List.length_drop, List.length_append, List.length_cons, List.length_nil, List.length_set, List.length_replicate]; omega) | (refine ⟨by first | exact trivial | rfl, by first | exact Nat.le_refl _ | omega | (simp; omega), ?_⟩; change roomP _ _ 1; simp only [roomP]; omega) | (change roomP _ _ 1; simp only [roomP]; omega) | (simp; omega) | (simp [inR]; omega) | (simp [inR]; done) | decide | (simp; done) | exact ⟨by first | omega | (simp; omega), by assumption⟩) ?_ | refine idx_nat (by omega) (fun x hx => ?_) | refine frz_auto ?_ | refine draw_plain ?_ | refine idx_intro (by first | omega | (simp; omega) | (simp; done)) (by first | omega | (simp; omega) | (simp; done)) (fun x hx => ?_)); conv => whnf)
        all_goals (rw [hs]; rfl)
    · have hs : samRs a b = false := samRs_len (by omega)
      conv => whnf
      repeat' first
        | ((first | refine idx_kn (by assumption) ?_ | refine idx_ki (by assumption) (by omega) ?_ | refine br_true (by first | with_reducible exact rfl | assumption | decide) ?_ | refine br_false (by first | with_reducible exact rfl | assumption | decide) ?_ | with_reducible first | refine br_kt (by assumption) ?_ | refine br_kf (by assumption) ?_ | refine br_nt (by assumption) ?_ | refine br_nf (by assumption) ?_ | refine br_et (by assumption) ?_ | refine br_ef (by assumption) ?_); conv => whnf)
        | ((with_reducible first | refine br_dec (fun h => ?_) (fun h => ?_) | refine br_ndec (fun h => ?_) (fun h => ?_) | refine br_ne (fun h => ?_) (fun h => ?_) | refine br_eq (fun h => ?_) (fun h => ?_)) <;> first | (exfalso; omega) | conv => whnf)
        | (refine br_intro (fun h => ?_) (fun h => ?_) <;> conv => whnf)
        | ((first | refine need_in (by first | exact trivial | assumption | exact ⟨rfl, Nat.le_refl _⟩ | exact ⟨rfl, rfl⟩ | (simp only [inR]; omega) | omega | (simp only [roomP, true_and, and_true, List.length_take, List.length_drop, List.length_append, List.length_cons, List.length_nil, List.length_set, List.length_replicate]; omega) | (refine ⟨by first | exact trivial | rfl, by first | exact Nat.le_refl _ | omega | (simp; omega), ?_⟩; change roomP _ _ 1; simp only [roomP]; omega) | (change roomP _ _ 1; simp only [roomP]; omega) | (simp; omega) | (simp [inR]; omega) | (simp [inR]; done) | decide | (simp; done) | exact ⟨by first | omega | (simp; omega), by assumption⟩) ?_ | refine idx_nat (by omega) (fun x hx => ?_) | refine frz_auto ?_ | refine draw_plain ?_ | refine idx_intro (by first | omega | (simp; omega) | (simp; done)) (by first | omega | (simp; omega) | (simp; done)) (fun x hx => ?_)); conv => whnf)
      all_goals (rw [hs])
  · cases h
noncomputable def cv9 : Cx := ⟨tb, [], [(18, spSRs)]⟩
theorem spv9 : SpecsOk Try.prog cv9.specs := .cons r15SRs_ok .nil
set_option maxRecDepth 100000 in
set_option maxHeartbeats 2000000 in
theorem r15SLs_ok : SpecOk Try.prog 21 spSLs := by
  refine spec_body (C := cv9) mixed tbOk spv9 (callN_ok (C := cv9) mixed tbOk spv9 FnsOk.nil 0) fnOk_r15SLs ?_
  intro ys p r h hp
  unfold spSLs at h
  split at h
  · rename_i i0 a j0 b
    cases h
    obtain ⟨hal, har⟩ := hp
    by_cases hij : i0 = j0
    · have hq : (i0 == j0) = true := beq_iff_eq.2 hij
      by_cases hab : (a.length : Int) = b.length
      · conv => whnf
        repeat' first
          | ((first | refine idx_kn (by assumption) ?_ | refine idx_ki (by assumption) (by omega) ?_ | refine br_true (by first | with_reducible exact rfl | assumption | decide) ?_ | refine br_false (by first | with_reducible exact rfl | assumption | decide) ?_ | with_reducible first | refine br_kt (by assumption) ?_ | refine br_kf (by assumption) ?_ | refine br_nt (by assumption) ?_ | refine br_nf (by assumption) ?_ | refine br_et (by assumption) ?_ | refine br_ef (by assumption) ?_); conv => whnf)
          | ((with_reducible first | refine br_dec (fun h => ?_) (fun h => ?_) | refine br_ndec (fun h => ?_) (fun h => ?_) | refine br_ne (fun h => ?_) (fun h => ?_) | refine br_eq (fun h => ?_) (fun h => ?_)) <;> first | (exfalso; omega) | conv => whnf)
          | (refine br_intro (fun h => ?_) (fun h => ?_) <;> conv => whnf)
          | ((first | refine need_in (by first | exact trivial | assumption | exact ⟨rfl, Nat.le_refl _⟩ | exact ⟨rfl, rfl⟩ | (simp only [inR]; omega) | omega | (simp only [roomP, true_and, and_true, List.length_take, List.length_drop, List.length_append, List.length_cons, List.length_nil, List.length_set, List.length_replicate]; omega) | (refine ⟨by first | exact trivial | rfl, by first | exact Nat.le_refl _ | omega | (simp; omega), ?_⟩; change roomP _ _ 1; simp only [roomP]; omega) | (change roomP _ _ 1; simp only [roomP]; omega) | (simp; omega) | (simp [inR]; omega) | (simp [inR]; done) | decide | (simp; done) | exact ⟨by first | omega | (simp; omega), by assumption⟩) ?_ | refine idx_nat (by omega) (fun x hx => ?_) | refine frz_auto ?_ | refine draw_plain ?_ | refine idx_intro (by first | omega | (simp; omega) | (simp; done)) (by first | omega | (simp; omega) | (simp; done)) (fun x hx => ?_)); conv => whnf)
        refine loop_inv [] [5] (fun vs h => ∃ i : Nat, vs = [.int .i64 (i : Int)] ∧ h = [.cells 29 [.int .i64 i0, .lst lvT a], .cells 29 [.int .i64 j0, .lst lvT b]] ∧ i ≤ a.length ∧ samLs a b = samLs (a.drop i) (b.drop i)) (fun vs _ => match vs with | [.int _ k] => a.length - k.toNat | _ => 0) ?_
        conv => whnf
        refine ⟨⟨0, rfl, rfl, Nat.zero_le _, rfl⟩, ?_⟩
        rintro vs h' - ⟨i, rfl, rfl, hi, hs⟩
        by_cases hlt : i < a.length
        · obtain ⟨x, hx⟩ : ∃ x : lvT.El, (a : List lvT.El)[i]? = some x := ⟨_, List.getElem?_eq_getElem hlt⟩
          obtain ⟨y, hy⟩ : ∃ y : lvT.El, (b : List lvT.El)[i]? = some y := ⟨_, List.getElem?_eq_getElem (by omega)⟩
          have hxl := har x (List.mem_of_getElem? hx)
          rw [samLs_step hx hy] at hs
          cases he : samRs (rsL x) (rsL y) with
          | true =>
            rw [he, Bool.true_and] at hs
            have he1 : samRs x.1 y.1 = true := he
            have he2 : (!samRs x.1 y.1) = false := by rw [he1]; rfl
            conv => whnf
            repeat' first
              | ((first | refine idx_kn (by assumption) ?_ | refine idx_ki (by assumption) (by omega) ?_ | refine br_true (by first | with_reducible exact rfl | assumption | decide) ?_ | refine br_false (by first | with_reducible exact rfl | assumption | decide) ?_ | with_reducible first | refine br_kt (by assumption) ?_ | refine br_kf (by assumption) ?_ | refine br_nt (by assumption) ?_ | refine br_nf (by assumption) ?_ | refine br_et (by assumption) ?_ | refine br_ef (by assumption) ?_); conv => whnf)
              | ((with_reducible first | refine br_dec (fun h => ?_) (fun h => ?_) | refine br_ndec (fun h => ?_) (fun h => ?_) | refine br_ne (fun h => ?_) (fun h => ?_) | refine br_eq (fun h => ?_) (fun h => ?_)) <;> first | (exfalso; omega) | conv => whnf)
              | (refine br_intro (fun h => ?_) (fun h => ?_) <;> conv => whnf)
              | ((first | refine need_in (by first | exact trivial | assumption | exact ⟨rfl, Nat.le_refl _⟩ | exact ⟨rfl, rfl⟩ | (simp only [inR]; omega) | omega | (simp only [roomP, true_and, and_true, List.length_take, List.length_drop, List.length_append, List.length_cons, List.length_nil, List.length_set, List.length_replicate]; omega) | (refine ⟨by first | exact trivial | rfl, by first | exact Nat.le_refl _ | omega | (simp; omega), ?_⟩; change roomP _ _ 1; simp only [roomP]; omega) | (change roomP _ _ 1; simp only [roomP]; omega) | (simp; omega) | (simp [inR]; omega) | (simp [inR]; done) | decide | (simp; done) | exact ⟨by first | omega | (simp; omega), by assumption⟩) ?_ | refine idx_nat (by omega) (fun x hx => ?_) | refine frz_auto ?_ | refine draw_plain ?_ | refine idx_intro (by first | omega | (simp; omega) | (simp; done)) (by first | omega | (simp; omega) | (simp; done)) (fun x hx => ?_)); conv => whnf)
            refine back_intro (by conv => whnf) rfl ⟨i + 1, rfl, rfl, by omega, hs⟩ ?_
            show a.length - ((i : Int) + 1).toNat < a.length - (i : Int).toNat
            omega
          | false =>
            rw [he, Bool.false_and] at hs
            have he1 : samRs x.1 y.1 = false := he
            have he2 : (!samRs x.1 y.1) = true := by rw [he1]; rfl
            conv => whnf
            repeat' first
              | ((first | refine idx_kn (by assumption) ?_ | refine idx_ki (by assumption) (by omega) ?_ | refine br_true (by first | with_reducible exact rfl | assumption | decide) ?_ | refine br_false (by first | with_reducible exact rfl | assumption | decide) ?_ | with_reducible first | refine br_kt (by assumption) ?_ | refine br_kf (by assumption) ?_ | refine br_nt (by assumption) ?_ | refine br_nf (by assumption) ?_ | refine br_et (by assumption) ?_ | refine br_ef (by assumption) ?_); conv => whnf)
              | ((with_reducible first | refine br_dec (fun h => ?_) (fun h => ?_) | refine br_ndec (fun h => ?_) (fun h => ?_) | refine br_ne (fun h => ?_) (fun h => ?_) | refine br_eq (fun h => ?_) (fun h => ?_)) <;> first | (exfalso; omega) | conv => whnf)
              | (refine br_intro (fun h => ?_) (fun h => ?_) <;> conv => whnf)
              | ((first | refine need_in (by first | exact trivial | assumption | exact ⟨rfl, Nat.le_refl _⟩ | exact ⟨rfl, rfl⟩ | (simp only [inR]; omega) | omega | (simp only [roomP, true_and, and_true, List.length_take, List.length_drop, List.length_append, List.length_cons, List.length_nil, List.length_set, List.length_replicate]; omega) | (refine ⟨by first | exact trivial | rfl, by first | exact Nat.le_refl _ | omega | (simp; omega), ?_⟩; change roomP _ _ 1; simp only [roomP]; omega) | (change roomP _ _ 1; simp only [roomP]; omega) | (simp; omega) | (simp [inR]; omega) | (simp [inR]; done) | decide | (simp; done) | exact ⟨by first | omega | (simp; omega), by assumption⟩) ?_ | refine idx_nat (by omega) (fun x hx => ?_) | refine frz_auto ?_ | refine draw_plain ?_ | refine idx_intro (by first | omega | (simp; omega) | (simp; done)) (by first | omega | (simp; omega) | (simp; done)) (fun x hx => ?_)); conv => whnf)
            all_goals (rw [hq, hs]; rfl)
        · rw [List.drop_of_length_le (by omega), List.drop_of_length_le (by omega)] at hs
          conv => whnf
          repeat' first
            | ((first | refine idx_kn (by assumption) ?_ | refine idx_ki (by assumption) (by omega) ?_ | refine br_true (by first | with_reducible exact rfl | assumption | decide) ?_ | refine br_false (by first | with_reducible exact rfl | assumption | decide) ?_ | with_reducible first | refine br_kt (by assumption) ?_ | refine br_kf (by assumption) ?_ | refine br_nt (by assumption) ?_ | refine br_nf (by assumption) ?_ | refine br_et (by assumption) ?_ | refine br_ef (by assumption) ?_); conv => whnf)
            | ((with_reducible first | refine br_dec (fun h => ?_) (fun h => ?_) | refine br_ndec (fun h => ?_) (fun h => ?_) | refine br_ne (fun h => ?_) (fun h => ?_) | refine br_eq (fun h => ?_) (fun h => ?_)) <;> first | (exfalso; omega) | conv => whnf)
            | (refine br_intro (fun h => ?_) (fun h => ?_) <;> conv => whnf)
            | ((first | refine need_in (by first | exact trivial | assumption | exact ⟨rfl, Nat.le_refl _⟩ | exact ⟨rfl, rfl⟩ | (simp only [inR]; omega) | omega | (simp only [roomP, true_and, and_true, List.length_take, List.length_drop, List.length_append, List.length_cons, List.length_nil, List.length_set, List.length_replicate]; omega) | (refine ⟨by first | exact trivial | rfl, by first | exact Nat.le_refl _ | omega | (simp; omega), ?_⟩; change roomP _ _ 1; simp only [roomP]; omega) | (change roomP _ _ 1; simp only [roomP]; omega) | (simp; omega) | (simp [inR]; omega) | (simp [inR]; done) | decide | (simp; done) | exact ⟨by first | omega | (simp; omega), by assumption⟩) ?_ | refine idx_nat (by omega) (fun x hx => ?_) | refine frz_auto ?_ | refine draw_plain ?_ | refine idx_intro (by first | omega | (simp; omega) | (simp; done)) (by first | omega | (simp; omega) | (simp; done)) (fun x hx => ?_)); conv => whnf)
          all_goals (rw [hq, hs]; rfl)
      · have hs : samLs a b = false := samLs_len (by omega)
        conv => whnf
        repeat' first
          | ((first | refine idx_kn (by assumption) ?_ | refine idx_ki (by assumption) (by omega) ?_ | refine br_true (by first | with_reducible exact rfl | assumption | decide) ?_ | refine br_false (by first | with_reducible exact rfl | assumption | decide) ?_ | with_reducible first | refine br_kt (by assumption) ?_ | refine br_kf (by assumption) ?_ | refine br_nt (by assumption) ?_ | refine br_nf (by assumption) ?_ | refine br_et (by assumption) ?_ | refine br_ef (by assumption) ?_); conv => whnf)
          | ((with_reducible first | refine br_dec (fun h => ?_) (fun h => ?_) | refine br_ndec (fun h => ?_) (fun h => ?_) | refine br_ne (fun h => ?_) (fun h => ?_) | refine br_eq (fun h => ?_) (fun h => ?_)) <;> first | (exfalso; omega) | conv => whnf)
          | (refine br_intro (fun h => ?_) (fun h => ?_) <;> conv => whnf)
          | ((first | refine need_in (by first | exact trivial | assumption | exact ⟨rfl, Nat.le_refl _⟩ | exact ⟨rfl, rfl⟩ | (simp only [inR]; omega) | omega | (simp only [roomP, true_and, and_true, List.length_take, List.length_drop, List.length_append, List.length_cons, List.length_nil, List.length_set, List.length_replicate]; omega) | (refine ⟨by first | exact trivial | rfl, by first | exact Nat.le_refl _ | omega | (simp; omega), ?_⟩; change roomP _ _ 1; simp only [roomP]; omega) | (change roomP _ _ 1; simp only [roomP]; omega) | (simp; omega) | (simp [inR]; omega) | (simp [inR]; done) | decide | (simp; done) | exact ⟨by first | omega | (simp; omega), by assumption⟩) ?_ | refine idx_nat (by omega) (fun x hx => ?_) | refine frz_auto ?_ | refine draw_plain ?_ | refine idx_intro (by first | omega | (simp; omega) | (simp; done)) (by first | omega | (simp; omega) | (simp; done)) (fun x hx => ?_)); conv => whnf)
        all_goals (rw [hs, Bool.and_false])
    · have hq : (i0 == j0) = false := beq_eq_false_iff_ne.2 hij
      conv => whnf
      repeat' first
        | ((first | refine idx_kn (by assumption) ?_ | refine idx_ki (by assumption) (by omega) ?_ | refine br_true (by first | with_reducible exact rfl | assumption | decide) ?_ | refine br_false (by first | with_reducible exact rfl | assumption | decide) ?_ | with_reducible first | refine br_kt (by assumption) ?_ | refine br_kf (by assumption) ?_ | refine br_nt (by assumption) ?_ | refine br_nf (by assumption) ?_ | refine br_et (by assumption) ?_ | refine br_ef (by assumption) ?_); conv => whnf)
        | ((with_reducible first | refine br_dec (fun h => ?_) (fun h => ?_) | refine br_ndec (fun h => ?_) (fun h => ?_) | refine br_ne (fun h => ?_) (fun h => ?_) | refine br_eq (fun h => ?_) (fun h => ?_)) <;> first | (exfalso; omega) | conv => whnf)
        | (refine br_intro (fun h => ?_) (fun h => ?_) <;> conv => whnf)
        | ((first | refine need_in (by first | exact trivial | assumption | exact ⟨rfl, Nat.le_refl _⟩ | exact ⟨rfl, rfl⟩ | (simp only [inR]; omega) | omega | (simp only [roomP, true_and, and_true, List.length_take, List.length_drop, List.length_append, List.length_cons, List.length_nil, List.length_set, List.length_replicate]; omega) | (refine ⟨by first | exact trivial | rfl, by first | exact Nat.le_refl _ | omega | (simp; omega), ?_⟩; change roomP _ _ 1; simp only [roomP]; omega) | (change roomP _ _ 1; simp only [roomP]; omega) | (simp; omega) | (simp [inR]; omega) | (simp [inR]; done) | decide | (simp; done) | exact ⟨by first | omega | (simp; omega), by assumption⟩) ?_ | refine idx_nat (by omega) (fun x hx => ?_) | refine frz_auto ?_ | refine draw_plain ?_ | refine idx_intro (by first | omega | (simp; omega) | (simp; done)) (by first | omega | (simp; omega) | (simp; done)) (fun x hx => ?_)); conv => whnf)
      all_goals (rw [hq]; rfl)
  · cases h
end Go.Proofs.Ytjinjnakedhmdaa
