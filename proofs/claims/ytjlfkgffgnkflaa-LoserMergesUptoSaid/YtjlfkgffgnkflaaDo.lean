/-
  The law of merging.
-/
import Derived.Test.YtjlfkgffgnkflaaDn
namespace Go.Proofs.Ytjlfkgffgnkflaa
open Av Lz

theorem fnOk_lMe : FnOk Try.prog 5 Try.f5 := ⟨by rfl, by kernel_rfl, by
  show okCode _ _ = true ∧ drawsOk _ = true
  exact ⟨by kernel_rfl, by kernel_rfl⟩⟩
abbrev lMe_T : List Ty := [.sl (.sl .str)]
abbrev lMe_FN := fnOk_lMe
noncomputable def lMe_C (F : LzF) : Cx := ⟨tb, [], [(10, spAwake), (11, spB F), (19, spW F), (21, spR F)]⟩
theorem lMe_D {F : LzF} (h : F = stdF) : SpecsOk Try.prog (lMe_C F).specs := .cons awake_ok (.cons (spB_ok h) (.cons (spW_ok h) (.cons (spR_ok h) .nil)))
def hpM (ls : List (List ByteArray)) (i : Nat) : Hp := [.arr 39 keyT ((ls.take i).map fun l => hdK (asc l)) false i, .arr 47 (.sl .str) ((ls.take i).map asc) false i]
theorem tot_ge {f : Nat → Nat} : ∀ n i, i < n → f i ≤ tot f n
  | 0, i, h => by omega
  | n + 1, i, h => by
    simp only [tot]
    by_cases hi : i = n
    · subst hi; omega
    · have := tot_ge (f := f) n i (by omega)
      omega
def hpN (L : List (List ByteArray)) (g : Nat) (K : List keyT.El) (lo : List intT.El) (w : Int) (at_ : List intT.El) : Hp := [.dead, .arr 47 (.sl .str) L false g, .cells 27 [.lst keyT K, .lst intT lo, .int .i64 w], .arr 3 intT at_ true 0]
set_option maxRecDepth 100000 in
set_option maxHeartbeats 8000000 in
theorem lMe : ∀ es : Ty.Els lMe_T, tyOks lMe_T es → tyBs 1048576 lMe_T es → WalkOk Try.prog Try.f5 (avTs lMe_T es) := by
  rintro ⟨ls, _⟩ - hB
  have hB : (ls : List (List ByteArray)).length ≤ 1048576 ∧ ∀ l ∈ (ls : List (List ByteArray)), l.length ≤ 1048576 := by
    simp only [tyBs, tyB] at hB
    exact ⟨hB.1.1, fun l hl => (hB.1.2 l hl).1⟩
  obtain ⟨F, hstd⟩ : ∃ F, F = stdF := ⟨_, rfl⟩
  refine ⟨lMe_C F, callN (lMe_C F) 0, tbOk, lMe_D hstd, callN_ok mixed tbOk (lMe_D hstd) FnsOk.nil 0, ?_⟩
  show bodyA _ _ _ [.lst (.sl .str) ls] [] _
  conv => whnf
  repeat' first
    | (refine idx_kn (by assumption) ?_; conv => whnf)
    | (refine idx_ki (by assumption) (by omega) ?_; conv => whnf)
    | (refine br_true (by first | with_reducible exact rfl | assumption | decide) ?_; conv => whnf)
    | (refine br_false (by first | with_reducible exact rfl | assumption | decide) ?_; conv => whnf)
    | ((with_reducible refine br_kt (by assumption) ?_); conv => whnf)
    | ((with_reducible refine br_kf (by assumption) ?_); conv => whnf)
    | ((with_reducible refine br_nt (by assumption) ?_); conv => whnf)
    | ((with_reducible refine br_nf (by assumption) ?_); conv => whnf)
    | ((with_reducible refine br_et (by assumption) ?_); conv => whnf)
    | ((with_reducible refine br_ef (by assumption) ?_); conv => whnf)
    | ((with_reducible refine br_dec (fun h => ?_) (fun h => ?_)) <;> first | (exfalso; omega) | conv => whnf)
    | ((with_reducible refine br_ndec (fun h => ?_) (fun h => ?_)) <;> first | (exfalso; omega) | conv => whnf)
    | ((with_reducible refine br_ne (fun h => ?_) (fun h => ?_)) <;> first | (exfalso; omega) | conv => whnf)
    | ((with_reducible refine br_eq (fun h => ?_) (fun h => ?_)) <;> first | (exfalso; omega) | conv => whnf)
    | (refine br_intro (fun h => ?_) (fun h => ?_) <;> conv => whnf)
    | (refine need_in (by first | exact trivial | assumption | exact ⟨rfl, Nat.le_refl _⟩ | exact ⟨rfl, rfl⟩ | (simp only [inR]; omega) | omega | (simp only [roomP, true_and, and_true, List.length_take, List.length_drop, List.length_append, List.length_cons, List.length_nil, List.length_set, List.length_replicate]; omega) | (refine ⟨by first | exact trivial | rfl, by first | exact Nat.le_refl _ | omega | (simp; omega), ?_⟩; change roomP _ _ 1; simp only [roomP]; omega) | (change roomP _ _ 1; simp only [roomP]; omega) | (simp; omega) | (simp [inR]; omega) | (simp [inR]; done) | decide | (simp; done)) ?_; conv => whnf)
    | (refine idx_nat (by omega) (fun x hx => ?_); conv => whnf)
    | (refine frz_auto ?_; conv => whnf)
    | (refine draw_plain ?_; conv => whnf)
    | (refine idx_intro (by omega) (by omega) (fun x hx => ?_); conv => whnf)
    | (refine idx_intro (by first | omega | (simp; omega) | (simp; done)) (by first | omega | (simp; omega) | (simp; done)) (fun x hx => ?_); conv => whnf)
    | fail
  refine loop_inv [] [3, 4, 5, 6] (fun vs h => ∃ i : Nat, vs = [.int .i64 ((cnt (ls.take i) : Nat) : Int), .own 0 i i, .own 1 i i, .int .i64 (i : Int)] ∧ h = hpM ls i ∧ i ≤ ls.length ∧ cnt (ls.take i) ≤ 40) (fun vs _ => match vs with | [_, _, _, .int _ i] => ls.length - i.toNat | _ => 0) ?_
  refine ⟨⟨0, rfl, rfl, Nat.zero_le _, Nat.zero_le _⟩, ?_⟩
  rintro vs h' - ⟨i, rfl, rfl, hi, hc⟩
  unfold hpM
  conv => whnf
  by_cases hil : i < ls.length
  · obtain ⟨xs, hx⟩ : ∃ xs, ls[i]? = some xs := ⟨_, List.getElem?_eq_getElem hil⟩
    have hxl : List.length xs ≤ 1048576 := hB.2 xs (List.mem_of_getElem? hx)
    repeat' first
      | (refine idx_kn (by assumption) ?_; conv => whnf)
      | (refine idx_ki (by assumption) (by omega) ?_; conv => whnf)
      | (refine br_true (by first | with_reducible exact rfl | assumption | decide) ?_; conv => whnf)
      | (refine br_false (by first | with_reducible exact rfl | assumption | decide) ?_; conv => whnf)
      | ((with_reducible refine br_kt (by assumption) ?_); conv => whnf)
      | ((with_reducible refine br_kf (by assumption) ?_); conv => whnf)
      | ((with_reducible refine br_nt (by assumption) ?_); conv => whnf)
      | ((with_reducible refine br_nf (by assumption) ?_); conv => whnf)
      | ((with_reducible refine br_et (by assumption) ?_); conv => whnf)
      | ((with_reducible refine br_ef (by assumption) ?_); conv => whnf)
      | ((with_reducible refine br_dec (fun h => ?_) (fun h => ?_)) <;> first | (exfalso; omega) | conv => whnf)
      | ((with_reducible refine br_ndec (fun h => ?_) (fun h => ?_)) <;> first | (exfalso; omega) | conv => whnf)
      | ((with_reducible refine br_ne (fun h => ?_) (fun h => ?_)) <;> first | (exfalso; omega) | conv => whnf)
      | ((with_reducible refine br_eq (fun h => ?_) (fun h => ?_)) <;> first | (exfalso; omega) | conv => whnf)
      | (refine br_intro (fun h => ?_) (fun h => ?_) <;> conv => whnf)
      | (refine need_in (by first | exact trivial | assumption | exact ⟨rfl, Nat.le_refl _⟩ | exact ⟨rfl, rfl⟩ | (simp only [inR]; omega) | omega | (simp only [roomP, true_and, and_true, List.length_take, List.length_drop, List.length_append, List.length_cons, List.length_nil, List.length_set, List.length_replicate]; omega) | (refine ⟨by first | exact trivial | rfl, by first | exact Nat.le_refl _ | omega | (simp; omega), ?_⟩; change roomP _ _ 1; simp only [roomP]; omega) | (change roomP _ _ 1; simp only [roomP]; omega) | (simp; omega) | (simp [inR]; omega) | (simp [inR]; done) | decide | (simp; done)) ?_; conv => whnf)
      | (refine idx_nat (by omega) (fun x hx => ?_); conv => whnf)
      | (refine frz_auto ?_; conv => whnf)
      | (refine draw_plain ?_; conv => whnf)
      | (refine idx_intro (by omega) (by omega) (fun x hx => ?_); conv => whnf)
      | (refine idx_intro (by first | omega | (simp; omega) | (simp; done)) (by first | omega | (simp; omega) | (simp; done)) (fun x hx => ?_); conv => whnf)
      | fail
    refine loop_inv [] [7, 8] (fun vs h => ∃ k : Nat, vs = [.own 2 k k, .int .i64 (k : Int)] ∧ h = hpM ls i ++ [.arr 9 .str (asc (xs.take k)) false k] ∧ k ≤ List.length xs) (fun vs _ => match vs with | [_, .int _ k] => List.length xs - k.toNat | _ => 0) ?_
    refine ⟨⟨0, rfl, rfl, Nat.zero_le _⟩, ?_⟩
    rintro vs h' - ⟨k, rfl, rfl, hk⟩
    unfold hpM
    have hal : (asc (List.take k xs)).length = k := by rw [asc_len, List.length_take]; omega
    conv => whnf
    by_cases hkl : k < List.length xs
    · obtain ⟨s, hs⟩ : ∃ s, (xs : List ByteArray)[k]? = some s := ⟨_, List.getElem?_eq_getElem hkl⟩
      by_cases hk0 : k = 0
      · subst hk0
        repeat' first
          | (refine idx_kn (by assumption) ?_; conv => whnf)
          | (refine idx_ki (by assumption) (by omega) ?_; conv => whnf)
          | (refine br_true (by first | with_reducible exact rfl | assumption | decide) ?_; conv => whnf)
          | (refine br_false (by first | with_reducible exact rfl | assumption | decide) ?_; conv => whnf)
          | ((with_reducible refine br_kt (by assumption) ?_); conv => whnf)
          | ((with_reducible refine br_kf (by assumption) ?_); conv => whnf)
          | ((with_reducible refine br_nt (by assumption) ?_); conv => whnf)
          | ((with_reducible refine br_nf (by assumption) ?_); conv => whnf)
          | ((with_reducible refine br_et (by assumption) ?_); conv => whnf)
          | ((with_reducible refine br_ef (by assumption) ?_); conv => whnf)
          | ((with_reducible refine br_dec (fun h => ?_) (fun h => ?_)) <;> first | (exfalso; omega) | conv => whnf)
          | ((with_reducible refine br_ndec (fun h => ?_) (fun h => ?_)) <;> first | (exfalso; omega) | conv => whnf)
          | ((with_reducible refine br_ne (fun h => ?_) (fun h => ?_)) <;> first | (exfalso; omega) | conv => whnf)
          | ((with_reducible refine br_eq (fun h => ?_) (fun h => ?_)) <;> first | (exfalso; omega) | conv => whnf)
          | (refine br_intro (fun h => ?_) (fun h => ?_) <;> conv => whnf)
          | (refine need_in (by first | exact trivial | assumption | exact ⟨rfl, Nat.le_refl _⟩ | exact ⟨rfl, rfl⟩ | (simp only [inR]; omega) | omega | (simp only [roomP, true_and, and_true, List.length_take, List.length_drop, List.length_append, List.length_cons, List.length_nil, List.length_set, List.length_replicate]; omega) | (refine ⟨by first | exact trivial | rfl, by first | exact Nat.le_refl _ | omega | (simp; omega), ?_⟩; change roomP _ _ 1; simp only [roomP]; omega) | (change roomP _ _ 1; simp only [roomP]; omega) | (simp; omega) | (simp [inR]; omega) | (simp [inR]; done) | decide | (simp; done)) ?_; conv => whnf)
          | (refine idx_nat (by omega) (fun x hx => ?_); conv => whnf)
          | (refine frz_auto ?_; conv => whnf)
          | (refine draw_plain ?_; conv => whnf)
          | (refine idx_intro (by omega) (by omega) (fun x hx => ?_); conv => whnf)
          | (refine idx_intro (by first | omega | (simp; omega) | (simp; done)) (by first | omega | (simp; omega) | (simp; done)) (fun x hx => ?_); conv => whnf)
          | fail
        have e : asc (List.take (0 + 1) xs) = List.take 0 (asc (List.take 0 xs)) ++ [s] := by
          rw [asc_take hs, List.take_zero, List.take_zero]; rfl
        refine back_intro (by conv => whnf) rfl ⟨0 + 1, rfl, ?_, by omega⟩ ?_
        · rw [e]; rfl
        · show List.length xs - ((0 : Nat) + 1 : Int).toNat < List.length xs - ((0 : Nat) : Int).toNat
          omega
      · obtain ⟨y, hy⟩ : ∃ y, (asc (List.take k xs))[k - 1]? = some y := ⟨_, List.getElem?_eq_getElem (by omega)⟩
        have hy2 : (asc (List.take k xs))[((k : Int) - 1).toNat]? = some y := by rw [show ((k : Int) - 1).toNat = k - 1 by omega]; exact hy
        have hpk : pick (asc (List.take k xs)) s = if sLt s y then y else s := by simp only [pick, hal, hy]
        have e : asc (List.take (k + 1) xs) = List.take k (asc (List.take k xs)) ++ [if sLt s y then y else s] := by
          rw [asc_take hs, hpk, List.take_of_length_le (l := asc (List.take k xs)) (by omega)]
        repeat' first
          | (refine idx_kn (by assumption) ?_; conv => whnf)
          | (refine idx_ki (by assumption) (by omega) ?_; conv => whnf)
          | (refine br_true (by first | with_reducible exact rfl | assumption | decide) ?_; conv => whnf)
          | (refine br_false (by first | with_reducible exact rfl | assumption | decide) ?_; conv => whnf)
          | ((with_reducible refine br_kt (by assumption) ?_); conv => whnf)
          | ((with_reducible refine br_kf (by assumption) ?_); conv => whnf)
          | ((with_reducible refine br_nt (by assumption) ?_); conv => whnf)
          | ((with_reducible refine br_nf (by assumption) ?_); conv => whnf)
          | ((with_reducible refine br_et (by assumption) ?_); conv => whnf)
          | ((with_reducible refine br_ef (by assumption) ?_); conv => whnf)
          | ((with_reducible refine br_dec (fun h => ?_) (fun h => ?_)) <;> first | (exfalso; omega) | conv => whnf)
          | ((with_reducible refine br_ndec (fun h => ?_) (fun h => ?_)) <;> first | (exfalso; omega) | conv => whnf)
          | ((with_reducible refine br_ne (fun h => ?_) (fun h => ?_)) <;> first | (exfalso; omega) | conv => whnf)
          | ((with_reducible refine br_eq (fun h => ?_) (fun h => ?_)) <;> first | (exfalso; omega) | conv => whnf)
          | (refine br_intro (fun h => ?_) (fun h => ?_) <;> conv => whnf)
          | (refine need_in (by first | exact trivial | assumption | exact ⟨rfl, Nat.le_refl _⟩ | exact ⟨rfl, rfl⟩ | (simp only [inR]; omega) | omega | (simp only [roomP, true_and, and_true, List.length_take, List.length_drop, List.length_append, List.length_cons, List.length_nil, List.length_set, List.length_replicate]; omega) | (refine ⟨by first | exact trivial | rfl, by first | exact Nat.le_refl _ | omega | (simp; omega), ?_⟩; change roomP _ _ 1; simp only [roomP]; omega) | (change roomP _ _ 1; simp only [roomP]; omega) | (simp; omega) | (simp [inR]; omega) | (simp [inR]; done) | decide | (simp; done)) ?_; conv => whnf)
          | (refine idx_nat (by omega) (fun x hx => ?_); conv => whnf)
          | (refine frz_auto ?_; conv => whnf)
          | (refine draw_plain ?_; conv => whnf)
          | (refine idx_intro (by omega) (by omega) (fun x hx => ?_); conv => whnf)
          | (refine idx_intro (by first | omega | (simp; omega) | (simp; done)) (by first | omega | (simp; omega) | (simp; done)) (fun x hx => ?_); conv => whnf)
          | fail
        all_goals
          refine back_intro (by conv => whnf) rfl ⟨k + 1, rfl, ?_, by omega⟩ ?_
          · first
              | (rw [e, if_pos (by assumption)]; rfl)
              | (rw [e, if_neg (by simp_all)]; rfl)
          · show List.length xs - ((k : Int) + 1).toNat < List.length xs - (k : Int).toNat
            omega
    · have hke : k = List.length xs := by omega
      subst hke
      have hal2 : asc (List.take (List.length xs) xs) = asc xs := by rw [List.take_length]
      have hal3 := asc_len xs
      have hts : List.take (i + 1) ls = List.take i ls ++ [xs] := by rw [List.take_add_one, hx]; rfl
      have hct : cnt (List.take (i + 1) ls) = cnt (List.take i ls) + List.length xs := by rw [hts, cnt_append]; rfl
      have hma : List.map asc (List.take (i + 1) ls) = List.map asc (List.take i ls) ++ [asc xs] := by rw [hts, List.map_append]; rfl
      have hmb : List.map (fun l => hdK (asc l)) (List.take (i + 1) ls) = List.map (fun l => hdK (asc l)) (List.take i ls) ++ [hdK (asc xs)] := by rw [hts, List.map_append]; rfl
      have htX : List.take (List.length xs) (asc xs) = asc xs := List.take_of_length_le (by omega)
      have htB : List.take i (List.map asc (List.take i ls)) = List.map asc (List.take i ls) := List.take_of_length_le (by rw [List.length_map, List.length_take]; omega)
      have htA : List.take i (List.map (fun l => hdK (asc l)) (List.take i ls)) = List.map (fun l => hdK (asc l)) (List.take i ls) := List.take_of_length_le (by rw [List.length_map, List.length_take]; omega)
      have hml : (List.map (fun l => hdK (asc l)) (List.take i ls)).length = i := by rw [List.length_map, List.length_take]; omega
      repeat' first
        | (refine idx_kn (by assumption) ?_; conv => whnf)
        | (refine idx_ki (by assumption) (by omega) ?_; conv => whnf)
        | (refine br_true (by first | with_reducible exact rfl | assumption | decide) ?_; conv => whnf)
        | (refine br_false (by first | with_reducible exact rfl | assumption | decide) ?_; conv => whnf)
        | ((with_reducible refine br_kt (by assumption) ?_); conv => whnf)
        | ((with_reducible refine br_kf (by assumption) ?_); conv => whnf)
        | ((with_reducible refine br_nt (by assumption) ?_); conv => whnf)
        | ((with_reducible refine br_nf (by assumption) ?_); conv => whnf)
        | ((with_reducible refine br_et (by assumption) ?_); conv => whnf)
        | ((with_reducible refine br_ef (by assumption) ?_); conv => whnf)
        | ((with_reducible refine br_dec (fun h => ?_) (fun h => ?_)) <;> first | (exfalso; omega) | conv => whnf)
        | ((with_reducible refine br_ndec (fun h => ?_) (fun h => ?_)) <;> first | (exfalso; omega) | conv => whnf)
        | ((with_reducible refine br_ne (fun h => ?_) (fun h => ?_)) <;> first | (exfalso; omega) | conv => whnf)
        | ((with_reducible refine br_eq (fun h => ?_) (fun h => ?_)) <;> first | (exfalso; omega) | conv => whnf)
        | (refine br_intro (fun h => ?_) (fun h => ?_) <;> conv => whnf)
        | (refine need_in (by first | exact trivial | assumption | exact ⟨rfl, Nat.le_refl _⟩ | exact ⟨rfl, rfl⟩ | (simp only [inR]; omega) | omega | (simp only [roomP, true_and, and_true, List.length_take, List.length_drop, List.length_append, List.length_cons, List.length_nil, List.length_set, List.length_replicate]; omega) | (refine ⟨by first | exact trivial | rfl, by first | exact Nat.le_refl _ | omega | (simp; omega), ?_⟩; change roomP _ _ 1; simp only [roomP]; omega) | (change roomP _ _ 1; simp only [roomP]; omega) | (simp; omega) | (simp [inR]; omega) | (simp [inR]; done) | decide | (simp; done)) ?_; conv => whnf)
        | (refine idx_nat (by omega) (fun x hx => ?_); conv => whnf)
        | (refine draw_plain ?_; conv => whnf)
        | (refine idx_intro (by omega) (by omega) (fun x hx => ?_); conv => whnf)
        | (refine idx_intro (by first | omega | (simp; omega) | (simp; done)) (by first | omega | (simp; omega) | (simp; done)) (fun x hx => ?_); conv => whnf)
        | fail
      refine .mk [.frz 2 [7, 89] []] ?_
      conv => whnf
      simp only [hal2, htX]
      by_cases hx0 : List.length xs = 0
      · have h00 : ¬ (0 : Int) < ((asc xs).length : Int) := by omega
        repeat' first
          | (refine idx_kn (by assumption) ?_; conv => whnf)
          | (refine idx_ki (by assumption) (by omega) ?_; conv => whnf)
          | (refine br_true (by first | with_reducible exact rfl | assumption | decide) ?_; conv => whnf)
          | (refine br_false (by first | with_reducible exact rfl | assumption | decide) ?_; conv => whnf)
          | ((with_reducible refine br_kt (by assumption) ?_); conv => whnf)
          | ((with_reducible refine br_kf (by assumption) ?_); conv => whnf)
          | ((with_reducible refine br_nt (by assumption) ?_); conv => whnf)
          | ((with_reducible refine br_nf (by assumption) ?_); conv => whnf)
          | ((with_reducible refine br_et (by assumption) ?_); conv => whnf)
          | ((with_reducible refine br_ef (by assumption) ?_); conv => whnf)
          | ((with_reducible refine br_dec (fun h => ?_) (fun h => ?_)) <;> first | (exfalso; omega) | conv => whnf)
          | ((with_reducible refine br_ndec (fun h => ?_) (fun h => ?_)) <;> first | (exfalso; omega) | conv => whnf)
          | ((with_reducible refine br_ne (fun h => ?_) (fun h => ?_)) <;> first | (exfalso; omega) | conv => whnf)
          | ((with_reducible refine br_eq (fun h => ?_) (fun h => ?_)) <;> first | (exfalso; omega) | conv => whnf)
          | (refine br_intro (fun h => ?_) (fun h => ?_) <;> conv => whnf)
          | (refine need_in (by first | exact trivial | assumption | exact ⟨rfl, Nat.le_refl _⟩ | exact ⟨rfl, rfl⟩ | (simp only [inR]; omega) | omega | (simp only [roomP, true_and, and_true, List.length_take, List.length_drop, List.length_append, List.length_cons, List.length_nil, List.length_set, List.length_replicate]; omega) | (refine ⟨by first | exact trivial | rfl, by first | exact Nat.le_refl _ | omega | (simp; omega), ?_⟩; change roomP _ _ 1; simp only [roomP]; omega) | (change roomP _ _ 1; simp only [roomP]; omega) | (simp; omega) | (simp [inR]; omega) | (simp [inR]; done) | decide | (simp; done)) ?_; conv => whnf)
          | (refine idx_nat (by omega) (fun x hx => ?_); conv => whnf)
          | (refine draw_plain ?_; conv => whnf)
          | (refine idx_intro (by omega) (by omega) (fun x hx => ?_); conv => whnf)
          | (refine idx_intro (by first | omega | (simp; omega) | (simp; done)) (by first | omega | (simp; omega) | (simp; done)) (fun x hx => ?_); conv => whnf)
          | fail
        refine back_intro (by conv => whnf) rfl ⟨i + 1, ?_, ?_, by omega, ?_⟩ ?_
        · rw [hct]; rfl
        · rw [hma, hmb]
          refine two_heap ?_ ?_
          · show List.take i _ ++ [((⟨#[]⟩ : ByteArray), ((asc xs).length : Int) == 0, ())] = _
            rw [htA]
            exact keys_nil h00
          · show List.take i _ ++ [List.take (List.length xs) (asc xs)] = _
            rw [htB, htX]
        · omega
        · show ls.length - ((i : Int) + 1).toNat < ls.length - (i : Int).toNat
          omega
      · skip
        repeat' first
          | (refine idx_kn (by assumption) ?_; conv => whnf)
          | (refine idx_ki (by assumption) (by omega) ?_; conv => whnf)
          | (refine br_true (by first | with_reducible exact rfl | assumption | decide) ?_; conv => whnf)
          | (refine br_false (by first | with_reducible exact rfl | assumption | decide) ?_; conv => whnf)
          | ((with_reducible refine br_kt (by assumption) ?_); conv => whnf)
          | ((with_reducible refine br_kf (by assumption) ?_); conv => whnf)
          | ((with_reducible refine br_nt (by assumption) ?_); conv => whnf)
          | ((with_reducible refine br_nf (by assumption) ?_); conv => whnf)
          | ((with_reducible refine br_et (by assumption) ?_); conv => whnf)
          | ((with_reducible refine br_ef (by assumption) ?_); conv => whnf)
          | ((with_reducible refine br_dec (fun h => ?_) (fun h => ?_)) <;> first | (exfalso; omega) | conv => whnf)
          | ((with_reducible refine br_ndec (fun h => ?_) (fun h => ?_)) <;> first | (exfalso; omega) | conv => whnf)
          | ((with_reducible refine br_ne (fun h => ?_) (fun h => ?_)) <;> first | (exfalso; omega) | conv => whnf)
          | ((with_reducible refine br_eq (fun h => ?_) (fun h => ?_)) <;> first | (exfalso; omega) | conv => whnf)
          | (refine br_intro (fun h => ?_) (fun h => ?_) <;> conv => whnf)
          | (refine need_in (by first | exact trivial | assumption | exact ⟨rfl, Nat.le_refl _⟩ | exact ⟨rfl, rfl⟩ | (simp only [inR]; omega) | omega | (simp only [roomP, true_and, and_true, List.length_take, List.length_drop, List.length_append, List.length_cons, List.length_nil, List.length_set, List.length_replicate]; omega) | (refine ⟨by first | exact trivial | rfl, by first | exact Nat.le_refl _ | omega | (simp; omega), ?_⟩; change roomP _ _ 1; simp only [roomP]; omega) | (change roomP _ _ 1; simp only [roomP]; omega) | (simp; omega) | (simp [inR]; omega) | (simp [inR]; done) | decide | (simp; done)) ?_; conv => whnf)
          | (refine idx_nat (by omega) (fun x hx => ?_); conv => whnf)
          | (refine draw_plain ?_; conv => whnf)
          | (refine idx_intro (by omega) (by omega) (fun x hx => ?_); conv => whnf)
          | (refine idx_intro (by first | omega | (simp; omega) | (simp; done)) (by first | omega | (simp; omega) | (simp; done)) (fun x hx => ?_); conv => whnf)
          | fail
        refine back_intro (by conv => whnf) rfl ⟨i + 1, ?_, ?_, by omega, ?_⟩ ?_
        · rw [hct]; rfl
        · rw [hma, hmb]
          refine two_heap ?_ ?_
          · rename_i x0 hy0
            simp only [cast_self, htA, List.take_succ_cons, List.take_zero, Int.toNat_natCast, Int.toNat_zero] at hy0 hx ⊢
            exact keys_step hml hy0 hx
          · show List.take i _ ++ [List.take (List.length xs) (asc xs)] = _
            rw [htB, htX]
        · omega
        · show ls.length - ((i : Int) + 1).toNat < ls.length - (i : Int).toNat
          omega
  · have hie : i = ls.length := by omega
    subst hie
    have hall : List.take ls.length ls = ls := List.take_length
    rw [hall] at hc ⊢
    have hkz := hds_zero ls
    have hlm : (List.map asc ls).length = ls.length := List.length_map ..
    have hca := cnt_asc ls
    have has := ascs_asc ls
    generalize List.map asc ls = L at *
    have hl1 : 1 ≤ L.length := by omega
    have hl2 : L.length ≤ 32 := by omega
    have hr0 := hds_right (L := L) (fun _ => 0) hl1 hl2
    have hbE : F.bE (hds L fun _ => 0) = 0 := by rw [hstd]; exact hr0
    have hbK : F.bK (hds L fun _ => 0) = hds L fun _ => 0 := by rw [hstd]; exact bK_ok hr0
    have hbL : F.bL (hds L fun _ => 0) = loseL (hds L fun _ => 0) := by rw [hstd]; exact bL_ok hr0
    have hbW : F.bW (hds L fun _ => 0) = winI (hds L fun _ => 0) := by rw [hstd]; exact bW_ok hr0
    have hlK := hds_len L (fun _ => 0)
    have hlB : (F.bK (hds L fun _ => 0)).length = ls.length := by rw [hbK]; omega
    have hlL : (F.bL (hds L fun _ => 0)).length = ls.length := by rw [hbL, loseL_len]; omega
    have htk : List.take ls.length (hds L fun _ => 0) = hds L fun _ => 0 := List.take_of_length_le (by omega)
    have hbE2 : F.bE (List.take ls.length (hds L fun _ => 0)) = 0 := by rw [htk]; exact hbE
    have hlB2 : (F.bK (List.take ls.length (hds L fun _ => 0))).length = ls.length := by rw [htk]; exact hlB
    have hlL2 : (F.bL (List.take ls.length (hds L fun _ => 0))).length = ls.length := by rw [htk]; exact hlL
    rw [hkz]
    repeat' first
      | (refine idx_kn (by assumption) ?_; conv => whnf)
      | (refine idx_ki (by assumption) (by omega) ?_; conv => whnf)
      | (refine br_true (by first | with_reducible exact rfl | assumption | decide) ?_; conv => whnf)
      | (refine br_false (by first | with_reducible exact rfl | assumption | decide) ?_; conv => whnf)
      | ((with_reducible refine br_kt (by assumption) ?_); conv => whnf)
      | ((with_reducible refine br_kf (by assumption) ?_); conv => whnf)
      | ((with_reducible refine br_nt (by assumption) ?_); conv => whnf)
      | ((with_reducible refine br_nf (by assumption) ?_); conv => whnf)
      | ((with_reducible refine br_et (by assumption) ?_); conv => whnf)
      | ((with_reducible refine br_ef (by assumption) ?_); conv => whnf)
      | ((with_reducible refine br_dec (fun h => ?_) (fun h => ?_)) <;> first | (exfalso; omega) | conv => whnf)
      | ((with_reducible refine br_ndec (fun h => ?_) (fun h => ?_)) <;> first | (exfalso; omega) | conv => whnf)
      | ((with_reducible refine br_ne (fun h => ?_) (fun h => ?_)) <;> first | (exfalso; omega) | conv => whnf)
      | ((with_reducible refine br_eq (fun h => ?_) (fun h => ?_)) <;> first | (exfalso; omega) | conv => whnf)
      | (refine br_intro (fun h => ?_) (fun h => ?_) <;> conv => whnf)
      | (refine need_in (by first | exact trivial | assumption | exact ⟨rfl, Nat.le_refl _⟩ | exact ⟨rfl, rfl⟩ | (simp only [inR]; omega) | omega | (simp only [roomP, true_and, and_true, List.length_take, List.length_drop, List.length_append, List.length_cons, List.length_nil, List.length_set, List.length_replicate]; omega) | (refine ⟨by first | exact trivial | rfl, by first | exact Nat.le_refl _ | omega | (simp; omega), ?_⟩; change roomP _ _ 1; simp only [roomP]; omega) | (change roomP _ _ 1; simp only [roomP]; omega) | (simp; omega) | (simp [inR]; omega) | (simp [inR]; done) | decide | (simp; done)) ?_; conv => whnf)
      | (refine idx_nat (by omega) (fun x hx => ?_); conv => whnf)
      | (refine draw_plain ?_; conv => whnf)
      | (refine idx_intro (by omega) (by omega) (fun x hx => ?_); conv => whnf)
      | (refine idx_intro (by first | omega | (simp; omega) | (simp; done)) (by first | omega | (simp; omega) | (simp; done)) (fun x hx => ?_); conv => whnf)
      | fail
    refine .mk [.frz 0 [4, 110] []] ?_
    conv => whnf
    repeat' first
      | (refine idx_kn (by assumption) ?_; conv => whnf)
      | (refine idx_ki (by assumption) (by omega) ?_; conv => whnf)
      | (refine br_true (by first | with_reducible exact rfl | assumption | decide) ?_; conv => whnf)
      | (refine br_false (by first | with_reducible exact rfl | assumption | decide) ?_; conv => whnf)
      | ((with_reducible refine br_kt (by assumption) ?_); conv => whnf)
      | ((with_reducible refine br_kf (by assumption) ?_); conv => whnf)
      | ((with_reducible refine br_nt (by assumption) ?_); conv => whnf)
      | ((with_reducible refine br_nf (by assumption) ?_); conv => whnf)
      | ((with_reducible refine br_et (by assumption) ?_); conv => whnf)
      | ((with_reducible refine br_ef (by assumption) ?_); conv => whnf)
      | ((with_reducible refine br_dec (fun h => ?_) (fun h => ?_)) <;> first | (exfalso; omega) | conv => whnf)
      | ((with_reducible refine br_ndec (fun h => ?_) (fun h => ?_)) <;> first | (exfalso; omega) | conv => whnf)
      | ((with_reducible refine br_ne (fun h => ?_) (fun h => ?_)) <;> first | (exfalso; omega) | conv => whnf)
      | ((with_reducible refine br_eq (fun h => ?_) (fun h => ?_)) <;> first | (exfalso; omega) | conv => whnf)
      | (refine br_intro (fun h => ?_) (fun h => ?_) <;> conv => whnf)
      | (refine need_in (by first | exact trivial | assumption | exact ⟨rfl, Nat.le_refl _⟩ | exact ⟨rfl, rfl⟩ | (simp only [inR]; omega) | omega | (simp only [roomP, true_and, and_true, List.length_take, List.length_drop, List.length_append, List.length_cons, List.length_nil, List.length_set, List.length_replicate]; omega) | (refine ⟨by first | exact trivial | rfl, by first | exact Nat.le_refl _ | omega | (simp; omega), ?_⟩; change roomP _ _ 1; simp only [roomP]; omega) | (change roomP _ _ 1; simp only [roomP]; omega) | (simp; omega) | (simp [inR]; omega) | (simp [inR]; done) | decide | (simp; done)) ?_; conv => whnf)
      | (refine idx_nat (by omega) (fun x hx => ?_); conv => whnf)
      | (refine draw_plain ?_; conv => whnf)
      | (refine idx_intro (by omega) (by omega) (fun x hx => ?_); conv => whnf)
      | (refine idx_intro (by first | omega | (simp; omega) | (simp; done)) (by first | omega | (simp; omega) | (simp; done)) (fun x hx => ?_); conv => whnf)
      | fail
    simp only [htk, hbK, hbL, hbW]
    have hz0 : (List.replicate (ls.length : Int).toNat (0 : Int)) = aL L.length (fun _ => 0) := by rw [← aL_zero, Int.toNat_natCast, hlm]
    have hz1 := tot_zero L.length
    refine loop_inv [] [13, 14, 15] (fun vs h => ∃ (n : Nat) (a : Nat → Nat) (lk : ByteArray) (ll : Int), vs = [.str lk, .int .i64 ll, .int .i64 (n : Int)] ∧ h = hpN L ls.length (hds L a) (loseL (hds L a)) (winI (hds L a)) (aL L.length a) ∧ lastOk L a lk ll ∧ (∀ i, i < L.length → a i ≤ lenA L i) ∧ tot a L.length = n ∧ n ≤ cnt ls) (fun vs _ => match vs with | [_, _, .int _ n] => cnt ls - n.toNat | _ => 0) ?_
    refine ⟨⟨0, fun _ => 0, _, _, rfl, ?_, last_zero L _, fun _ _ => Nat.zero_le _, tot_zero _, Nat.zero_le _⟩, ?_⟩
    · unfold hpN
      rw [← hz0]
    rintro vs h' - ⟨n, a, lk, ll, rfl, rfl, hlast, hale, htot, hnc⟩
    unfold hpN
    have hll := aL_len L.length a
    conv => whnf
    by_cases hn : n < cnt ls
    · obtain ⟨q, l, x, hN⟩ := next_of hl1 hl2 has hlast (tot_lt _ (by omega))
      have hwP : F.wP (hds L a) (loseL (hds L a)) (winI (hds L a)) = (q : Int) := by rw [hstd]; exact hN.wP
      have hwK : F.wK (hds L a) (loseL (hds L a)) (winI (hds L a)) = x := by rw [hstd]; exact hN.wK
      have hwE : F.wE (hds L a) (loseL (hds L a)) (winI (hds L a)) = 0 := by rw [hstd]; exact hN.wE
      have hlq := hN.hl
      have hxq := hN.hx
      have hql : q < L.length := (List.getElem?_eq_some_iff.1 hlq).1
      have hal : a q < l.length := (List.getElem?_eq_some_iff.1 hxq).1
      have haq := aL_get a hql
      have hsr := sEq_refl' x
      have hsr2 : (!sEq x x) = false := by rw [hsr]; rfl
      have hl40 : l.length ≤ 40 := by
        have := tot_ge (f := lenA L) L.length q hql
        simp only [lenA, hlq] at this
        omega
      obtain ⟨ho1, ho2⟩ := hN.old
      have hset : ((aL L.length a).set (Int.toNat (q : Int)) (((a q : Nat) : Int) + 1))[q]? = some (((a q : Nat) : Int) + 1) := by
        rw [Int.toNat_natCast, List.getElem?_set_self (by omega)]
      have hseq : (sEq x lk = true ∧ ¬ (q : Int) < ll) ∨ sEq x lk = false := by
        cases he : sEq x lk with
        | true => exact .inl ⟨rfl, by have := ho2 he; omega⟩
        | false => exact .inr rfl
      have hh : ∀ (nx : keyT.El) (d : Bool), hdAt L (upd a q) q = nx → d = nx.2.1 → F.rE (hds L a) (loseL (hds L a)) (winI (hds L a)) nx.1 d = 0 ∧ F.rK (hds L a) (loseL (hds L a)) (winI (hds L a)) nx.1 d = hds L (upd a q) ∧ F.rL (hds L a) (loseL (hds L a)) (winI (hds L a)) nx.1 d = loseL (hds L (upd a q)) ∧ F.rW (hds L a) (loseL (hds L a)) (winI (hds L a)) nx.1 d = winI (hds L (upd a q)) := by
        rintro nx d rfl rfl
        rw [hstd]
        exact ⟨hN.rE, hN.K, hN.Lo, hN.W⟩
      have hnew : lastOk L (upd a q) x q := hN.last
      have hupl : ∀ i, i < L.length → upd a q i ≤ lenA L i := by
        intro i hi
        by_cases hiq : i = q
        · subst hiq
          rw [upd_self]
          simp only [lenA, hlq]
          omega
        · rw [upd_ne hiq]; exact hale i hi
      have hupt : tot (upd a q) L.length = n + 1 := by rw [tot_upd, if_pos hql, htot]
      have hlen2 := hds_len L (upd a q)
      iterate 2 first
        | (refine idx_kn (by assumption) ?_; conv => whnf)
        | (refine idx_ki (by assumption) (by omega) ?_; conv => whnf)
        | (refine br_true (by first | with_reducible exact rfl | assumption | decide) ?_; conv => whnf)
        | (refine br_false (by first | with_reducible exact rfl | assumption | decide) ?_; conv => whnf)
        | ((with_reducible refine br_kt (by assumption) ?_); conv => whnf)
        | ((with_reducible refine br_kf (by assumption) ?_); conv => whnf)
        | ((with_reducible refine br_nt (by assumption) ?_); conv => whnf)
        | ((with_reducible refine br_nf (by assumption) ?_); conv => whnf)
        | ((with_reducible refine br_et (by assumption) ?_); conv => whnf)
        | ((with_reducible refine br_ef (by assumption) ?_); conv => whnf)
        | ((with_reducible refine br_dec (fun h => ?_) (fun h => ?_)) <;> first | (exfalso; omega) | conv => whnf)
        | ((with_reducible refine br_ndec (fun h => ?_) (fun h => ?_)) <;> first | (exfalso; omega) | conv => whnf)
        | ((with_reducible refine br_ne (fun h => ?_) (fun h => ?_)) <;> first | (exfalso; omega) | conv => whnf)
        | ((with_reducible refine br_eq (fun h => ?_) (fun h => ?_)) <;> first | (exfalso; omega) | conv => whnf)
        | (refine br_intro (fun h => ?_) (fun h => ?_) <;> conv => whnf)
        | (refine need_in (by first | exact trivial | assumption | exact ⟨rfl, Nat.le_refl _⟩ | exact ⟨rfl, rfl⟩ | (simp only [inR]; omega) | omega | (simp only [roomP, true_and, and_true, List.length_take, List.length_drop, List.length_append, List.length_cons, List.length_nil, List.length_set, List.length_replicate]; omega) | (refine ⟨by first | exact trivial | rfl, by first | exact Nat.le_refl _ | omega | (simp; omega), ?_⟩; change roomP _ _ 1; simp only [roomP]; omega) | (change roomP _ _ 1; simp only [roomP]; omega) | (simp; omega) | (simp [inR]; omega) | (simp [inR]; done) | decide | (simp; done)) ?_; conv => whnf)
        | (refine idx_nat (by omega) (fun x hx => ?_); conv => whnf)
        | (refine frz_auto ?_; conv => whnf)
        | (refine draw_plain ?_; conv => whnf)
        | (refine idx_intro (by omega) (by omega) (fun x hx => ?_); conv => whnf)
        | (refine idx_intro (by first | omega | (simp; omega) | (simp; done)) (by first | omega | (simp; omega) | (simp; done)) (fun x hx => ?_); conv => whnf)
        | fail
      generalize F.wP (hds L a) (loseL (hds L a)) (winI (hds L a)) = P at hwP ⊢
      generalize F.wK (hds L a) (loseL (hds L a)) (winI (hds L a)) = PK at hwK ⊢
      generalize F.wE (hds L a) (loseL (hds L a)) (winI (hds L a)) = PE at hwE ⊢
      subst hwP hwK hwE
      conv => whnf
      by_cases hnx : a q + 1 = l.length
      · obtain ⟨r1, r2, r3, r4⟩ := hh (⟨#[]⟩, true, ()) (((a q : Nat) : Int) + 1 == (l.length : Int)) (by
          have : l[upd a q q]? = none := List.getElem?_eq_none (by rw [upd_self]; omega)
          simp only [hdAt, hlq, this]) (by show _ = true; rw [beq_iff_eq]; omega)
        have r5 := congrArg List.length r2
        have r6 := congrArg List.length r3
        rw [loseL_len] at r6
        have hdn : (!(((a q : Nat) : Int) + 1 == (l.length : Int))) = false := by
          rw [show (((a q : Nat) : Int) + 1 == (l.length : Int)) = !false by show _ = true; rw [beq_iff_eq]; omega]; rfl
        rcases hseq with ⟨hs1, hs2⟩ | hs1
        all_goals
          repeat' first
            | (refine idx_kn (by assumption) ?_; conv => whnf)
            | (refine idx_ki (by assumption) (by omega) ?_; conv => whnf)
            | (refine br_true (by first | with_reducible exact rfl | assumption | decide) ?_; conv => whnf)
            | (refine br_false (by first | with_reducible exact rfl | assumption | decide) ?_; conv => whnf)
            | ((with_reducible refine br_kt (by assumption) ?_); conv => whnf)
            | ((with_reducible refine br_kf (by assumption) ?_); conv => whnf)
            | ((with_reducible refine br_nt (by assumption) ?_); conv => whnf)
            | ((with_reducible refine br_nf (by assumption) ?_); conv => whnf)
            | ((with_reducible refine br_et (by assumption) ?_); conv => whnf)
            | ((with_reducible refine br_ef (by assumption) ?_); conv => whnf)
            | ((with_reducible refine br_dec (fun h => ?_) (fun h => ?_)) <;> first | (exfalso; omega) | conv => whnf)
            | ((with_reducible refine br_ndec (fun h => ?_) (fun h => ?_)) <;> first | (exfalso; omega) | conv => whnf)
            | ((with_reducible refine br_ne (fun h => ?_) (fun h => ?_)) <;> first | (exfalso; omega) | conv => whnf)
            | ((with_reducible refine br_eq (fun h => ?_) (fun h => ?_)) <;> first | (exfalso; omega) | conv => whnf)
            | (refine br_intro (fun h => ?_) (fun h => ?_) <;> conv => whnf)
            | (refine need_in (by first | exact trivial | assumption | exact ⟨rfl, Nat.le_refl _⟩ | exact ⟨rfl, rfl⟩ | (simp only [inR]; omega) | omega | (simp only [roomP, true_and, and_true, List.length_take, List.length_drop, List.length_append, List.length_cons, List.length_nil, List.length_set, List.length_replicate]; omega) | (refine ⟨by first | exact trivial | rfl, by first | exact Nat.le_refl _ | omega | (simp; omega), ?_⟩; change roomP _ _ 1; simp only [roomP]; omega) | (change roomP _ _ 1; simp only [roomP]; omega) | (simp; omega) | (simp [inR]; omega) | (simp [inR]; done) | decide | (simp; done)) ?_; conv => whnf)
            | (refine idx_nat (by omega) (fun x hx => ?_); conv => whnf)
            | (refine frz_auto ?_; conv => whnf)
            | (refine draw_plain ?_; conv => whnf)
            | (refine idx_intro (by omega) (by omega) (fun x hx => ?_); conv => whnf)
            | (refine idx_intro (by first | omega | (simp; omega) | (simp; done)) (by first | omega | (simp; omega) | (simp; done)) (fun x hx => ?_); conv => whnf)
            | fail
          refine back_intro (by conv => whnf) rfl ⟨n + 1, upd a q, _, _, rfl, ?_, hnew, hupl, hupt, by omega⟩ ?_
          · rw [← r4, ← r3, ← r2, ← aL_set]
            rfl
          · show cnt ls - ((n : Int) + 1).toNat < cnt ls - (n : Int).toNat
            omega
      · obtain ⟨y, hy⟩ : ∃ y, l[a q + 1]? = some y := ⟨_, List.getElem?_eq_getElem (by omega)⟩
        have hy2 : l[(((a q : Nat) : Int) + 1).toNat]? = some y := by rw [show (((a q : Nat) : Int) + 1).toNat = a q + 1 by omega]; exact hy
        obtain ⟨r1, r2, r3, r4⟩ := hh (y, false, ()) (((a q : Nat) : Int) + 1 == (l.length : Int)) (hdAt_live hlq (by rw [upd_self]; exact hy)) (by show _ = false; rw [beq_eq_false_iff_ne]; omega)
        have r5 := congrArg List.length r2
        have r6 := congrArg List.length r3
        rw [loseL_len] at r6
        have hdn : (!(((a q : Nat) : Int) + 1 == (l.length : Int))) = true := by
          rw [show (((a q : Nat) : Int) + 1 == (l.length : Int)) = !true by show _ = false; rw [beq_eq_false_iff_ne]; omega]; rfl
        rcases hseq with ⟨hs1, hs2⟩ | hs1
        all_goals
          repeat' first
            | (refine idx_kn (by assumption) ?_; conv => whnf)
            | (refine idx_ki (by assumption) (by omega) ?_; conv => whnf)
            | (refine br_true (by first | with_reducible exact rfl | assumption | decide) ?_; conv => whnf)
            | (refine br_false (by first | with_reducible exact rfl | assumption | decide) ?_; conv => whnf)
            | ((with_reducible refine br_kt (by assumption) ?_); conv => whnf)
            | ((with_reducible refine br_kf (by assumption) ?_); conv => whnf)
            | ((with_reducible refine br_nt (by assumption) ?_); conv => whnf)
            | ((with_reducible refine br_nf (by assumption) ?_); conv => whnf)
            | ((with_reducible refine br_et (by assumption) ?_); conv => whnf)
            | ((with_reducible refine br_ef (by assumption) ?_); conv => whnf)
            | ((with_reducible refine br_dec (fun h => ?_) (fun h => ?_)) <;> first | (exfalso; omega) | conv => whnf)
            | ((with_reducible refine br_ndec (fun h => ?_) (fun h => ?_)) <;> first | (exfalso; omega) | conv => whnf)
            | ((with_reducible refine br_ne (fun h => ?_) (fun h => ?_)) <;> first | (exfalso; omega) | conv => whnf)
            | ((with_reducible refine br_eq (fun h => ?_) (fun h => ?_)) <;> first | (exfalso; omega) | conv => whnf)
            | (refine br_intro (fun h => ?_) (fun h => ?_) <;> conv => whnf)
            | (refine need_in (by first | exact trivial | assumption | exact ⟨rfl, Nat.le_refl _⟩ | exact ⟨rfl, rfl⟩ | (simp only [inR]; omega) | omega | (simp only [roomP, true_and, and_true, List.length_take, List.length_drop, List.length_append, List.length_cons, List.length_nil, List.length_set, List.length_replicate]; omega) | (refine ⟨by first | exact trivial | rfl, by first | exact Nat.le_refl _ | omega | (simp; omega), ?_⟩; change roomP _ _ 1; simp only [roomP]; omega) | (change roomP _ _ 1; simp only [roomP]; omega) | (simp; omega) | (simp [inR]; omega) | (simp [inR]; done) | decide | (simp; done)) ?_; conv => whnf)
            | (refine idx_nat (by omega) (fun x hx => ?_); conv => whnf)
            | (refine frz_auto ?_; conv => whnf)
            | (refine draw_plain ?_; conv => whnf)
            | (refine idx_intro (by omega) (by omega) (fun x hx => ?_); conv => whnf)
            | (refine idx_intro (by first | omega | (simp; omega) | (simp; done)) (by first | omega | (simp; omega) | (simp; done)) (fun x hx => ?_); conv => whnf)
            | fail
          refine back_intro (by conv => whnf) rfl ⟨n + 1, upd a q, _, _, rfl, ?_, hnew, hupl, hupt, by omega⟩ ?_
          · rw [← r4, ← r3, ← r2, ← aL_set]
            rfl
          · show cnt ls - ((n : Int) + 1).toNat < cnt ls - (n : Int).toNat
            omega
    · have hne : n = cnt ls := by omega
      have hend : F.wE (hds L a) (loseL (hds L a)) (winI (hds L a)) = 12 := by
        rw [hstd]
        exact end_of hl1 hl2 (tot_eq _ hale (by omega))
      repeat' first
        | (refine idx_kn (by assumption) ?_; conv => whnf)
        | (refine idx_ki (by assumption) (by omega) ?_; conv => whnf)
        | (refine br_true (by first | with_reducible exact rfl | assumption | decide) ?_; conv => whnf)
        | (refine br_false (by first | with_reducible exact rfl | assumption | decide) ?_; conv => whnf)
        | ((with_reducible refine br_kt (by assumption) ?_); conv => whnf)
        | ((with_reducible refine br_kf (by assumption) ?_); conv => whnf)
        | ((with_reducible refine br_nt (by assumption) ?_); conv => whnf)
        | ((with_reducible refine br_nf (by assumption) ?_); conv => whnf)
        | ((with_reducible refine br_et (by assumption) ?_); conv => whnf)
        | ((with_reducible refine br_ef (by assumption) ?_); conv => whnf)
        | ((with_reducible refine br_dec (fun h => ?_) (fun h => ?_)) <;> first | (exfalso; omega) | conv => whnf)
        | ((with_reducible refine br_ndec (fun h => ?_) (fun h => ?_)) <;> first | (exfalso; omega) | conv => whnf)
        | ((with_reducible refine br_ne (fun h => ?_) (fun h => ?_)) <;> first | (exfalso; omega) | conv => whnf)
        | ((with_reducible refine br_eq (fun h => ?_) (fun h => ?_)) <;> first | (exfalso; omega) | conv => whnf)
        | (refine br_intro (fun h => ?_) (fun h => ?_) <;> conv => whnf)
        | (refine need_in (by first | exact trivial | assumption | exact ⟨rfl, Nat.le_refl _⟩ | exact ⟨rfl, rfl⟩ | (simp only [inR]; omega) | omega | (simp only [roomP, true_and, and_true, List.length_take, List.length_drop, List.length_append, List.length_cons, List.length_nil, List.length_set, List.length_replicate]; omega) | (refine ⟨by first | exact trivial | rfl, by first | exact Nat.le_refl _ | omega | (simp; omega), ?_⟩; change roomP _ _ 1; simp only [roomP]; omega) | (change roomP _ _ 1; simp only [roomP]; omega) | (simp; omega) | (simp [inR]; omega) | (simp [inR]; done) | decide | (simp; done)) ?_; conv => whnf)
        | (refine idx_nat (by omega) (fun x hx => ?_); conv => whnf)
        | (refine frz_auto ?_; conv => whnf)
        | (refine draw_plain ?_; conv => whnf)
        | (refine idx_intro (by omega) (by omega) (fun x hx => ?_); conv => whnf)
        | (refine idx_intro (by first | omega | (simp; omega) | (simp; done)) (by first | omega | (simp; omega) | (simp; done)) (fun x hx => ?_); conv => whnf)
        | fail
end Go.Proofs.Ytjlfkgffgnkflaa
