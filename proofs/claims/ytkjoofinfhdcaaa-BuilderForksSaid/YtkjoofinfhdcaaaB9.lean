/-
  The law of forks.
-/
import Derived.Test.YtkjoofinfhdcaaaBx1
namespace Go.Proofs.Ytkjoofinfhdcaaa
open Av Bk

abbrev B9 : Hp := [.arr 25 entT [] false 0, .arr 25 entT [] false 0]
theorem B9_no : NoBx B9 := by
  intro o ho
  rcases List.mem_cons.1 ho with rfl | ho
  · exact ⟨_, _, .inr rfl⟩
  · rcases List.mem_cons.1 ho with rfl | ho
    · exact ⟨_, _, .inr rfl⟩
    · cases ho
def bigE (x : entT.El) : Bool := decide (100 < (x.1.size : Int)) || decide (100 < (x.2.1.size : Int))
theorem t_any {l : List entT.El} {i : Nat} {x : entT.El} (h : ∀ y ∈ l.take i, bigE y = false) (hx : l[i]? = some x) (he : bigE x = false) : ∀ y ∈ l.take (i + 1), bigE y = false := by
  intro y hy
  rw [List.take_add_one, hx] at hy
  rcases List.mem_append.1 hy with h1 | h1
  · exact h y h1
  · rw [List.mem_singleton.1 h1]; exact he
theorem add_cases {W : List entT.El} {c : Nat} (hc : c = W.length) (x : entT.El) :
    (errE x.1 x.2.1 x.2.2.1 x.2.2.2.1 ≠ 0 ∧ add1 W x = W) ∨ (errE x.1 x.2.1 x.2.2.1 x.2.2.2.1 = 0 ∧ ¬ 0 < (c : Int) ∧ add1 W x = W ++ [x]) ∨
    (errE x.1 x.2.1 x.2.2.1 x.2.2.2.1 = 0 ∧ 0 < (c : Int) ∧ ∃ y : entT.El, W[((c : Int) - 1).toNat]? = some y ∧ (!sLt y.1 x.1) = true ∧ add1 W x = W) ∨
    (errE x.1 x.2.1 x.2.2.1 x.2.2.2.1 = 0 ∧ 0 < (c : Int) ∧ ∃ y : entT.El, W[((c : Int) - 1).toNat]? = some y ∧ (!sLt y.1 x.1) = false ∧ add1 W x = W ++ [x]) := by
  by_cases he : errX x = 0
  · right
    by_cases h0 : 0 < (c : Int)
    · right
      have hi : c - 1 < W.length := by omega
      have hy : W[((c : Int) - 1).toNat]? = some W[c - 1] := by rw [show ((c : Int) - 1).toNat = c - 1 by omega]; exact List.getElem?_eq_getElem hi
      have ha : okAft W x.1 = sLt (W[c - 1]).1 x.1 := by
        unfold okAft
        rw [← hc, List.getElem?_eq_getElem hi]
      cases hs : sLt (W[c - 1]).1 x.1 with
      | false =>
        left
        refine ⟨he, h0, _, hy, by rw [hs]; rfl, ?_⟩
        unfold add1
        rw [if_neg]
        rintro ⟨_, h⟩
        rw [ha, hs] at h
        cases h
      | true =>
        right
        refine ⟨he, h0, _, hy, by rw [hs]; rfl, ?_⟩
        unfold add1
        rw [if_pos ⟨he, ha.trans hs⟩]
    · left
      have hW : W = [] := List.length_eq_zero_iff.1 (by omega)
      subst hW
      refine ⟨he, h0, ?_⟩
      unfold add1
      rw [if_pos ⟨he, rfl⟩]
  · left
    refine ⟨he, ?_⟩
    unfold add1
    rw [if_neg (fun h => he h.1)]
theorem app_8 {W : List entT.El} {c : Nat} (hc : c = W.length) (x : entT.El) : List.take c W ++ List.take 1 [x] = W ++ [x] := by
  rw [hc, List.take_length]
  rfl
abbrev H2 (g c : Nat) (W : List entT.El) : Hp := B9 ++ [.cells 65 [.int .i64 100, .own 3 g c, .int .i64 1], .arr 25 entT W false g]
abbrev H3 (F0 F1 : List entT.El) (g0 g1 : Nat) (W : List entT.El) (g : Nat) (u v : AV) : Hp := [.arr 25 entT F0 false g0, .arr 25 entT F1 false g1, .cells 65 [.int .i64 100, u, .int .i64 1], .arr 25 entT W false g, .cells 65 [.int .i64 100, v, .int .i64 1]]
theorem H3_eq {F1 : List entT.El} {g0 g1 : Nat} {W : List entT.El} {g : Nat} {u v : AV} {F F' : List entT.El} (h : F' = F) : H3 F' F1 g0 g1 W g u v = H3 F F1 g0 g1 W g u v := by rw [h]
theorem H3_mv {F L : List entT.El} {x : entT.El} {g N n : Nat} {u : AV} (hL : L = F ++ [x]) (hN : N = n + 1) : H3 L [] 1 0 F g u (.own 0 1 N) = H3 (F ++ [x]) [] 1 0 F g u (.own 0 1 (n + 1)) := by rw [hL, hN]
theorem app_80 {W : List entT.El} {c : Nat} (hc : c = W.length) (x : entT.El) : List.take c (List.drop 0 W) ++ List.take 1 [x] = W ++ [x] := by
  rw [hc, List.drop_zero, List.take_length]
  rfl
theorem len_80 {W : List entT.El} {c : Nat} (hc : c = W.length) (x : entT.El) : (List.take c (List.drop 0 W)).length + (List.take 1 [x]).length = c + 1 := by
  rw [hc, List.drop_zero, List.take_length]
  rfl
abbrev H4 (F0 F1 : List entT.El) (g0 g1 : Nat) (W : List entT.El) (g : Nat) (u v : AV) (z : entT.El) : Hp := H3 F0 F1 g0 g1 W g u v ++ [.cells 25 [.str z.1, .str z.2.1, .bool z.2.2.1, .int .i64 z.2.2.2.1], .cells 25 [.str z.1, .str z.2.1, .bool z.2.2.1, .int .i64 z.2.2.2.1]]
theorem H4_eq {F0 : List entT.El} {g0 g1 : Nat} {W : List entT.El} {g : Nat} {u v : AV} {z : entT.El} {F F' : List entT.El} (h : F' = F) : H4 F0 F' g0 g1 W g u v z = H4 F0 F g0 g1 W g u v z := by rw [h]
theorem H4_mv {F0 : List entT.El} {g0 : Nat} {v : AV} {z : entT.El} {F L : List entT.El} {x : entT.El} {g N n : Nat} (hL : L = F ++ [x]) (hN : N = n + 1) : H4 F0 L g0 1 F g (.own 1 1 N) v z = H4 F0 (F ++ [x]) g0 1 F g (.own 1 1 (n + 1)) v z := by rw [hL, hN]
theorem fadd_cases {G : List entT.El} {m : Nat} (hm : m = G.length) (x : entT.El) :
    (errE x.1 x.2.1 x.2.2.1 x.2.2.2.1 ≠ 0 ∧ addF G x = G) ∨
    (errE x.1 x.2.1 x.2.2.1 x.2.2.2.1 = 0 ∧ ∃ (v : ByteArray) (d : Bool), ((x.2.2.1 = true ∧ v = ⟨#[120]⟩ ∧ d = false) ∨ (x.2.2.1 = false ∧ v = ⟨#[]⟩ ∧ d = true)) ∧ errE x.1 v d x.2.2.2.1 = 0 ∧
      ((¬ 0 < (m : Int) ∧ addF G x = G ++ [(x.1, v, d, x.2.2.2.1, ())]) ∨
       (0 < (m : Int) ∧ ∃ y : entT.El, G[((m : Int) - 1).toNat]? = some y ∧ (!sLt y.1 x.1) = true ∧ addF G x = G) ∨
       (0 < (m : Int) ∧ ∃ y : entT.El, G[((m : Int) - 1).toNat]? = some y ∧ (!sLt y.1 x.1) = false ∧ addF G x = G ++ [(x.1, v, d, x.2.2.2.1, ())]))) := by
  by_cases he : errX x = 0
  · right
    have hF : addF G x = add1 G (flipE x) := by unfold addF; rw [if_pos he]
    have hf := flip_ok he
    obtain ⟨v, d, h1, h2⟩ : ∃ (v : ByteArray) (d : Bool), ((x.2.2.1 = true ∧ v = ⟨#[120]⟩ ∧ d = false) ∨ (x.2.2.1 = false ∧ v = ⟨#[]⟩ ∧ d = true)) ∧ flipE x = (x.1, v, d, x.2.2.2.1, ()) := by
      unfold flipE
      cases hd : x.2.2.1 with
      | true => exact ⟨_, _, .inl ⟨rfl, rfl, rfl⟩, rfl⟩
      | false => exact ⟨_, _, .inr ⟨rfl, rfl, rfl⟩, rfl⟩
    rw [h2] at hF hf
    have hf : errE x.1 v d x.2.2.2.1 = 0 := hf
    refine ⟨he, v, d, h1, hf, ?_⟩
    rw [hF]
    rcases add_cases hm (x.1, v, d, x.2.2.2.1, ()) with ⟨e1, e2⟩ | ⟨e1, e3, e2⟩ | ⟨e1, e3, y, hy, e4, e2⟩ | ⟨e1, e3, y, hy, e4, e2⟩
    · exact absurd hf e1
    · exact .inl ⟨e3, e2⟩
    · exact .inr (.inl ⟨e3, y, hy, e4, e2⟩)
    · exact .inr (.inr ⟨e3, y, hy, e4, e2⟩)
  · left
    refine ⟨he, ?_⟩
    unfold addF
    rw [if_neg he]
theorem H2_eq {g c : Nat} {W V : List entT.El} (h : V = W) : H2 g c V = H2 g c W := by rw [h]
set_option maxRecDepth 100000 in
theorem fnOk_lFk : FnOk Try.prog 9 Try.f9 := ⟨by rfl, by kernel_rfl, by
  show okCode _ _ = true ∧ drawsOk _ = true
  exact ⟨by kernel_rfl, by kernel_rfl⟩⟩
noncomputable def lFk_C : Cx := ⟨tb, (27, Try.f27) :: cxB.fns, (10, spAwake) :: (31, spCheck) :: cxB.specs⟩
theorem lFk_D : SpecsOk Try.prog lFk_C.specs := .cons awake_ok (.cons refCheck_ok specsB)
theorem lFk_F : FnsOk Try.prog lFk_C.fns := .cons fnOk_bFork fnsB
abbrev lFk_N : Nat := 4
abbrev lFk_T : List Ty := [.sl entT, .int .u8]
abbrev lFk_FN := fnOk_lFk
set_option maxRecDepth 100000 in
set_option maxHeartbeats 8000000 in
theorem lFk' (l : List entT.El) (a : Nat) (ha : a ≤ 255) : bodyA lFk_C (callN lFk_C lFk_N) Try.f9 [.lst entT l, .int .u8 (a : Int)] B9 (fun v _ => v = .bool true) := by
  by_cases hl : 60 < (l.length : Int)
  · conv => whnf
    repeat' first
      | ((first | refine auIk ?_ | refine auIi ?_ | refine auT ?_ | refine auF ?_ | with_reducible first | refine auKt ?_ | refine auKf ?_ | refine auNt ?_ | refine auNf ?_ | refine auEt ?_ | refine auEf ?_); conv => whnf)
      | ((with_reducible first | refine br_dec (fun h => ?_) (fun h => ?_) | refine br_ndec (fun h => ?_) (fun h => ?_) | refine br_ne (fun h => ?_) (fun h => ?_) | refine br_eq (fun h => ?_) (fun h => ?_)) <;> first | (exfalso; omega) | conv => whnf)
      | (refine br_intro (fun h => ?_) (fun h => ?_) <;> conv => whnf)
      | ((first | refine auNd ?_ | refine idx_nat (by omega) (fun x hx => ?_) | refine frz_auto ?_ | refine draw_plain ?_ | refine auIx (fun x hx => ?_)); conv => whnf)
  · obtain ⟨k, hk, hk2⟩ : ∃ k : Nat, (a : Int) % ((l.length : Int) + 1) = (k : Int) ∧ k ≤ l.length := ⟨a % (l.length + 1), by rw [show ((l.length : Int) + 1) = ((l.length + 1 : Nat) : Int) by omega]; rfl, by have := Nat.mod_lt a (show 0 < l.length + 1 by omega); omega⟩
    conv => whnf
    repeat' first
      | ((first | refine auIk ?_ | refine auIi ?_ | refine auT ?_ | refine auF ?_ | with_reducible first | refine auKt ?_ | refine auKf ?_ | refine auNt ?_ | refine auNf ?_ | refine auEt ?_ | refine auEf ?_); conv => whnf)
      | ((with_reducible first | refine br_dec (fun h => ?_) (fun h => ?_) | refine br_ndec (fun h => ?_) (fun h => ?_) | refine br_ne (fun h => ?_) (fun h => ?_) | refine br_eq (fun h => ?_) (fun h => ?_)) <;> first | (exfalso; omega) | conv => whnf)
      | (refine br_intro (fun h => ?_) (fun h => ?_) <;> conv => whnf)
      | ((first | refine auNd ?_ | refine idx_nat (by omega) (fun x hx => ?_) | refine frz_auto ?_ | refine draw_plain ?_ | refine auIx (fun x hx => ?_)); conv => whnf)
    refine loop_inv [] [5] (fun vs h => ∃ i : Nat, vs = [.int .i64 (i : Int)] ∧ h = B9 ∧ i ≤ l.length ∧ ∀ y ∈ l.take i, bigE y = false) (fun vs _ => match vs with | [.int _ k] => l.length - k.toNat | _ => 0) ?_
    conv => whnf
    refine ⟨⟨0, rfl, rfl, by omega, by simp⟩, ?_⟩
    rintro vs h' - ⟨i, rfl, rfl, hi, hall⟩
    by_cases hil : i < l.length
    · obtain ⟨x, hx⟩ : ∃ x, l[i]? = some x := ⟨_, List.getElem?_eq_getElem hil⟩
      conv => whnf
      repeat' first
        | ((first | refine auIk ?_ | refine auIi ?_ | refine auT ?_ | refine auF ?_ | with_reducible first | refine auKt ?_ | refine auKf ?_ | refine auNt ?_ | refine auNf ?_ | refine auEt ?_ | refine auEf ?_); conv => whnf)
        | ((with_reducible first | refine br_dec (fun h => ?_) (fun h => ?_) | refine br_ndec (fun h => ?_) (fun h => ?_) | refine br_ne (fun h => ?_) (fun h => ?_) | refine br_eq (fun h => ?_) (fun h => ?_)) <;> first | (exfalso; omega) | conv => whnf)
        | (refine br_intro (fun h => ?_) (fun h => ?_) <;> conv => whnf)
        | ((first | refine auNd ?_ | refine idx_nat (by omega) (fun x hx => ?_) | refine frz_auto ?_ | refine draw_plain ?_ | refine auIx (fun x hx => ?_)); conv => whnf)
      all_goals first
        | (refine back_intro (by conv => whnf) rfl ⟨i + 1, rfl, rfl, by omega, t_any hall hx (by clear hall; simp [bigE]; omega)⟩ ?_
           show l.length - ((i : Int) + 1).toNat < l.length - (i : Int).toNat
           omega)
    · conv => whnf
      repeat' first
        | ((first | refine auIk ?_ | refine auIi ?_ | refine auT ?_ | refine auF ?_ | with_reducible first | refine auKt ?_ | refine auKf ?_ | refine auNt ?_ | refine auNf ?_ | refine auEt ?_ | refine auEf ?_); conv => whnf)
        | ((with_reducible first | refine br_dec (fun h => ?_) (fun h => ?_) | refine br_ndec (fun h => ?_) (fun h => ?_) | refine br_ne (fun h => ?_) (fun h => ?_) | refine br_eq (fun h => ?_) (fun h => ?_)) <;> first | (exfalso; omega) | conv => whnf)
        | (refine br_intro (fun h => ?_) (fun h => ?_) <;> conv => whnf)
        | ((first | refine auNd ?_ | refine idx_nat (by omega) (fun x hx => ?_) | refine frz_auto ?_ | refine draw_plain ?_ | refine auIx (fun x hx => ?_)); conv => whnf)
      rw [hk]
      refine loop_inv [.cell 2 1 25 entT] [9] (fun vs h => ∃ (i g c : Nat) (W : List entT.El), vs = [.int .i64 (i : Int)] ∧ h = H2 g c W ∧ i ≤ k ∧ c = W.length ∧ c ≤ i ∧ W = (l.take i).foldl add1 [] ∧ okL8 W) (fun vs _ => match vs with | [.int _ j] => k - j.toNat | _ => 0) ?_
      conv => whnf
      refine ⟨⟨0, 0, 0, [], rfl, rfl, Nat.zero_le _, rfl, Nat.zero_le _, rfl, okL8_nil⟩, ?_⟩
      rintro vs h' - ⟨i, g, c, W, rfl, rfl, hi, hc, hci, hW, hok⟩
      by_cases hik : i < k
      · obtain ⟨x, hx⟩ : ∃ x, l[i]? = some x := ⟨_, List.getElem?_eq_getElem (by omega)⟩
        have h100 : (c : Int) ≠ 100 := by omega
        have hW2 := fold_at (f := add1) (W := []) hx
        rw [← hW] at hW2
        have hok2 := add1_ok (x := x) hok
        rcases add_cases hc x with ⟨e1, e2⟩ | ⟨e1, e3, e2⟩ | ⟨e1, e3, y, hy, e4, e2⟩ | ⟨e1, e3, y, hy, e4, e2⟩
        all_goals rw [e2] at hW2 hok2
        all_goals (conv => whnf)
        repeat' first
          | ((first | refine auIk ?_ | refine auIi ?_ | refine auT ?_ | refine auF ?_ | with_reducible first | refine auKt ?_ | refine auKf ?_ | refine auNt ?_ | refine auNf ?_ | refine auEt ?_ | refine auEf ?_); conv => whnf)
          | ((with_reducible first | refine br_dec (fun h => ?_) (fun h => ?_) | refine br_ndec (fun h => ?_) (fun h => ?_) | refine br_ne (fun h => ?_) (fun h => ?_) | refine br_eq (fun h => ?_) (fun h => ?_)) <;> first | (exfalso; omega) | conv => whnf)
          | (refine br_intro (fun h => ?_) (fun h => ?_) <;> conv => whnf)
          | ((first | refine auNd ?_ | refine idx_nat (by omega) (fun x hx => ?_) | refine frz_auto ?_ | refine draw_plain ?_ | refine auIx (fun x hx => ?_)); conv => whnf)
        all_goals first
          | (refine back_intro (by conv => whnf) rfl ⟨i + 1, g, c, W, rfl, rfl, by omega, hc, by omega, hW2.symm, hok⟩ ?_
             show k - ((i : Int) + 1).toNat < k - (i : Int).toNat
             omega)
          | (refine back_intro (by conv => whnf) rfl ⟨i + 1, g + 1, c + 1, W ++ [x], rfl, H2_eq (app_8 hc x), by omega, by rw [hc, List.length_append]; rfl, by omega, hW2.symm, hok2⟩ ?_
             show k - ((i : Int) + 1).toNat < k - (i : Int).toNat
             omega)
      · obtain rfl : k = i := by omega
        clear hall hil
        conv => whnf
        repeat' first
          | ((first | refine auIk ?_ | refine auIi ?_ | refine auT ?_ | refine auF ?_ | with_reducible first | refine auKt ?_ | refine auKf ?_ | refine auNt ?_ | refine auNf ?_ | refine auEt ?_ | refine auEf ?_); conv => whnf)
          | ((with_reducible first | refine br_dec (fun h => ?_) (fun h => ?_) | refine br_ndec (fun h => ?_) (fun h => ?_) | refine br_ne (fun h => ?_) (fun h => ?_) | refine br_eq (fun h => ?_) (fun h => ?_)) <;> first | (exfalso; omega) | conv => whnf)
          | (refine br_intro (fun h => ?_) (fun h => ?_) <;> conv => whnf)
          | ((first | refine auNd ?_ | refine idx_nat (by omega) (fun x hx => ?_) | refine frz_auto ?_ | refine draw_plain ?_ | refine auIx (fun x hx => ?_)); conv => whnf)
        have hcc : ((c : Int).toNat - Int.toNat 0) = c := by simp
        rw [hcc]
        refine loop_inv [] [12] (fun vs h => ∃ (i g0 n : Nat) (F : List entT.El), vs = [.int .i64 (i : Int)] ∧ ((h = H3 [] [] 0 0 W g (.tosl 3 g 0 c) (.tosl 3 g 0 c) ∧ F = W) ∨ h = H3 F [] g0 0 W g (.tosl 3 g 0 c) (.own 0 g0 n)) ∧ i ≤ l.length ∧ k ≤ i ∧ n = F.length ∧ n ≤ i ∧ F = ((l.take i).drop k).foldl add1 W ∧ okL8 F) (fun vs _ => match vs with | [.int _ j] => l.length - j.toNat | _ => 0) ?_
        conv => whnf
        refine ⟨⟨k, 0, c, W, rfl, .inl ⟨rfl, rfl⟩, hk2, Nat.le_refl _, hc, hci, by rw [List.drop_of_length_le (by rw [List.length_take]; omega)]; rfl, hok⟩, ?_⟩
        rintro vs h' - ⟨i, g0, n, F, rfl, hh, hi, hki, hn, hni, hF, hokF⟩
        by_cases hil : i < l.length
        · obtain ⟨x, hx⟩ : ∃ x, l[i]? = some x := ⟨_, List.getElem?_eq_getElem (by omega)⟩
          have h100 : (n : Int) ≠ 100 := by omega
          have hF2 := fold_from (f := add1) (W := W) hki hx
          rw [← hF] at hF2
          have hok2 := add1_ok (x := x) hokF
          rcases hh with ⟨rfl, hFW⟩ | rfl
          · have hnc : n = c := by rw [hn, hFW, hc]
            subst hnc
            subst hFW
            rcases add_cases hn x with ⟨e1, e2⟩ | ⟨e1, e3, e2⟩ | ⟨e1, e3, y, hy, e4, e2⟩ | ⟨e1, e3, y, hy, e4, e2⟩
            all_goals rw [e2] at hF2 hok2
            all_goals try have hy0 : F[0 + ((n : Int) - 1).toNat]? = some y := by rw [Nat.zero_add]; exact hy
            all_goals (conv => whnf)
            repeat' first
              | ((first | refine auIk ?_ | refine auIi ?_ | refine auT ?_ | refine auF ?_ | with_reducible first | refine auKt ?_ | refine auKf ?_ | refine auNt ?_ | refine auNf ?_ | refine auEt ?_ | refine auEf ?_); conv => whnf)
              | ((with_reducible first | refine br_dec (fun h => ?_) (fun h => ?_) | refine br_ndec (fun h => ?_) (fun h => ?_) | refine br_ne (fun h => ?_) (fun h => ?_) | refine br_eq (fun h => ?_) (fun h => ?_)) <;> first | (exfalso; omega) | conv => whnf)
              | (refine br_intro (fun h => ?_) (fun h => ?_) <;> conv => whnf)
              | ((first | refine auNd ?_ | refine idx_nat (by omega) (fun x hx => ?_) | refine frz_auto ?_ | refine draw_plain ?_ | refine auIx (fun x hx => ?_)); conv => whnf)
            all_goals first
              | exact absurd (show (1 : Nat) = 0 from h) (by decide)
              | (refine back_intro (by conv => whnf) rfl ⟨i + 1, 0, n, F, rfl, .inl ⟨rfl, rfl⟩, by omega, by omega, hn, by omega, hF2.symm, hokF⟩ ?_
                 show l.length - ((i : Int) + 1).toNat < l.length - (i : Int).toNat
                 omega)
              | (refine backP.mk [.mvc 4 1 0] ?_
                 conv => whnf
                 refine ⟨⟨rfl, rfl⟩, ?_⟩
                 conv => whnf)
            repeat' first
              | ((first | refine auIk ?_ | refine auIi ?_ | refine auT ?_ | refine auF ?_ | with_reducible first | refine auKt ?_ | refine auKf ?_ | refine auNt ?_ | refine auNf ?_ | refine auEt ?_ | refine auEf ?_); conv => whnf)
              | ((with_reducible first | refine br_dec (fun h => ?_) (fun h => ?_) | refine br_ndec (fun h => ?_) (fun h => ?_) | refine br_ne (fun h => ?_) (fun h => ?_) | refine br_eq (fun h => ?_) (fun h => ?_)) <;> first | (exfalso; omega) | conv => whnf)
              | (refine br_intro (fun h => ?_) (fun h => ?_) <;> conv => whnf)
              | ((first | refine auNd ?_ | refine idx_nat (by omega) (fun x hx => ?_) | refine frz_auto ?_ | refine draw_plain ?_ | refine auIx (fun x hx => ?_)); conv => whnf)
            all_goals refine backQ_in (by conv => whnf) rfl ⟨i + 1, 1, n + 1, F ++ [x], rfl, .inr ?_, by omega, by omega, by rw [hn, List.length_append]; rfl, by omega, hF2.symm, hok2⟩ ?_
            all_goals first
              | exact H3_mv (app_80 hn x) (len_80 hn x)
              | (show l.length - ((i : Int) + 1).toNat < l.length - (i : Int).toNat
                 omega)
          · rcases add_cases hn x with ⟨e1, e2⟩ | ⟨e1, e3, e2⟩ | ⟨e1, e3, y, hy, e4, e2⟩ | ⟨e1, e3, y, hy, e4, e2⟩
            all_goals rw [e2] at hF2 hok2
            all_goals (conv => whnf)
            repeat' first
              | ((first | refine auIk ?_ | refine auIi ?_ | refine auT ?_ | refine auF ?_ | with_reducible first | refine auKt ?_ | refine auKf ?_ | refine auNt ?_ | refine auNf ?_ | refine auEt ?_ | refine auEf ?_); conv => whnf)
              | ((with_reducible first | refine br_dec (fun h => ?_) (fun h => ?_) | refine br_ndec (fun h => ?_) (fun h => ?_) | refine br_ne (fun h => ?_) (fun h => ?_) | refine br_eq (fun h => ?_) (fun h => ?_)) <;> first | (exfalso; omega) | conv => whnf)
              | (refine br_intro (fun h => ?_) (fun h => ?_) <;> conv => whnf)
              | ((first | refine auNd ?_ | refine idx_nat (by omega) (fun x hx => ?_) | refine frz_auto ?_ | refine draw_plain ?_ | refine auIx (fun x hx => ?_)); conv => whnf)
            all_goals first
              | (refine back_intro (by conv => whnf) rfl ⟨i + 1, g0, n, F, rfl, .inr rfl, by omega, by omega, hn, by omega, hF2.symm, hokF⟩ ?_
                 show l.length - ((i : Int) + 1).toNat < l.length - (i : Int).toNat
                 omega)
              | (refine back_intro (by conv => whnf) rfl ⟨i + 1, g0 + 1, n + 1, F ++ [x], rfl, .inr (H3_eq (app_8 hn x)), by omega, by omega, by rw [hn, List.length_append]; rfl, by omega, hF2.symm, hok2⟩ ?_
                 show l.length - ((i : Int) + 1).toNat < l.length - (i : Int).toNat
                 omega)
        · obtain rfl : i = l.length := by omega
          rw [List.take_length] at hF
          have hck : ((c : Int) = 0 ∧ c = 0) ∨ (¬ (c : Int) = 0 ∧ 0 < c ∧ ∃ y : entT.El, W[((c : Int) - 1).toNat]? = some y ∧ W[0 + ((c : Int) - 1).toNat]? = some y) := by
            by_cases h : c = 0
            · exact .inl ⟨by omega, h⟩
            · exact .inr ⟨by omega, by omega, W[c - 1]'(by omega), by rw [show ((c : Int) - 1).toNat = c - 1 by omega]; exact List.getElem?_eq_getElem _, by rw [show 0 + ((c : Int) - 1).toNat = c - 1 by omega]; exact List.getElem?_eq_getElem _⟩
          rcases hh with ⟨rfl, hFW⟩ | rfl <;> rcases hck with ⟨hc0, hc1⟩ | ⟨hc0, hc1, y, hy, hy0⟩
          all_goals (conv => whnf)
          repeat' first
            | ((first | refine auIk ?_ | refine auIi ?_ | refine auT ?_ | refine auF ?_ | with_reducible first | refine auKt ?_ | refine auKf ?_ | refine auNt ?_ | refine auNf ?_ | refine auEt ?_ | refine auEf ?_); conv => whnf)
            | ((with_reducible first | refine br_dec (fun h => ?_) (fun h => ?_) | refine br_ndec (fun h => ?_) (fun h => ?_) | refine br_ne (fun h => ?_) (fun h => ?_) | refine br_eq (fun h => ?_) (fun h => ?_)) <;> first | (exfalso; omega) | conv => whnf)
            | (refine br_intro (fun h => ?_) (fun h => ?_) <;> conv => whnf)
            | ((first | refine auNd ?_ | refine idx_nat (by omega) (fun x hx => ?_) | refine frz_auto ?_ | refine draw_plain ?_ | refine auIx (fun x hx => ?_)); conv => whnf)
          · refine loop_inv [] [15] (fun vs h => ∃ (i g1 m : Nat) (G : List entT.El), vs = [.int .i64 (i : Int)] ∧ ((h = H4 [] [] 0 0 W g (.tosl 3 g 0 c) (.tosl 3 g 0 c) ((⟨#[]⟩, ⟨#[]⟩, false, (0 : Int), ()) : entT.El) ∧ G = W) ∨ h = H4 [] G 0 g1 W g (.own 1 g1 m) (.tosl 3 g 0 c) ((⟨#[]⟩, ⟨#[]⟩, false, (0 : Int), ()) : entT.El)) ∧ i ≤ l.length ∧ k ≤ i ∧ m = G.length ∧ m ≤ i ∧ G = ((l.take i).drop k).foldl addF W ∧ okL8 G) (fun vs _ => match vs with | [.int _ j] => l.length - j.toNat | _ => 0) ?_
            conv => whnf
            refine ⟨⟨k, 0, c, W, rfl, .inl ⟨rfl, rfl⟩, hk2, Nat.le_refl _, hc, hci, by rw [List.drop_of_length_le (by rw [List.length_take]; omega)]; rfl, hok⟩, ?_⟩
            rintro vs h' - ⟨i, g1, m, G, rfl, hh, hi, hki, hm, hmi, hG, hokG⟩
            by_cases hil : i < l.length
            · obtain ⟨x, hx⟩ : ∃ x, l[i]? = some x := ⟨_, List.getElem?_eq_getElem (by omega)⟩
              have h100 : (m : Int) ≠ 100 := by omega
              have hG2 := fold_from (f := addF) (W := W) hki hx
              rw [← hG] at hG2
              have hok2 := addF_ok (x := x) hokG
              rcases hh with ⟨rfl, hGW⟩ | rfl
              · have hmc : m = c := by rw [hm, hGW, hc]
                rw [hmc] at hm h100
                rw [hGW] at hm hG2 hok2
                rcases fadd_cases hm x with ⟨e1, e2⟩ | ⟨e0, w, d, ⟨hd, rfl, rfl⟩ | ⟨hd, rfl, rfl⟩, e1, ⟨e3, e2⟩ | ⟨e3, y', hy', e4, e2⟩ | ⟨e3, y', hy', e4, e2⟩⟩
                all_goals rw [e2] at hG2 hok2
                all_goals try have hy0' : W[0 + ((c : Int) - 1).toNat]? = some y' := by rw [Nat.zero_add]; exact hy'
                all_goals (conv => whnf)
                repeat' first
                  | ((first | refine auIk ?_ | refine auIi ?_ | refine auT ?_ | refine auF ?_ | with_reducible first | refine auKt ?_ | refine auKf ?_ | refine auNt ?_ | refine auNf ?_ | refine auEt ?_ | refine auEf ?_); conv => whnf)
                  | ((with_reducible first | refine br_dec (fun h => ?_) (fun h => ?_) | refine br_ndec (fun h => ?_) (fun h => ?_) | refine br_ne (fun h => ?_) (fun h => ?_) | refine br_eq (fun h => ?_) (fun h => ?_)) <;> first | (exfalso; omega) | conv => whnf)
                  | (refine br_intro (fun h => ?_) (fun h => ?_) <;> conv => whnf)
                  | ((first | refine auNd ?_ | refine idx_nat (by omega) (fun x hx => ?_) | refine frz_auto ?_ | refine draw_plain ?_ | refine auIx (fun x hx => ?_)); conv => whnf)
                all_goals first
                  | exact absurd (show (1 : Nat) = 0 from h) (by decide)
                  | (refine back_intro (by conv => whnf) rfl ⟨i + 1, 0, c, W, rfl, .inl ⟨rfl, rfl⟩, by omega, by omega, hm, by omega, hG2.symm, hok⟩ ?_
                     show l.length - ((i : Int) + 1).toNat < l.length - (i : Int).toNat
                     omega)
                  | (refine backP.mk [.mvc 2 1 1] ?_
                     conv => whnf
                     refine ⟨⟨rfl, rfl⟩, ?_⟩
                     conv => whnf)
                repeat' first
                  | ((first | refine auIk ?_ | refine auIi ?_ | refine auT ?_ | refine auF ?_ | with_reducible first | refine auKt ?_ | refine auKf ?_ | refine auNt ?_ | refine auNf ?_ | refine auEt ?_ | refine auEf ?_); conv => whnf)
                  | ((with_reducible first | refine br_dec (fun h => ?_) (fun h => ?_) | refine br_ndec (fun h => ?_) (fun h => ?_) | refine br_ne (fun h => ?_) (fun h => ?_) | refine br_eq (fun h => ?_) (fun h => ?_)) <;> first | (exfalso; omega) | conv => whnf)
                  | (refine br_intro (fun h => ?_) (fun h => ?_) <;> conv => whnf)
                  | ((first | refine auNd ?_ | refine idx_nat (by omega) (fun x hx => ?_) | refine frz_auto ?_ | refine draw_plain ?_ | refine auIx (fun x hx => ?_)); conv => whnf)
                all_goals refine backQ_in (by conv => whnf) rfl ⟨i + 1, 1, c + 1, _, rfl, .inr ?_, by omega, by omega, by rw [hm, List.length_append]; rfl, by omega, hG2.symm, hok2⟩ ?_
                all_goals first
                  | exact H4_mv (app_80 hm _) (len_80 hm _)
                  | (show l.length - ((i : Int) + 1).toNat < l.length - (i : Int).toNat
                     omega)
              · rcases fadd_cases hm x with ⟨e1, e2⟩ | ⟨e0, w, d, ⟨hd, rfl, rfl⟩ | ⟨hd, rfl, rfl⟩, e1, ⟨e3, e2⟩ | ⟨e3, y', hy', e4, e2⟩ | ⟨e3, y', hy', e4, e2⟩⟩
                all_goals rw [e2] at hG2 hok2
                all_goals (conv => whnf)
                repeat' first
                  | ((first | refine auIk ?_ | refine auIi ?_ | refine auT ?_ | refine auF ?_ | with_reducible first | refine auKt ?_ | refine auKf ?_ | refine auNt ?_ | refine auNf ?_ | refine auEt ?_ | refine auEf ?_); conv => whnf)
                  | ((with_reducible first | refine br_dec (fun h => ?_) (fun h => ?_) | refine br_ndec (fun h => ?_) (fun h => ?_) | refine br_ne (fun h => ?_) (fun h => ?_) | refine br_eq (fun h => ?_) (fun h => ?_)) <;> first | (exfalso; omega) | conv => whnf)
                  | (refine br_intro (fun h => ?_) (fun h => ?_) <;> conv => whnf)
                  | ((first | refine auNd ?_ | refine idx_nat (by omega) (fun x hx => ?_) | refine frz_auto ?_ | refine draw_plain ?_ | refine auIx (fun x hx => ?_)); conv => whnf)
                all_goals first
                  | (refine back_intro (by conv => whnf) rfl ⟨i + 1, g1, m, G, rfl, .inr rfl, by omega, by omega, hm, by omega, hG2.symm, hokG⟩ ?_
                     show l.length - ((i : Int) + 1).toNat < l.length - (i : Int).toNat
                     omega)
                  | (refine back_intro (by conv => whnf) rfl ⟨i + 1, g1 + 1, m + 1, _, rfl, .inr (H4_eq (app_8 hm _)), by omega, by omega, by rw [hm, List.length_append]; rfl, by omega, hG2.symm, hok2⟩ ?_
                     show l.length - ((i : Int) + 1).toNat < l.length - (i : Int).toNat
                     omega)
            · obtain rfl : i = l.length := by omega
              rw [List.take_length] at hG
              obtain ⟨Y, hY1, hY2⟩ := adds_fork (W := W) (l.drop k) []
              rw [List.append_nil, ← hF] at hY1
              rw [List.map_nil, List.append_nil, ← hG] at hY2
              have hL1 : (List.take c (List.drop 0 W)) = F := by first | (rw [hFW, List.drop_zero, hc, List.take_length]) | (rw [hn, List.take_length])
              have hlen : F.length = G.length := by rw [hY1, hY2, List.length_append, List.length_append, List.length_map]
              have q1 : ofR 3 (List.take c (List.drop 0 W)) = if F.length = 0 then (0, [], 4) else (3, F, 0) := by rw [hL1]; exact ofR_8 hokF (by omega)
              rcases hh with ⟨rfl, hGW⟩ | rfl
              · have hL2 : List.take c (List.drop 0 W) = G := by rw [hGW, List.drop_zero, hc, List.take_length]
                have q2 : ofR 3 (List.take c (List.drop 0 W)) = if G.length = 0 then (0, [], 4) else (3, G, 0) := by rw [hL2]; exact ofR_8 hokG (by omega)
                have t1 : (((List.take c (List.drop 0 W))).length : Int) = c := by first | (rw [hL1]; omega) | (rw [hL1, hFW]; omega)
                by_cases hz : F.length = 0
                · rw [if_pos hz] at q1
                  rw [if_pos (by omega)] at q2
                  have p1 : (ofR 3 (List.take c (List.drop 0 W))).2.2 = 4 := by rw [q1]
                  have p1n : (ofR 3 (List.take c (List.drop 0 W))).2.2 ≠ 0 := by rw [p1]; decide
                  have p2 : (ofR 3 (List.take c (List.drop 0 W))).2.2 = 4 := by rw [q2]
                  have p2n : (ofR 3 (List.take c (List.drop 0 W))).2.2 ≠ 0 := by rw [p2]; decide
                  have p3 : (ofR 3 (List.take c (List.drop 0 W))).2.2 = (ofR 3 (List.take c (List.drop 0 W))).2.2 := by first | rfl | rw [p1, p2]
                  have s1 : (ofR 3 (List.take c (List.drop 0 W))).2.1 = [] := by rw [q1]
                  have s2 : (ofR 3 (List.take c (List.drop 0 W))).2.1 = [] := by rw [q2]
                  have t2 : ((ofR 3 (List.take c (List.drop 0 W))).2.1.length : Int) = ((ofR 3 (List.take c (List.drop 0 W))).2.1.length : Int) := by first | rfl | rw [s1, s2]
                  conv => whnf
                  repeat' first
                    | ((first | refine auIk ?_ | refine auIi ?_ | refine auT ?_ | refine auF ?_ | with_reducible first | refine auKt ?_ | refine auKf ?_ | refine auNt ?_ | refine auNf ?_ | refine auEt ?_ | refine auEf ?_); conv => whnf)
                    | ((with_reducible first | refine br_dec (fun h => ?_) (fun h => ?_) | refine br_ndec (fun h => ?_) (fun h => ?_) | refine br_ne (fun h => ?_) (fun h => ?_) | refine br_eq (fun h => ?_) (fun h => ?_)) <;> first | (exfalso; omega) | conv => whnf)
                    | (refine br_intro (fun h => ?_) (fun h => ?_) <;> conv => whnf)
                    | ((first | refine auNd ?_ | refine idx_nat (by omega) (fun x hx => ?_) | refine draw_plain ?_ | refine auIx (fun x hx => ?_)); conv => whnf)
                  refine .mk [.frz 3 [22] [(2, 1), (4, 1)]] ?_
                  conv => whnf
                  repeat' first
                    | ((first | refine auIk ?_ | refine auIi ?_ | refine auT ?_ | refine auF ?_ | with_reducible first | refine auKt ?_ | refine auKf ?_ | refine auNt ?_ | refine auNf ?_ | refine auEt ?_ | refine auEf ?_); conv => whnf)
                    | ((with_reducible first | refine br_dec (fun h => ?_) (fun h => ?_) | refine br_ndec (fun h => ?_) (fun h => ?_) | refine br_ne (fun h => ?_) (fun h => ?_) | refine br_eq (fun h => ?_) (fun h => ?_)) <;> first | (exfalso; omega) | conv => whnf)
                    | (refine br_intro (fun h => ?_) (fun h => ?_) <;> conv => whnf)
                    | ((first | refine auNd ?_ | refine idx_nat (by omega) (fun x hx => ?_) | refine draw_plain ?_ | refine auIx (fun x hx => ?_)); conv => whnf)
                  apply loop_same8 [] [21] (fun vs => vs = [.int .i64 0]) (fun vs => 0)
                  conv => whnf
                  refine ⟨⟨rfl, rfl⟩, ?_⟩
                  rintro vs h' - ⟨rfl, rfl⟩
                  have t3 : ¬ (0 : Int) < ((ofR 3 (List.take c (List.drop 0 W))).2.1.length : Int) := by rw [s1]; decide
                  conv => whnf
                  repeat' first
                    | ((first | refine auIk ?_ | refine auIi ?_ | refine auT ?_ | refine auF ?_ | with_reducible first | refine auKt ?_ | refine auKf ?_ | refine auNt ?_ | refine auNf ?_ | refine auEt ?_ | refine auEf ?_); conv => whnf)
                    | ((with_reducible first | refine br_dec (fun h => ?_) (fun h => ?_) | refine br_ndec (fun h => ?_) (fun h => ?_) | refine br_ne (fun h => ?_) (fun h => ?_) | refine br_eq (fun h => ?_) (fun h => ?_)) <;> first | (exfalso; omega) | conv => whnf)
                    | (refine br_intro (fun h => ?_) (fun h => ?_) <;> conv => whnf)
                    | ((first | refine auNd ?_ | refine idx_nat (by omega) (fun x hx => ?_) | refine frz_auto ?_ | refine draw_plain ?_ | refine auIx (fun x hx => ?_)); conv => whnf)
                  all_goals trace_state
                  all_goals sorry
                · rw [if_neg hz] at q1
                  rw [if_neg (by omega)] at q2
                  have p1 : (ofR 3 (List.take c (List.drop 0 W))).2.2 = 0 := by rw [q1]
                  have p2 : (ofR 3 (List.take c (List.drop 0 W))).2.2 = 0 := by rw [q2]
                  have p3 : (ofR 3 (List.take c (List.drop 0 W))).2.2 = (ofR 3 (List.take c (List.drop 0 W))).2.2 := by first | rfl | rw [p1, p2]
                  have s1 : (ofR 3 (List.take c (List.drop 0 W))).2.1 = F := by rw [q1]
                  have s2 : (ofR 3 (List.take c (List.drop 0 W))).2.1 = G := by rw [q2]
                  have t2 : ((ofR 3 (List.take c (List.drop 0 W))).2.1.length : Int) = ((ofR 3 (List.take c (List.drop 0 W))).2.1.length : Int) := by first | rfl | (rw [s1, s2]; omega)
                  have t3 : ((ofR 3 (List.take c (List.drop 0 W))).2.1.length : Int) = (F.length : Int) := by rw [s1]
                  conv => whnf
                  repeat' first
                    | ((first | refine auIk ?_ | refine auIi ?_ | refine auT ?_ | refine auF ?_ | with_reducible first | refine auKt ?_ | refine auKf ?_ | refine auNt ?_ | refine auNf ?_ | refine auEt ?_ | refine auEf ?_); conv => whnf)
                    | ((with_reducible first | refine br_dec (fun h => ?_) (fun h => ?_) | refine br_ndec (fun h => ?_) (fun h => ?_) | refine br_ne (fun h => ?_) (fun h => ?_) | refine br_eq (fun h => ?_) (fun h => ?_)) <;> first | (exfalso; omega) | conv => whnf)
                    | (refine br_intro (fun h => ?_) (fun h => ?_) <;> conv => whnf)
                    | ((first | refine auNd ?_ | refine idx_nat (by omega) (fun x hx => ?_) | refine draw_plain ?_ | refine auIx (fun x hx => ?_)); conv => whnf)
                  refine .mk [.frz 3 [22] [(2, 1), (4, 1)]] ?_
                  conv => whnf
                  repeat' first
                    | ((first | refine auIk ?_ | refine auIi ?_ | refine auT ?_ | refine auF ?_ | with_reducible first | refine auKt ?_ | refine auKf ?_ | refine auNt ?_ | refine auNf ?_ | refine auEt ?_ | refine auEf ?_); conv => whnf)
                    | ((with_reducible first | refine br_dec (fun h => ?_) (fun h => ?_) | refine br_ndec (fun h => ?_) (fun h => ?_) | refine br_ne (fun h => ?_) (fun h => ?_) | refine br_eq (fun h => ?_) (fun h => ?_)) <;> first | (exfalso; omega) | conv => whnf)
                    | (refine br_intro (fun h => ?_) (fun h => ?_) <;> conv => whnf)
                    | ((first | refine auNd ?_ | refine idx_nat (by omega) (fun x hx => ?_) | refine draw_plain ?_ | refine auIx (fun x hx => ?_)); conv => whnf)
                  apply loop_same8 [] [21] (fun vs => ∃ i : Nat, vs = [.int .i64 (i : Int)] ∧ i ≤ F.length) (fun vs => match vs with | [.int _ k] => F.length - k.toNat | _ => 0)
                  conv => whnf
                  refine ⟨⟨⟨0, rfl, by omega⟩, rfl⟩, ?_⟩
                  rintro vs h' - ⟨⟨i, rfl, hi5⟩, rfl⟩
                  by_cases hil5 : i < F.length
                  · obtain ⟨x, hx⟩ : ∃ x, F[i]? = some x := ⟨_, List.getElem?_eq_getElem hil5⟩
                    obtain ⟨x', hx'⟩ : ∃ x, G[i]? = some x := ⟨_, List.getElem?_eq_getElem (by omega)⟩
                    have x1 : (ofR 3 (List.take c (List.drop 0 W))).2.1[i]? = some x := by rw [s1]; exact hx
                    have x2 : (ofR 3 (List.take c (List.drop 0 W))).2.1[i]? = some x' := by rw [s2]; exact hx'
                    obtain ⟨x3, x4⟩ := fork_at hY1 hY2 hc hx hx'
                    obtain rfl : x' = x := Option.some.inj (x2.symm.trans x1)
                    conv => whnf
                    repeat' first
                      | ((first | refine auIk ?_ | refine auIi ?_ | refine auT ?_ | refine auF ?_ | with_reducible first | refine auKt ?_ | refine auKf ?_ | refine auNt ?_ | refine auNf ?_ | refine auEt ?_ | refine auEf ?_); conv => whnf)
                      | ((with_reducible first | refine br_dec (fun h => ?_) (fun h => ?_) | refine br_ndec (fun h => ?_) (fun h => ?_) | refine br_ne (fun h => ?_) (fun h => ?_) | refine br_eq (fun h => ?_) (fun h => ?_)) <;> first | (exfalso; omega) | conv => whnf)
                      | (refine br_intro (fun h => ?_) (fun h => ?_) <;> conv => whnf)
                      | ((first | refine auNd ?_ | refine idx_nat (by omega) (fun x hx => ?_) | refine frz_auto ?_ | refine draw_plain ?_ | refine auIx (fun x hx => ?_)); conv => whnf)
                    refine back_intro (by conv => whnf) rfl ⟨⟨i + 1, rfl, by omega⟩, rfl⟩ ?_
                    show F.length - ((i : Int) + 1).toNat < F.length - (i : Int).toNat
                    omega
                  · have x5 := eqE_refl ((⟨#[]⟩, ⟨#[]⟩, false, (0 : Int), ()) : entT.El)
                    conv => whnf
                    repeat' first
                      | ((first | refine auIk ?_ | refine auIi ?_ | refine auT ?_ | refine auF ?_ | with_reducible first | refine auKt ?_ | refine auKf ?_ | refine auNt ?_ | refine auNf ?_ | refine auEt ?_ | refine auEf ?_); conv => whnf)
                      | ((with_reducible first | refine br_dec (fun h => ?_) (fun h => ?_) | refine br_ndec (fun h => ?_) (fun h => ?_) | refine br_ne (fun h => ?_) (fun h => ?_) | refine br_eq (fun h => ?_) (fun h => ?_)) <;> first | (exfalso; omega) | conv => whnf)
                      | (refine br_intro (fun h => ?_) (fun h => ?_) <;> conv => whnf)
                      | ((first | refine auNd ?_ | refine idx_nat (by omega) (fun x hx => ?_) | refine frz_auto ?_ | refine draw_plain ?_ | refine auIx (fun x hx => ?_)); conv => whnf)
              · have hL2 : List.take m G = G := by rw [hm, List.take_length]
                have q2 : ofR 3 (List.take m G) = if G.length = 0 then (0, [], 4) else (3, G, 0) := by rw [hL2]; exact ofR_8 hokG (by omega)
                have t1 : (((List.take c (List.drop 0 W))).length : Int) = c := by first | (rw [hL1]; omega) | (rw [hL1, hFW]; omega)
                by_cases hz : F.length = 0
                · rw [if_pos hz] at q1
                  rw [if_pos (by omega)] at q2
                  have p1 : (ofR 3 (List.take c (List.drop 0 W))).2.2 = 4 := by rw [q1]
                  have p1n : (ofR 3 (List.take c (List.drop 0 W))).2.2 ≠ 0 := by rw [p1]; decide
                  have p2 : (ofR 3 (List.take m G)).2.2 = 4 := by rw [q2]
                  have p2n : (ofR 3 (List.take m G)).2.2 ≠ 0 := by rw [p2]; decide
                  have p3 : (ofR 3 (List.take c (List.drop 0 W))).2.2 = (ofR 3 (List.take m G)).2.2 := by first | rfl | rw [p1, p2]
                  have s1 : (ofR 3 (List.take c (List.drop 0 W))).2.1 = [] := by rw [q1]
                  have s2 : (ofR 3 (List.take m G)).2.1 = [] := by rw [q2]
                  have t2 : ((ofR 3 (List.take c (List.drop 0 W))).2.1.length : Int) = ((ofR 3 (List.take m G)).2.1.length : Int) := by first | rfl | rw [s1, s2]
                  conv => whnf
                  repeat' first
                    | ((first | refine auIk ?_ | refine auIi ?_ | refine auT ?_ | refine auF ?_ | with_reducible first | refine auKt ?_ | refine auKf ?_ | refine auNt ?_ | refine auNf ?_ | refine auEt ?_ | refine auEf ?_); conv => whnf)
                    | ((with_reducible first | refine br_dec (fun h => ?_) (fun h => ?_) | refine br_ndec (fun h => ?_) (fun h => ?_) | refine br_ne (fun h => ?_) (fun h => ?_) | refine br_eq (fun h => ?_) (fun h => ?_)) <;> first | (exfalso; omega) | conv => whnf)
                    | (refine br_intro (fun h => ?_) (fun h => ?_) <;> conv => whnf)
                    | ((first | refine auNd ?_ | refine idx_nat (by omega) (fun x hx => ?_) | refine draw_plain ?_ | refine auIx (fun x hx => ?_)); conv => whnf)
                  refine .mk [.frz 3 [22] [(4, 1)]] ?_
                  conv => whnf
                  repeat' first
                    | ((first | refine auIk ?_ | refine auIi ?_ | refine auT ?_ | refine auF ?_ | with_reducible first | refine auKt ?_ | refine auKf ?_ | refine auNt ?_ | refine auNf ?_ | refine auEt ?_ | refine auEf ?_); conv => whnf)
                    | ((with_reducible first | refine br_dec (fun h => ?_) (fun h => ?_) | refine br_ndec (fun h => ?_) (fun h => ?_) | refine br_ne (fun h => ?_) (fun h => ?_) | refine br_eq (fun h => ?_) (fun h => ?_)) <;> first | (exfalso; omega) | conv => whnf)
                    | (refine br_intro (fun h => ?_) (fun h => ?_) <;> conv => whnf)
                    | ((first | refine auNd ?_ | refine idx_nat (by omega) (fun x hx => ?_) | refine draw_plain ?_ | refine auIx (fun x hx => ?_)); conv => whnf)
                  refine .mk [.frz 1 [22] [(2, 1)]] ?_
                  conv => whnf
                  repeat' first
                    | ((first | refine auIk ?_ | refine auIi ?_ | refine auT ?_ | refine auF ?_ | with_reducible first | refine auKt ?_ | refine auKf ?_ | refine auNt ?_ | refine auNf ?_ | refine auEt ?_ | refine auEf ?_); conv => whnf)
                    | ((with_reducible first | refine br_dec (fun h => ?_) (fun h => ?_) | refine br_ndec (fun h => ?_) (fun h => ?_) | refine br_ne (fun h => ?_) (fun h => ?_) | refine br_eq (fun h => ?_) (fun h => ?_)) <;> first | (exfalso; omega) | conv => whnf)
                    | (refine br_intro (fun h => ?_) (fun h => ?_) <;> conv => whnf)
                    | ((first | refine auNd ?_ | refine idx_nat (by omega) (fun x hx => ?_) | refine frz_auto ?_ | refine draw_plain ?_ | refine auIx (fun x hx => ?_)); conv => whnf)
                  apply loop_same8 [] [21] (fun vs => vs = [.int .i64 0]) (fun vs => 0)
                  conv => whnf
                  refine ⟨⟨rfl, rfl⟩, ?_⟩
                  rintro vs h' - ⟨rfl, rfl⟩
                  have t3 : ¬ (0 : Int) < ((ofR 3 (List.take c (List.drop 0 W))).2.1.length : Int) := by rw [s1]; decide
                  conv => whnf
                  repeat' first
                    | ((first | refine auIk ?_ | refine auIi ?_ | refine auT ?_ | refine auF ?_ | with_reducible first | refine auKt ?_ | refine auKf ?_ | refine auNt ?_ | refine auNf ?_ | refine auEt ?_ | refine auEf ?_); conv => whnf)
                    | ((with_reducible first | refine br_dec (fun h => ?_) (fun h => ?_) | refine br_ndec (fun h => ?_) (fun h => ?_) | refine br_ne (fun h => ?_) (fun h => ?_) | refine br_eq (fun h => ?_) (fun h => ?_)) <;> first | (exfalso; omega) | conv => whnf)
                    | (refine br_intro (fun h => ?_) (fun h => ?_) <;> conv => whnf)
                    | ((first | refine auNd ?_ | refine idx_nat (by omega) (fun x hx => ?_) | refine frz_auto ?_ | refine draw_plain ?_ | refine auIx (fun x hx => ?_)); conv => whnf)
                  all_goals trace_state
                  all_goals sorry
                · rw [if_neg hz] at q1
                  rw [if_neg (by omega)] at q2
                  have p1 : (ofR 3 (List.take c (List.drop 0 W))).2.2 = 0 := by rw [q1]
                  have p2 : (ofR 3 (List.take m G)).2.2 = 0 := by rw [q2]
                  have p3 : (ofR 3 (List.take c (List.drop 0 W))).2.2 = (ofR 3 (List.take m G)).2.2 := by first | rfl | rw [p1, p2]
                  have s1 : (ofR 3 (List.take c (List.drop 0 W))).2.1 = F := by rw [q1]
                  have s2 : (ofR 3 (List.take m G)).2.1 = G := by rw [q2]
                  have t2 : ((ofR 3 (List.take c (List.drop 0 W))).2.1.length : Int) = ((ofR 3 (List.take m G)).2.1.length : Int) := by first | rfl | (rw [s1, s2]; omega)
                  have t3 : ((ofR 3 (List.take c (List.drop 0 W))).2.1.length : Int) = (F.length : Int) := by rw [s1]
                  conv => whnf
                  repeat' first
                    | ((first | refine auIk ?_ | refine auIi ?_ | refine auT ?_ | refine auF ?_ | with_reducible first | refine auKt ?_ | refine auKf ?_ | refine auNt ?_ | refine auNf ?_ | refine auEt ?_ | refine auEf ?_); conv => whnf)
                    | ((with_reducible first | refine br_dec (fun h => ?_) (fun h => ?_) | refine br_ndec (fun h => ?_) (fun h => ?_) | refine br_ne (fun h => ?_) (fun h => ?_) | refine br_eq (fun h => ?_) (fun h => ?_)) <;> first | (exfalso; omega) | conv => whnf)
                    | (refine br_intro (fun h => ?_) (fun h => ?_) <;> conv => whnf)
                    | ((first | refine auNd ?_ | refine idx_nat (by omega) (fun x hx => ?_) | refine draw_plain ?_ | refine auIx (fun x hx => ?_)); conv => whnf)
                  refine .mk [.frz 3 [22] [(4, 1)]] ?_
                  conv => whnf
                  repeat' first
                    | ((first | refine auIk ?_ | refine auIi ?_ | refine auT ?_ | refine auF ?_ | with_reducible first | refine auKt ?_ | refine auKf ?_ | refine auNt ?_ | refine auNf ?_ | refine auEt ?_ | refine auEf ?_); conv => whnf)
                    | ((with_reducible first | refine br_dec (fun h => ?_) (fun h => ?_) | refine br_ndec (fun h => ?_) (fun h => ?_) | refine br_ne (fun h => ?_) (fun h => ?_) | refine br_eq (fun h => ?_) (fun h => ?_)) <;> first | (exfalso; omega) | conv => whnf)
                    | (refine br_intro (fun h => ?_) (fun h => ?_) <;> conv => whnf)
                    | ((first | refine auNd ?_ | refine idx_nat (by omega) (fun x hx => ?_) | refine draw_plain ?_ | refine auIx (fun x hx => ?_)); conv => whnf)
                  refine .mk [.frz 1 [22] [(2, 1)]] ?_
                  conv => whnf
                  repeat' first
                    | ((first | refine auIk ?_ | refine auIi ?_ | refine auT ?_ | refine auF ?_ | with_reducible first | refine auKt ?_ | refine auKf ?_ | refine auNt ?_ | refine auNf ?_ | refine auEt ?_ | refine auEf ?_); conv => whnf)
                    | ((with_reducible first | refine br_dec (fun h => ?_) (fun h => ?_) | refine br_ndec (fun h => ?_) (fun h => ?_) | refine br_ne (fun h => ?_) (fun h => ?_) | refine br_eq (fun h => ?_) (fun h => ?_)) <;> first | (exfalso; omega) | conv => whnf)
                    | (refine br_intro (fun h => ?_) (fun h => ?_) <;> conv => whnf)
                    | ((first | refine auNd ?_ | refine idx_nat (by omega) (fun x hx => ?_) | refine frz_auto ?_ | refine draw_plain ?_ | refine auIx (fun x hx => ?_)); conv => whnf)
                  apply loop_same8 [] [21] (fun vs => ∃ i : Nat, vs = [.int .i64 (i : Int)] ∧ i ≤ F.length) (fun vs => match vs with | [.int _ k] => F.length - k.toNat | _ => 0)
                  conv => whnf
                  refine ⟨⟨⟨0, rfl, by omega⟩, rfl⟩, ?_⟩
                  rintro vs h' - ⟨⟨i, rfl, hi5⟩, rfl⟩
                  by_cases hil5 : i < F.length
                  · obtain ⟨x, hx⟩ : ∃ x, F[i]? = some x := ⟨_, List.getElem?_eq_getElem hil5⟩
                    obtain ⟨x', hx'⟩ : ∃ x, G[i]? = some x := ⟨_, List.getElem?_eq_getElem (by omega)⟩
                    have x1 : (ofR 3 (List.take c (List.drop 0 W))).2.1[i]? = some x := by rw [s1]; exact hx
                    have x2 : (ofR 3 (List.take m G)).2.1[i]? = some x' := by rw [s2]; exact hx'
                    obtain ⟨x3, x4⟩ := fork_at hY1 hY2 hc hx hx'
                    conv => whnf
                    repeat' first
                      | ((first | refine auIk ?_ | refine auIi ?_ | refine auT ?_ | refine auF ?_ | with_reducible first | refine auKt ?_ | refine auKf ?_ | refine auNt ?_ | refine auNf ?_ | refine auEt ?_ | refine auEf ?_); conv => whnf)
                      | ((with_reducible first | refine br_dec (fun h => ?_) (fun h => ?_) | refine br_ndec (fun h => ?_) (fun h => ?_) | refine br_ne (fun h => ?_) (fun h => ?_) | refine br_eq (fun h => ?_) (fun h => ?_)) <;> first | (exfalso; omega) | conv => whnf)
                      | (refine br_intro (fun h => ?_) (fun h => ?_) <;> conv => whnf)
                      | ((first | refine auNd ?_ | refine idx_nat (by omega) (fun x hx => ?_) | refine frz_auto ?_ | refine draw_plain ?_ | refine auIx (fun x hx => ?_)); conv => whnf)
                    refine back_intro (by conv => whnf) rfl ⟨⟨i + 1, rfl, by omega⟩, rfl⟩ ?_
                    show F.length - ((i : Int) + 1).toNat < F.length - (i : Int).toNat
                    omega
                  · have x5 := eqE_refl ((⟨#[]⟩, ⟨#[]⟩, false, (0 : Int), ()) : entT.El)
                    conv => whnf
                    repeat' first
                      | ((first | refine auIk ?_ | refine auIi ?_ | refine auT ?_ | refine auF ?_ | with_reducible first | refine auKt ?_ | refine auKf ?_ | refine auNt ?_ | refine auNf ?_ | refine auEt ?_ | refine auEf ?_); conv => whnf)
                      | ((with_reducible first | refine br_dec (fun h => ?_) (fun h => ?_) | refine br_ndec (fun h => ?_) (fun h => ?_) | refine br_ne (fun h => ?_) (fun h => ?_) | refine br_eq (fun h => ?_) (fun h => ?_)) <;> first | (exfalso; omega) | conv => whnf)
                      | (refine br_intro (fun h => ?_) (fun h => ?_) <;> conv => whnf)
                      | ((first | refine auNd ?_ | refine idx_nat (by omega) (fun x hx => ?_) | refine frz_auto ?_ | refine draw_plain ?_ | refine auIx (fun x hx => ?_)); conv => whnf)
          · refine loop_inv [] [15] (fun vs h => ∃ (i g1 m : Nat) (G : List entT.El), vs = [.int .i64 (i : Int)] ∧ ((h = H4 [] [] 0 0 W g (.tosl 3 g 0 c) (.tosl 3 g 0 c) y ∧ G = W) ∨ h = H4 [] G 0 g1 W g (.own 1 g1 m) (.tosl 3 g 0 c) y) ∧ i ≤ l.length ∧ k ≤ i ∧ m = G.length ∧ m ≤ i ∧ G = ((l.take i).drop k).foldl addF W ∧ okL8 G) (fun vs _ => match vs with | [.int _ j] => l.length - j.toNat | _ => 0) ?_
            conv => whnf
            refine ⟨⟨k, 0, c, W, rfl, .inl ⟨rfl, rfl⟩, hk2, Nat.le_refl _, hc, hci, by rw [List.drop_of_length_le (by rw [List.length_take]; omega)]; rfl, hok⟩, ?_⟩
            rintro vs h' - ⟨i, g1, m, G, rfl, hh, hi, hki, hm, hmi, hG, hokG⟩
            by_cases hil : i < l.length
            · obtain ⟨x, hx⟩ : ∃ x, l[i]? = some x := ⟨_, List.getElem?_eq_getElem (by omega)⟩
              have h100 : (m : Int) ≠ 100 := by omega
              have hG2 := fold_from (f := addF) (W := W) hki hx
              rw [← hG] at hG2
              have hok2 := addF_ok (x := x) hokG
              rcases hh with ⟨rfl, hGW⟩ | rfl
              · have hmc : m = c := by rw [hm, hGW, hc]
                rw [hmc] at hm h100
                rw [hGW] at hm hG2 hok2
                rcases fadd_cases hm x with ⟨e1, e2⟩ | ⟨e0, w, d, ⟨hd, rfl, rfl⟩ | ⟨hd, rfl, rfl⟩, e1, ⟨e3, e2⟩ | ⟨e3, y', hy', e4, e2⟩ | ⟨e3, y', hy', e4, e2⟩⟩
                all_goals rw [e2] at hG2 hok2
                all_goals try have hy0' : W[0 + ((c : Int) - 1).toNat]? = some y' := by rw [Nat.zero_add]; exact hy'
                all_goals (conv => whnf)
                repeat' first
                  | ((first | refine auIk ?_ | refine auIi ?_ | refine auT ?_ | refine auF ?_ | with_reducible first | refine auKt ?_ | refine auKf ?_ | refine auNt ?_ | refine auNf ?_ | refine auEt ?_ | refine auEf ?_); conv => whnf)
                  | ((with_reducible first | refine br_dec (fun h => ?_) (fun h => ?_) | refine br_ndec (fun h => ?_) (fun h => ?_) | refine br_ne (fun h => ?_) (fun h => ?_) | refine br_eq (fun h => ?_) (fun h => ?_)) <;> first | (exfalso; omega) | conv => whnf)
                  | (refine br_intro (fun h => ?_) (fun h => ?_) <;> conv => whnf)
                  | ((first | refine auNd ?_ | refine idx_nat (by omega) (fun x hx => ?_) | refine frz_auto ?_ | refine draw_plain ?_ | refine auIx (fun x hx => ?_)); conv => whnf)
                all_goals first
                  | exact absurd (show (1 : Nat) = 0 from h) (by decide)
                  | (refine back_intro (by conv => whnf) rfl ⟨i + 1, 0, c, W, rfl, .inl ⟨rfl, rfl⟩, by omega, by omega, hm, by omega, hG2.symm, hok⟩ ?_
                     show l.length - ((i : Int) + 1).toNat < l.length - (i : Int).toNat
                     omega)
                  | (refine backP.mk [.mvc 2 1 1] ?_
                     conv => whnf
                     refine ⟨⟨rfl, rfl⟩, ?_⟩
                     conv => whnf)
                repeat' first
                  | ((first | refine auIk ?_ | refine auIi ?_ | refine auT ?_ | refine auF ?_ | with_reducible first | refine auKt ?_ | refine auKf ?_ | refine auNt ?_ | refine auNf ?_ | refine auEt ?_ | refine auEf ?_); conv => whnf)
                  | ((with_reducible first | refine br_dec (fun h => ?_) (fun h => ?_) | refine br_ndec (fun h => ?_) (fun h => ?_) | refine br_ne (fun h => ?_) (fun h => ?_) | refine br_eq (fun h => ?_) (fun h => ?_)) <;> first | (exfalso; omega) | conv => whnf)
                  | (refine br_intro (fun h => ?_) (fun h => ?_) <;> conv => whnf)
                  | ((first | refine auNd ?_ | refine idx_nat (by omega) (fun x hx => ?_) | refine frz_auto ?_ | refine draw_plain ?_ | refine auIx (fun x hx => ?_)); conv => whnf)
                all_goals refine backQ_in (by conv => whnf) rfl ⟨i + 1, 1, c + 1, _, rfl, .inr ?_, by omega, by omega, by rw [hm, List.length_append]; rfl, by omega, hG2.symm, hok2⟩ ?_
                all_goals first
                  | exact H4_mv (app_80 hm _) (len_80 hm _)
                  | (show l.length - ((i : Int) + 1).toNat < l.length - (i : Int).toNat
                     omega)
              · rcases fadd_cases hm x with ⟨e1, e2⟩ | ⟨e0, w, d, ⟨hd, rfl, rfl⟩ | ⟨hd, rfl, rfl⟩, e1, ⟨e3, e2⟩ | ⟨e3, y', hy', e4, e2⟩ | ⟨e3, y', hy', e4, e2⟩⟩
                all_goals rw [e2] at hG2 hok2
                all_goals (conv => whnf)
                repeat' first
                  | ((first | refine auIk ?_ | refine auIi ?_ | refine auT ?_ | refine auF ?_ | with_reducible first | refine auKt ?_ | refine auKf ?_ | refine auNt ?_ | refine auNf ?_ | refine auEt ?_ | refine auEf ?_); conv => whnf)
                  | ((with_reducible first | refine br_dec (fun h => ?_) (fun h => ?_) | refine br_ndec (fun h => ?_) (fun h => ?_) | refine br_ne (fun h => ?_) (fun h => ?_) | refine br_eq (fun h => ?_) (fun h => ?_)) <;> first | (exfalso; omega) | conv => whnf)
                  | (refine br_intro (fun h => ?_) (fun h => ?_) <;> conv => whnf)
                  | ((first | refine auNd ?_ | refine idx_nat (by omega) (fun x hx => ?_) | refine frz_auto ?_ | refine draw_plain ?_ | refine auIx (fun x hx => ?_)); conv => whnf)
                all_goals first
                  | (refine back_intro (by conv => whnf) rfl ⟨i + 1, g1, m, G, rfl, .inr rfl, by omega, by omega, hm, by omega, hG2.symm, hokG⟩ ?_
                     show l.length - ((i : Int) + 1).toNat < l.length - (i : Int).toNat
                     omega)
                  | (refine back_intro (by conv => whnf) rfl ⟨i + 1, g1 + 1, m + 1, _, rfl, .inr (H4_eq (app_8 hm _)), by omega, by omega, by rw [hm, List.length_append]; rfl, by omega, hG2.symm, hok2⟩ ?_
                     show l.length - ((i : Int) + 1).toNat < l.length - (i : Int).toNat
                     omega)
            · obtain rfl : i = l.length := by omega
              rw [List.take_length] at hG
              obtain ⟨Y, hY1, hY2⟩ := adds_fork (W := W) (l.drop k) []
              rw [List.append_nil, ← hF] at hY1
              rw [List.map_nil, List.append_nil, ← hG] at hY2
              have hL1 : (List.take c (List.drop 0 W)) = F := by first | (rw [hFW, List.drop_zero, hc, List.take_length]) | (rw [hn, List.take_length])
              have hlen : F.length = G.length := by rw [hY1, hY2, List.length_append, List.length_append, List.length_map]
              have q1 : ofR 3 (List.take c (List.drop 0 W)) = if F.length = 0 then (0, [], 4) else (3, F, 0) := by rw [hL1]; exact ofR_8 hokF (by omega)
              rcases hh with ⟨rfl, hGW⟩ | rfl
              · have hL2 : List.take c (List.drop 0 W) = G := by rw [hGW, List.drop_zero, hc, List.take_length]
                have q2 : ofR 3 (List.take c (List.drop 0 W)) = if G.length = 0 then (0, [], 4) else (3, G, 0) := by rw [hL2]; exact ofR_8 hokG (by omega)
                have t1 : (((List.take c (List.drop 0 W))).length : Int) = c := by first | (rw [hL1]; omega) | (rw [hL1, hFW]; omega)
                by_cases hz : F.length = 0
                · exfalso
                  have := congrArg List.length hY1
                  rw [List.length_append] at this
                  omega
                · rw [if_neg hz] at q1
                  rw [if_neg (by omega)] at q2
                  have p1 : (ofR 3 (List.take c (List.drop 0 W))).2.2 = 0 := by rw [q1]
                  have p2 : (ofR 3 (List.take c (List.drop 0 W))).2.2 = 0 := by rw [q2]
                  have p3 : (ofR 3 (List.take c (List.drop 0 W))).2.2 = (ofR 3 (List.take c (List.drop 0 W))).2.2 := by first | rfl | rw [p1, p2]
                  have s1 : (ofR 3 (List.take c (List.drop 0 W))).2.1 = F := by rw [q1]
                  have s2 : (ofR 3 (List.take c (List.drop 0 W))).2.1 = G := by rw [q2]
                  have t2 : ((ofR 3 (List.take c (List.drop 0 W))).2.1.length : Int) = ((ofR 3 (List.take c (List.drop 0 W))).2.1.length : Int) := by first | rfl | (rw [s1, s2]; omega)
                  have t3 : ((ofR 3 (List.take c (List.drop 0 W))).2.1.length : Int) = (F.length : Int) := by rw [s1]
                  conv => whnf
                  repeat' first
                    | ((first | refine auIk ?_ | refine auIi ?_ | refine auT ?_ | refine auF ?_ | with_reducible first | refine auKt ?_ | refine auKf ?_ | refine auNt ?_ | refine auNf ?_ | refine auEt ?_ | refine auEf ?_); conv => whnf)
                    | ((with_reducible first | refine br_dec (fun h => ?_) (fun h => ?_) | refine br_ndec (fun h => ?_) (fun h => ?_) | refine br_ne (fun h => ?_) (fun h => ?_) | refine br_eq (fun h => ?_) (fun h => ?_)) <;> first | (exfalso; omega) | conv => whnf)
                    | (refine br_intro (fun h => ?_) (fun h => ?_) <;> conv => whnf)
                    | ((first | refine auNd ?_ | refine idx_nat (by omega) (fun x hx => ?_) | refine draw_plain ?_ | refine auIx (fun x hx => ?_)); conv => whnf)
                  refine .mk [.frz 3 [22] [(2, 1), (4, 1)]] ?_
                  conv => whnf
                  repeat' first
                    | ((first | refine auIk ?_ | refine auIi ?_ | refine auT ?_ | refine auF ?_ | with_reducible first | refine auKt ?_ | refine auKf ?_ | refine auNt ?_ | refine auNf ?_ | refine auEt ?_ | refine auEf ?_); conv => whnf)
                    | ((with_reducible first | refine br_dec (fun h => ?_) (fun h => ?_) | refine br_ndec (fun h => ?_) (fun h => ?_) | refine br_ne (fun h => ?_) (fun h => ?_) | refine br_eq (fun h => ?_) (fun h => ?_)) <;> first | (exfalso; omega) | conv => whnf)
                    | (refine br_intro (fun h => ?_) (fun h => ?_) <;> conv => whnf)
                    | ((first | refine auNd ?_ | refine idx_nat (by omega) (fun x hx => ?_) | refine draw_plain ?_ | refine auIx (fun x hx => ?_)); conv => whnf)
                  apply loop_same8 [] [21] (fun vs => ∃ i : Nat, vs = [.int .i64 (i : Int)] ∧ i ≤ F.length) (fun vs => match vs with | [.int _ k] => F.length - k.toNat | _ => 0)
                  conv => whnf
                  refine ⟨⟨⟨0, rfl, by omega⟩, rfl⟩, ?_⟩
                  rintro vs h' - ⟨⟨i, rfl, hi5⟩, rfl⟩
                  by_cases hil5 : i < F.length
                  · obtain ⟨x, hx⟩ : ∃ x, F[i]? = some x := ⟨_, List.getElem?_eq_getElem hil5⟩
                    obtain ⟨x', hx'⟩ : ∃ x, G[i]? = some x := ⟨_, List.getElem?_eq_getElem (by omega)⟩
                    have x1 : (ofR 3 (List.take c (List.drop 0 W))).2.1[i]? = some x := by rw [s1]; exact hx
                    have x2 : (ofR 3 (List.take c (List.drop 0 W))).2.1[i]? = some x' := by rw [s2]; exact hx'
                    obtain ⟨x3, x4⟩ := fork_at hY1 hY2 hc hx hx'
                    obtain rfl : x' = x := Option.some.inj (x2.symm.trans x1)
                    conv => whnf
                    repeat' first
                      | ((first | refine auIk ?_ | refine auIi ?_ | refine auT ?_ | refine auF ?_ | with_reducible first | refine auKt ?_ | refine auKf ?_ | refine auNt ?_ | refine auNf ?_ | refine auEt ?_ | refine auEf ?_); conv => whnf)
                      | ((with_reducible first | refine br_dec (fun h => ?_) (fun h => ?_) | refine br_ndec (fun h => ?_) (fun h => ?_) | refine br_ne (fun h => ?_) (fun h => ?_) | refine br_eq (fun h => ?_) (fun h => ?_)) <;> first | (exfalso; omega) | conv => whnf)
                      | (refine br_intro (fun h => ?_) (fun h => ?_) <;> conv => whnf)
                      | ((first | refine auNd ?_ | refine idx_nat (by omega) (fun x hx => ?_) | refine frz_auto ?_ | refine draw_plain ?_ | refine auIx (fun x hx => ?_)); conv => whnf)
                    refine back_intro (by conv => whnf) rfl ⟨⟨i + 1, rfl, by omega⟩, rfl⟩ ?_
                    show F.length - ((i : Int) + 1).toNat < F.length - (i : Int).toNat
                    omega
                  · have x5 := eqE_refl y
                    have x6 : (ofR 3 (List.take c (List.drop 0 W))).2.1[((c : Int) - 1).toNat]? = some y := by rw [s1]; exact fork_last hY1 hc hc1 hy
                    have x7 : (0 : Int) < (c : Int) := by omega
                    conv => whnf
                    repeat' first
                      | ((first | refine auIk ?_ | refine auIi ?_ | refine auT ?_ | refine auF ?_ | with_reducible first | refine auKt ?_ | refine auKf ?_ | refine auNt ?_ | refine auNf ?_ | refine auEt ?_ | refine auEf ?_); conv => whnf)
                      | ((with_reducible first | refine br_dec (fun h => ?_) (fun h => ?_) | refine br_ndec (fun h => ?_) (fun h => ?_) | refine br_ne (fun h => ?_) (fun h => ?_) | refine br_eq (fun h => ?_) (fun h => ?_)) <;> first | (exfalso; omega) | conv => whnf)
                      | (refine br_intro (fun h => ?_) (fun h => ?_) <;> conv => whnf)
                      | ((first | refine auNd ?_ | refine idx_nat (by omega) (fun x hx => ?_) | refine frz_auto ?_ | refine draw_plain ?_ | refine auIx (fun x hx => ?_)); conv => whnf)
              · have hL2 : List.take m G = G := by rw [hm, List.take_length]
                have q2 : ofR 3 (List.take m G) = if G.length = 0 then (0, [], 4) else (3, G, 0) := by rw [hL2]; exact ofR_8 hokG (by omega)
                have t1 : (((List.take c (List.drop 0 W))).length : Int) = c := by first | (rw [hL1]; omega) | (rw [hL1, hFW]; omega)
                by_cases hz : F.length = 0
                · exfalso
                  have := congrArg List.length hY1
                  rw [List.length_append] at this
                  omega
                · rw [if_neg hz] at q1
                  rw [if_neg (by omega)] at q2
                  have p1 : (ofR 3 (List.take c (List.drop 0 W))).2.2 = 0 := by rw [q1]
                  have p2 : (ofR 3 (List.take m G)).2.2 = 0 := by rw [q2]
                  have p3 : (ofR 3 (List.take c (List.drop 0 W))).2.2 = (ofR 3 (List.take m G)).2.2 := by first | rfl | rw [p1, p2]
                  have s1 : (ofR 3 (List.take c (List.drop 0 W))).2.1 = F := by rw [q1]
                  have s2 : (ofR 3 (List.take m G)).2.1 = G := by rw [q2]
                  have t2 : ((ofR 3 (List.take c (List.drop 0 W))).2.1.length : Int) = ((ofR 3 (List.take m G)).2.1.length : Int) := by first | rfl | (rw [s1, s2]; omega)
                  have t3 : ((ofR 3 (List.take c (List.drop 0 W))).2.1.length : Int) = (F.length : Int) := by rw [s1]
                  conv => whnf
                  repeat' first
                    | ((first | refine auIk ?_ | refine auIi ?_ | refine auT ?_ | refine auF ?_ | with_reducible first | refine auKt ?_ | refine auKf ?_ | refine auNt ?_ | refine auNf ?_ | refine auEt ?_ | refine auEf ?_); conv => whnf)
                    | ((with_reducible first | refine br_dec (fun h => ?_) (fun h => ?_) | refine br_ndec (fun h => ?_) (fun h => ?_) | refine br_ne (fun h => ?_) (fun h => ?_) | refine br_eq (fun h => ?_) (fun h => ?_)) <;> first | (exfalso; omega) | conv => whnf)
                    | (refine br_intro (fun h => ?_) (fun h => ?_) <;> conv => whnf)
                    | ((first | refine auNd ?_ | refine idx_nat (by omega) (fun x hx => ?_) | refine draw_plain ?_ | refine auIx (fun x hx => ?_)); conv => whnf)
                  refine .mk [.frz 3 [22] [(4, 1)]] ?_
                  conv => whnf
                  repeat' first
                    | ((first | refine auIk ?_ | refine auIi ?_ | refine auT ?_ | refine auF ?_ | with_reducible first | refine auKt ?_ | refine auKf ?_ | refine auNt ?_ | refine auNf ?_ | refine auEt ?_ | refine auEf ?_); conv => whnf)
                    | ((with_reducible first | refine br_dec (fun h => ?_) (fun h => ?_) | refine br_ndec (fun h => ?_) (fun h => ?_) | refine br_ne (fun h => ?_) (fun h => ?_) | refine br_eq (fun h => ?_) (fun h => ?_)) <;> first | (exfalso; omega) | conv => whnf)
                    | (refine br_intro (fun h => ?_) (fun h => ?_) <;> conv => whnf)
                    | ((first | refine auNd ?_ | refine idx_nat (by omega) (fun x hx => ?_) | refine draw_plain ?_ | refine auIx (fun x hx => ?_)); conv => whnf)
                  refine .mk [.frz 1 [22] [(2, 1)]] ?_
                  conv => whnf
                  repeat' first
                    | ((first | refine auIk ?_ | refine auIi ?_ | refine auT ?_ | refine auF ?_ | with_reducible first | refine auKt ?_ | refine auKf ?_ | refine auNt ?_ | refine auNf ?_ | refine auEt ?_ | refine auEf ?_); conv => whnf)
                    | ((with_reducible first | refine br_dec (fun h => ?_) (fun h => ?_) | refine br_ndec (fun h => ?_) (fun h => ?_) | refine br_ne (fun h => ?_) (fun h => ?_) | refine br_eq (fun h => ?_) (fun h => ?_)) <;> first | (exfalso; omega) | conv => whnf)
                    | (refine br_intro (fun h => ?_) (fun h => ?_) <;> conv => whnf)
                    | ((first | refine auNd ?_ | refine idx_nat (by omega) (fun x hx => ?_) | refine frz_auto ?_ | refine draw_plain ?_ | refine auIx (fun x hx => ?_)); conv => whnf)
                  apply loop_same8 [] [21] (fun vs => ∃ i : Nat, vs = [.int .i64 (i : Int)] ∧ i ≤ F.length) (fun vs => match vs with | [.int _ k] => F.length - k.toNat | _ => 0)
                  conv => whnf
                  refine ⟨⟨⟨0, rfl, by omega⟩, rfl⟩, ?_⟩
                  rintro vs h' - ⟨⟨i, rfl, hi5⟩, rfl⟩
                  by_cases hil5 : i < F.length
                  · obtain ⟨x, hx⟩ : ∃ x, F[i]? = some x := ⟨_, List.getElem?_eq_getElem hil5⟩
                    obtain ⟨x', hx'⟩ : ∃ x, G[i]? = some x := ⟨_, List.getElem?_eq_getElem (by omega)⟩
                    have x1 : (ofR 3 (List.take c (List.drop 0 W))).2.1[i]? = some x := by rw [s1]; exact hx
                    have x2 : (ofR 3 (List.take m G)).2.1[i]? = some x' := by rw [s2]; exact hx'
                    obtain ⟨x3, x4⟩ := fork_at hY1 hY2 hc hx hx'
                    conv => whnf
                    repeat' first
                      | ((first | refine auIk ?_ | refine auIi ?_ | refine auT ?_ | refine auF ?_ | with_reducible first | refine auKt ?_ | refine auKf ?_ | refine auNt ?_ | refine auNf ?_ | refine auEt ?_ | refine auEf ?_); conv => whnf)
                      | ((with_reducible first | refine br_dec (fun h => ?_) (fun h => ?_) | refine br_ndec (fun h => ?_) (fun h => ?_) | refine br_ne (fun h => ?_) (fun h => ?_) | refine br_eq (fun h => ?_) (fun h => ?_)) <;> first | (exfalso; omega) | conv => whnf)
                      | (refine br_intro (fun h => ?_) (fun h => ?_) <;> conv => whnf)
                      | ((first | refine auNd ?_ | refine idx_nat (by omega) (fun x hx => ?_) | refine frz_auto ?_ | refine draw_plain ?_ | refine auIx (fun x hx => ?_)); conv => whnf)
                    refine back_intro (by conv => whnf) rfl ⟨⟨i + 1, rfl, by omega⟩, rfl⟩ ?_
                    show F.length - ((i : Int) + 1).toNat < F.length - (i : Int).toNat
                    omega
                  · have x5 := eqE_refl y
                    have x6 : (ofR 3 (List.take c (List.drop 0 W))).2.1[((c : Int) - 1).toNat]? = some y := by rw [s1]; exact fork_last hY1 hc hc1 hy
                    have x7 : (0 : Int) < (c : Int) := by omega
                    conv => whnf
                    repeat' first
                      | ((first | refine auIk ?_ | refine auIi ?_ | refine auT ?_ | refine auF ?_ | with_reducible first | refine auKt ?_ | refine auKf ?_ | refine auNt ?_ | refine auNf ?_ | refine auEt ?_ | refine auEf ?_); conv => whnf)
                      | ((with_reducible first | refine br_dec (fun h => ?_) (fun h => ?_) | refine br_ndec (fun h => ?_) (fun h => ?_) | refine br_ne (fun h => ?_) (fun h => ?_) | refine br_eq (fun h => ?_) (fun h => ?_)) <;> first | (exfalso; omega) | conv => whnf)
                      | (refine br_intro (fun h => ?_) (fun h => ?_) <;> conv => whnf)
                      | ((first | refine auNd ?_ | refine idx_nat (by omega) (fun x hx => ?_) | refine frz_auto ?_ | refine draw_plain ?_ | refine auIx (fun x hx => ?_)); conv => whnf)
          · refine loop_inv [] [15] (fun vs h => ∃ (i g1 m : Nat) (G : List entT.El), vs = [.int .i64 (i : Int)] ∧ ((h = H4 F [] g0 0 W g (.tosl 3 g 0 c) (.own 0 g0 n) ((⟨#[]⟩, ⟨#[]⟩, false, (0 : Int), ()) : entT.El) ∧ G = W) ∨ h = H4 F G g0 g1 W g (.own 1 g1 m) (.own 0 g0 n) ((⟨#[]⟩, ⟨#[]⟩, false, (0 : Int), ()) : entT.El)) ∧ i ≤ l.length ∧ k ≤ i ∧ m = G.length ∧ m ≤ i ∧ G = ((l.take i).drop k).foldl addF W ∧ okL8 G) (fun vs _ => match vs with | [.int _ j] => l.length - j.toNat | _ => 0) ?_
            conv => whnf
            refine ⟨⟨k, 0, c, W, rfl, .inl ⟨rfl, rfl⟩, hk2, Nat.le_refl _, hc, hci, by rw [List.drop_of_length_le (by rw [List.length_take]; omega)]; rfl, hok⟩, ?_⟩
            rintro vs h' - ⟨i, g1, m, G, rfl, hh, hi, hki, hm, hmi, hG, hokG⟩
            by_cases hil : i < l.length
            · obtain ⟨x, hx⟩ : ∃ x, l[i]? = some x := ⟨_, List.getElem?_eq_getElem (by omega)⟩
              have h100 : (m : Int) ≠ 100 := by omega
              have hG2 := fold_from (f := addF) (W := W) hki hx
              rw [← hG] at hG2
              have hok2 := addF_ok (x := x) hokG
              rcases hh with ⟨rfl, hGW⟩ | rfl
              · have hmc : m = c := by rw [hm, hGW, hc]
                rw [hmc] at hm h100
                rw [hGW] at hm hG2 hok2
                rcases fadd_cases hm x with ⟨e1, e2⟩ | ⟨e0, w, d, ⟨hd, rfl, rfl⟩ | ⟨hd, rfl, rfl⟩, e1, ⟨e3, e2⟩ | ⟨e3, y', hy', e4, e2⟩ | ⟨e3, y', hy', e4, e2⟩⟩
                all_goals rw [e2] at hG2 hok2
                all_goals try have hy0' : W[0 + ((c : Int) - 1).toNat]? = some y' := by rw [Nat.zero_add]; exact hy'
                all_goals (conv => whnf)
                repeat' first
                  | ((first | refine auIk ?_ | refine auIi ?_ | refine auT ?_ | refine auF ?_ | with_reducible first | refine auKt ?_ | refine auKf ?_ | refine auNt ?_ | refine auNf ?_ | refine auEt ?_ | refine auEf ?_); conv => whnf)
                  | ((with_reducible first | refine br_dec (fun h => ?_) (fun h => ?_) | refine br_ndec (fun h => ?_) (fun h => ?_) | refine br_ne (fun h => ?_) (fun h => ?_) | refine br_eq (fun h => ?_) (fun h => ?_)) <;> first | (exfalso; omega) | conv => whnf)
                  | (refine br_intro (fun h => ?_) (fun h => ?_) <;> conv => whnf)
                  | ((first | refine auNd ?_ | refine idx_nat (by omega) (fun x hx => ?_) | refine frz_auto ?_ | refine draw_plain ?_ | refine auIx (fun x hx => ?_)); conv => whnf)
                all_goals first
                  | exact absurd (show (1 : Nat) = 0 from h) (by decide)
                  | (refine back_intro (by conv => whnf) rfl ⟨i + 1, 0, c, W, rfl, .inl ⟨rfl, rfl⟩, by omega, by omega, hm, by omega, hG2.symm, hok⟩ ?_
                     show l.length - ((i : Int) + 1).toNat < l.length - (i : Int).toNat
                     omega)
                  | (refine backP.mk [.mvc 2 1 1] ?_
                     conv => whnf
                     refine ⟨⟨rfl, rfl⟩, ?_⟩
                     conv => whnf)
                repeat' first
                  | ((first | refine auIk ?_ | refine auIi ?_ | refine auT ?_ | refine auF ?_ | with_reducible first | refine auKt ?_ | refine auKf ?_ | refine auNt ?_ | refine auNf ?_ | refine auEt ?_ | refine auEf ?_); conv => whnf)
                  | ((with_reducible first | refine br_dec (fun h => ?_) (fun h => ?_) | refine br_ndec (fun h => ?_) (fun h => ?_) | refine br_ne (fun h => ?_) (fun h => ?_) | refine br_eq (fun h => ?_) (fun h => ?_)) <;> first | (exfalso; omega) | conv => whnf)
                  | (refine br_intro (fun h => ?_) (fun h => ?_) <;> conv => whnf)
                  | ((first | refine auNd ?_ | refine idx_nat (by omega) (fun x hx => ?_) | refine frz_auto ?_ | refine draw_plain ?_ | refine auIx (fun x hx => ?_)); conv => whnf)
                all_goals refine backQ_in (by conv => whnf) rfl ⟨i + 1, 1, c + 1, _, rfl, .inr ?_, by omega, by omega, by rw [hm, List.length_append]; rfl, by omega, hG2.symm, hok2⟩ ?_
                all_goals first
                  | exact H4_mv (app_80 hm _) (len_80 hm _)
                  | (show l.length - ((i : Int) + 1).toNat < l.length - (i : Int).toNat
                     omega)
              · rcases fadd_cases hm x with ⟨e1, e2⟩ | ⟨e0, w, d, ⟨hd, rfl, rfl⟩ | ⟨hd, rfl, rfl⟩, e1, ⟨e3, e2⟩ | ⟨e3, y', hy', e4, e2⟩ | ⟨e3, y', hy', e4, e2⟩⟩
                all_goals rw [e2] at hG2 hok2
                all_goals (conv => whnf)
                repeat' first
                  | ((first | refine auIk ?_ | refine auIi ?_ | refine auT ?_ | refine auF ?_ | with_reducible first | refine auKt ?_ | refine auKf ?_ | refine auNt ?_ | refine auNf ?_ | refine auEt ?_ | refine auEf ?_); conv => whnf)
                  | ((with_reducible first | refine br_dec (fun h => ?_) (fun h => ?_) | refine br_ndec (fun h => ?_) (fun h => ?_) | refine br_ne (fun h => ?_) (fun h => ?_) | refine br_eq (fun h => ?_) (fun h => ?_)) <;> first | (exfalso; omega) | conv => whnf)
                  | (refine br_intro (fun h => ?_) (fun h => ?_) <;> conv => whnf)
                  | ((first | refine auNd ?_ | refine idx_nat (by omega) (fun x hx => ?_) | refine frz_auto ?_ | refine draw_plain ?_ | refine auIx (fun x hx => ?_)); conv => whnf)
                all_goals first
                  | (refine back_intro (by conv => whnf) rfl ⟨i + 1, g1, m, G, rfl, .inr rfl, by omega, by omega, hm, by omega, hG2.symm, hokG⟩ ?_
                     show l.length - ((i : Int) + 1).toNat < l.length - (i : Int).toNat
                     omega)
                  | (refine back_intro (by conv => whnf) rfl ⟨i + 1, g1 + 1, m + 1, _, rfl, .inr (H4_eq (app_8 hm _)), by omega, by omega, by rw [hm, List.length_append]; rfl, by omega, hG2.symm, hok2⟩ ?_
                     show l.length - ((i : Int) + 1).toNat < l.length - (i : Int).toNat
                     omega)
            · obtain rfl : i = l.length := by omega
              rw [List.take_length] at hG
              obtain ⟨Y, hY1, hY2⟩ := adds_fork (W := W) (l.drop k) []
              rw [List.append_nil, ← hF] at hY1
              rw [List.map_nil, List.append_nil, ← hG] at hY2
              have hL1 : (List.take n F) = F := by first | (rw [hFW, List.drop_zero, hc, List.take_length]) | (rw [hn, List.take_length])
              have hlen : F.length = G.length := by rw [hY1, hY2, List.length_append, List.length_append, List.length_map]
              have q1 : ofR 3 (List.take n F) = if F.length = 0 then (0, [], 4) else (3, F, 0) := by rw [hL1]; exact ofR_8 hokF (by omega)
              rcases hh with ⟨rfl, hGW⟩ | rfl
              · have hL2 : List.take c (List.drop 0 W) = G := by rw [hGW, List.drop_zero, hc, List.take_length]
                have q2 : ofR 3 (List.take c (List.drop 0 W)) = if G.length = 0 then (0, [], 4) else (3, G, 0) := by rw [hL2]; exact ofR_8 hokG (by omega)
                have t1 : (((List.take n F)).length : Int) = n := by first | (rw [hL1]; omega) | (rw [hL1, hFW]; omega)
                by_cases hz : F.length = 0
                · rw [if_pos hz] at q1
                  rw [if_pos (by omega)] at q2
                  have p1 : (ofR 3 (List.take n F)).2.2 = 4 := by rw [q1]
                  have p1n : (ofR 3 (List.take n F)).2.2 ≠ 0 := by rw [p1]; decide
                  have p2 : (ofR 3 (List.take c (List.drop 0 W))).2.2 = 4 := by rw [q2]
                  have p2n : (ofR 3 (List.take c (List.drop 0 W))).2.2 ≠ 0 := by rw [p2]; decide
                  have p3 : (ofR 3 (List.take n F)).2.2 = (ofR 3 (List.take c (List.drop 0 W))).2.2 := by first | rfl | rw [p1, p2]
                  have s1 : (ofR 3 (List.take n F)).2.1 = [] := by rw [q1]
                  have s2 : (ofR 3 (List.take c (List.drop 0 W))).2.1 = [] := by rw [q2]
                  have t2 : ((ofR 3 (List.take n F)).2.1.length : Int) = ((ofR 3 (List.take c (List.drop 0 W))).2.1.length : Int) := by first | rfl | rw [s1, s2]
                  conv => whnf
                  repeat' first
                    | ((first | refine auIk ?_ | refine auIi ?_ | refine auT ?_ | refine auF ?_ | with_reducible first | refine auKt ?_ | refine auKf ?_ | refine auNt ?_ | refine auNf ?_ | refine auEt ?_ | refine auEf ?_); conv => whnf)
                    | ((with_reducible first | refine br_dec (fun h => ?_) (fun h => ?_) | refine br_ndec (fun h => ?_) (fun h => ?_) | refine br_ne (fun h => ?_) (fun h => ?_) | refine br_eq (fun h => ?_) (fun h => ?_)) <;> first | (exfalso; omega) | conv => whnf)
                    | (refine br_intro (fun h => ?_) (fun h => ?_) <;> conv => whnf)
                    | ((first | refine auNd ?_ | refine idx_nat (by omega) (fun x hx => ?_) | refine draw_plain ?_ | refine auIx (fun x hx => ?_)); conv => whnf)
                  refine .mk [.frz 0 [22] [(4, 1)]] ?_
                  conv => whnf
                  repeat' first
                    | ((first | refine auIk ?_ | refine auIi ?_ | refine auT ?_ | refine auF ?_ | with_reducible first | refine auKt ?_ | refine auKf ?_ | refine auNt ?_ | refine auNf ?_ | refine auEt ?_ | refine auEf ?_); conv => whnf)
                    | ((with_reducible first | refine br_dec (fun h => ?_) (fun h => ?_) | refine br_ndec (fun h => ?_) (fun h => ?_) | refine br_ne (fun h => ?_) (fun h => ?_) | refine br_eq (fun h => ?_) (fun h => ?_)) <;> first | (exfalso; omega) | conv => whnf)
                    | (refine br_intro (fun h => ?_) (fun h => ?_) <;> conv => whnf)
                    | ((first | refine auNd ?_ | refine idx_nat (by omega) (fun x hx => ?_) | refine draw_plain ?_ | refine auIx (fun x hx => ?_)); conv => whnf)
                  refine .mk [.frz 3 [22] [(2, 1)]] ?_
                  conv => whnf
                  repeat' first
                    | ((first | refine auIk ?_ | refine auIi ?_ | refine auT ?_ | refine auF ?_ | with_reducible first | refine auKt ?_ | refine auKf ?_ | refine auNt ?_ | refine auNf ?_ | refine auEt ?_ | refine auEf ?_); conv => whnf)
                    | ((with_reducible first | refine br_dec (fun h => ?_) (fun h => ?_) | refine br_ndec (fun h => ?_) (fun h => ?_) | refine br_ne (fun h => ?_) (fun h => ?_) | refine br_eq (fun h => ?_) (fun h => ?_)) <;> first | (exfalso; omega) | conv => whnf)
                    | (refine br_intro (fun h => ?_) (fun h => ?_) <;> conv => whnf)
                    | ((first | refine auNd ?_ | refine idx_nat (by omega) (fun x hx => ?_) | refine frz_auto ?_ | refine draw_plain ?_ | refine auIx (fun x hx => ?_)); conv => whnf)
                  apply loop_same8 [] [21] (fun vs => vs = [.int .i64 0]) (fun vs => 0)
                  conv => whnf
                  refine ⟨⟨rfl, rfl⟩, ?_⟩
                  rintro vs h' - ⟨rfl, rfl⟩
                  have t3 : ¬ (0 : Int) < ((ofR 3 (List.take n F)).2.1.length : Int) := by rw [s1]; decide
                  conv => whnf
                  repeat' first
                    | ((first | refine auIk ?_ | refine auIi ?_ | refine auT ?_ | refine auF ?_ | with_reducible first | refine auKt ?_ | refine auKf ?_ | refine auNt ?_ | refine auNf ?_ | refine auEt ?_ | refine auEf ?_); conv => whnf)
                    | ((with_reducible first | refine br_dec (fun h => ?_) (fun h => ?_) | refine br_ndec (fun h => ?_) (fun h => ?_) | refine br_ne (fun h => ?_) (fun h => ?_) | refine br_eq (fun h => ?_) (fun h => ?_)) <;> first | (exfalso; omega) | conv => whnf)
                    | (refine br_intro (fun h => ?_) (fun h => ?_) <;> conv => whnf)
                    | ((first | refine auNd ?_ | refine idx_nat (by omega) (fun x hx => ?_) | refine frz_auto ?_ | refine draw_plain ?_ | refine auIx (fun x hx => ?_)); conv => whnf)
                  all_goals trace_state
                  all_goals sorry
                · rw [if_neg hz] at q1
                  rw [if_neg (by omega)] at q2
                  have p1 : (ofR 3 (List.take n F)).2.2 = 0 := by rw [q1]
                  have p2 : (ofR 3 (List.take c (List.drop 0 W))).2.2 = 0 := by rw [q2]
                  have p3 : (ofR 3 (List.take n F)).2.2 = (ofR 3 (List.take c (List.drop 0 W))).2.2 := by first | rfl | rw [p1, p2]
                  have s1 : (ofR 3 (List.take n F)).2.1 = F := by rw [q1]
                  have s2 : (ofR 3 (List.take c (List.drop 0 W))).2.1 = G := by rw [q2]
                  have t2 : ((ofR 3 (List.take n F)).2.1.length : Int) = ((ofR 3 (List.take c (List.drop 0 W))).2.1.length : Int) := by first | rfl | (rw [s1, s2]; omega)
                  have t3 : ((ofR 3 (List.take n F)).2.1.length : Int) = (F.length : Int) := by rw [s1]
                  conv => whnf
                  repeat' first
                    | ((first | refine auIk ?_ | refine auIi ?_ | refine auT ?_ | refine auF ?_ | with_reducible first | refine auKt ?_ | refine auKf ?_ | refine auNt ?_ | refine auNf ?_ | refine auEt ?_ | refine auEf ?_); conv => whnf)
                    | ((with_reducible first | refine br_dec (fun h => ?_) (fun h => ?_) | refine br_ndec (fun h => ?_) (fun h => ?_) | refine br_ne (fun h => ?_) (fun h => ?_) | refine br_eq (fun h => ?_) (fun h => ?_)) <;> first | (exfalso; omega) | conv => whnf)
                    | (refine br_intro (fun h => ?_) (fun h => ?_) <;> conv => whnf)
                    | ((first | refine auNd ?_ | refine idx_nat (by omega) (fun x hx => ?_) | refine draw_plain ?_ | refine auIx (fun x hx => ?_)); conv => whnf)
                  refine .mk [.frz 0 [22] [(4, 1)]] ?_
                  conv => whnf
                  repeat' first
                    | ((first | refine auIk ?_ | refine auIi ?_ | refine auT ?_ | refine auF ?_ | with_reducible first | refine auKt ?_ | refine auKf ?_ | refine auNt ?_ | refine auNf ?_ | refine auEt ?_ | refine auEf ?_); conv => whnf)
                    | ((with_reducible first | refine br_dec (fun h => ?_) (fun h => ?_) | refine br_ndec (fun h => ?_) (fun h => ?_) | refine br_ne (fun h => ?_) (fun h => ?_) | refine br_eq (fun h => ?_) (fun h => ?_)) <;> first | (exfalso; omega) | conv => whnf)
                    | (refine br_intro (fun h => ?_) (fun h => ?_) <;> conv => whnf)
                    | ((first | refine auNd ?_ | refine idx_nat (by omega) (fun x hx => ?_) | refine draw_plain ?_ | refine auIx (fun x hx => ?_)); conv => whnf)
                  refine .mk [.frz 3 [22] [(2, 1)]] ?_
                  conv => whnf
                  repeat' first
                    | ((first | refine auIk ?_ | refine auIi ?_ | refine auT ?_ | refine auF ?_ | with_reducible first | refine auKt ?_ | refine auKf ?_ | refine auNt ?_ | refine auNf ?_ | refine auEt ?_ | refine auEf ?_); conv => whnf)
                    | ((with_reducible first | refine br_dec (fun h => ?_) (fun h => ?_) | refine br_ndec (fun h => ?_) (fun h => ?_) | refine br_ne (fun h => ?_) (fun h => ?_) | refine br_eq (fun h => ?_) (fun h => ?_)) <;> first | (exfalso; omega) | conv => whnf)
                    | (refine br_intro (fun h => ?_) (fun h => ?_) <;> conv => whnf)
                    | ((first | refine auNd ?_ | refine idx_nat (by omega) (fun x hx => ?_) | refine frz_auto ?_ | refine draw_plain ?_ | refine auIx (fun x hx => ?_)); conv => whnf)
                  apply loop_same8 [] [21] (fun vs => ∃ i : Nat, vs = [.int .i64 (i : Int)] ∧ i ≤ F.length) (fun vs => match vs with | [.int _ k] => F.length - k.toNat | _ => 0)
                  conv => whnf
                  refine ⟨⟨⟨0, rfl, by omega⟩, rfl⟩, ?_⟩
                  rintro vs h' - ⟨⟨i, rfl, hi5⟩, rfl⟩
                  by_cases hil5 : i < F.length
                  · obtain ⟨x, hx⟩ : ∃ x, F[i]? = some x := ⟨_, List.getElem?_eq_getElem hil5⟩
                    obtain ⟨x', hx'⟩ : ∃ x, G[i]? = some x := ⟨_, List.getElem?_eq_getElem (by omega)⟩
                    have x1 : (ofR 3 (List.take n F)).2.1[i]? = some x := by rw [s1]; exact hx
                    have x2 : (ofR 3 (List.take c (List.drop 0 W))).2.1[i]? = some x' := by rw [s2]; exact hx'
                    obtain ⟨x3, x4⟩ := fork_at hY1 hY2 hc hx hx'
                    conv => whnf
                    repeat' first
                      | ((first | refine auIk ?_ | refine auIi ?_ | refine auT ?_ | refine auF ?_ | with_reducible first | refine auKt ?_ | refine auKf ?_ | refine auNt ?_ | refine auNf ?_ | refine auEt ?_ | refine auEf ?_); conv => whnf)
                      | ((with_reducible first | refine br_dec (fun h => ?_) (fun h => ?_) | refine br_ndec (fun h => ?_) (fun h => ?_) | refine br_ne (fun h => ?_) (fun h => ?_) | refine br_eq (fun h => ?_) (fun h => ?_)) <;> first | (exfalso; omega) | conv => whnf)
                      | (refine br_intro (fun h => ?_) (fun h => ?_) <;> conv => whnf)
                      | ((first | refine auNd ?_ | refine idx_nat (by omega) (fun x hx => ?_) | refine frz_auto ?_ | refine draw_plain ?_ | refine auIx (fun x hx => ?_)); conv => whnf)
                    refine back_intro (by conv => whnf) rfl ⟨⟨i + 1, rfl, by omega⟩, rfl⟩ ?_
                    show F.length - ((i : Int) + 1).toNat < F.length - (i : Int).toNat
                    omega
                  · have x5 := eqE_refl ((⟨#[]⟩, ⟨#[]⟩, false, (0 : Int), ()) : entT.El)
                    conv => whnf
                    repeat' first
                      | ((first | refine auIk ?_ | refine auIi ?_ | refine auT ?_ | refine auF ?_ | with_reducible first | refine auKt ?_ | refine auKf ?_ | refine auNt ?_ | refine auNf ?_ | refine auEt ?_ | refine auEf ?_); conv => whnf)
                      | ((with_reducible first | refine br_dec (fun h => ?_) (fun h => ?_) | refine br_ndec (fun h => ?_) (fun h => ?_) | refine br_ne (fun h => ?_) (fun h => ?_) | refine br_eq (fun h => ?_) (fun h => ?_)) <;> first | (exfalso; omega) | conv => whnf)
                      | (refine br_intro (fun h => ?_) (fun h => ?_) <;> conv => whnf)
                      | ((first | refine auNd ?_ | refine idx_nat (by omega) (fun x hx => ?_) | refine frz_auto ?_ | refine draw_plain ?_ | refine auIx (fun x hx => ?_)); conv => whnf)
              · have hL2 : List.take m G = G := by rw [hm, List.take_length]
                have q2 : ofR 3 (List.take m G) = if G.length = 0 then (0, [], 4) else (3, G, 0) := by rw [hL2]; exact ofR_8 hokG (by omega)
                have t1 : (((List.take n F)).length : Int) = n := by first | (rw [hL1]; omega) | (rw [hL1, hFW]; omega)
                by_cases hz : F.length = 0
                · rw [if_pos hz] at q1
                  rw [if_pos (by omega)] at q2
                  have p1 : (ofR 3 (List.take n F)).2.2 = 4 := by rw [q1]
                  have p1n : (ofR 3 (List.take n F)).2.2 ≠ 0 := by rw [p1]; decide
                  have p2 : (ofR 3 (List.take m G)).2.2 = 4 := by rw [q2]
                  have p2n : (ofR 3 (List.take m G)).2.2 ≠ 0 := by rw [p2]; decide
                  have p3 : (ofR 3 (List.take n F)).2.2 = (ofR 3 (List.take m G)).2.2 := by first | rfl | rw [p1, p2]
                  have s1 : (ofR 3 (List.take n F)).2.1 = [] := by rw [q1]
                  have s2 : (ofR 3 (List.take m G)).2.1 = [] := by rw [q2]
                  have t2 : ((ofR 3 (List.take n F)).2.1.length : Int) = ((ofR 3 (List.take m G)).2.1.length : Int) := by first | rfl | rw [s1, s2]
                  conv => whnf
                  repeat' first
                    | ((first | refine auIk ?_ | refine auIi ?_ | refine auT ?_ | refine auF ?_ | with_reducible first | refine auKt ?_ | refine auKf ?_ | refine auNt ?_ | refine auNf ?_ | refine auEt ?_ | refine auEf ?_); conv => whnf)
                    | ((with_reducible first | refine br_dec (fun h => ?_) (fun h => ?_) | refine br_ndec (fun h => ?_) (fun h => ?_) | refine br_ne (fun h => ?_) (fun h => ?_) | refine br_eq (fun h => ?_) (fun h => ?_)) <;> first | (exfalso; omega) | conv => whnf)
                    | (refine br_intro (fun h => ?_) (fun h => ?_) <;> conv => whnf)
                    | ((first | refine auNd ?_ | refine idx_nat (by omega) (fun x hx => ?_) | refine draw_plain ?_ | refine auIx (fun x hx => ?_)); conv => whnf)
                  refine .mk [.frz 0 [22] [(4, 1)]] ?_
                  conv => whnf
                  repeat' first
                    | ((first | refine auIk ?_ | refine auIi ?_ | refine auT ?_ | refine auF ?_ | with_reducible first | refine auKt ?_ | refine auKf ?_ | refine auNt ?_ | refine auNf ?_ | refine auEt ?_ | refine auEf ?_); conv => whnf)
                    | ((with_reducible first | refine br_dec (fun h => ?_) (fun h => ?_) | refine br_ndec (fun h => ?_) (fun h => ?_) | refine br_ne (fun h => ?_) (fun h => ?_) | refine br_eq (fun h => ?_) (fun h => ?_)) <;> first | (exfalso; omega) | conv => whnf)
                    | (refine br_intro (fun h => ?_) (fun h => ?_) <;> conv => whnf)
                    | ((first | refine auNd ?_ | refine idx_nat (by omega) (fun x hx => ?_) | refine draw_plain ?_ | refine auIx (fun x hx => ?_)); conv => whnf)
                  refine .mk [.frz 1 [22] [(2, 1)]] ?_
                  conv => whnf
                  repeat' first
                    | ((first | refine auIk ?_ | refine auIi ?_ | refine auT ?_ | refine auF ?_ | with_reducible first | refine auKt ?_ | refine auKf ?_ | refine auNt ?_ | refine auNf ?_ | refine auEt ?_ | refine auEf ?_); conv => whnf)
                    | ((with_reducible first | refine br_dec (fun h => ?_) (fun h => ?_) | refine br_ndec (fun h => ?_) (fun h => ?_) | refine br_ne (fun h => ?_) (fun h => ?_) | refine br_eq (fun h => ?_) (fun h => ?_)) <;> first | (exfalso; omega) | conv => whnf)
                    | (refine br_intro (fun h => ?_) (fun h => ?_) <;> conv => whnf)
                    | ((first | refine auNd ?_ | refine idx_nat (by omega) (fun x hx => ?_) | refine frz_auto ?_ | refine draw_plain ?_ | refine auIx (fun x hx => ?_)); conv => whnf)
                  apply loop_same8 [] [21] (fun vs => vs = [.int .i64 0]) (fun vs => 0)
                  conv => whnf
                  refine ⟨⟨rfl, rfl⟩, ?_⟩
                  rintro vs h' - ⟨rfl, rfl⟩
                  have t3 : ¬ (0 : Int) < ((ofR 3 (List.take n F)).2.1.length : Int) := by rw [s1]; decide
                  conv => whnf
                  repeat' first
                    | ((first | refine auIk ?_ | refine auIi ?_ | refine auT ?_ | refine auF ?_ | with_reducible first | refine auKt ?_ | refine auKf ?_ | refine auNt ?_ | refine auNf ?_ | refine auEt ?_ | refine auEf ?_); conv => whnf)
                    | ((with_reducible first | refine br_dec (fun h => ?_) (fun h => ?_) | refine br_ndec (fun h => ?_) (fun h => ?_) | refine br_ne (fun h => ?_) (fun h => ?_) | refine br_eq (fun h => ?_) (fun h => ?_)) <;> first | (exfalso; omega) | conv => whnf)
                    | (refine br_intro (fun h => ?_) (fun h => ?_) <;> conv => whnf)
                    | ((first | refine auNd ?_ | refine idx_nat (by omega) (fun x hx => ?_) | refine frz_auto ?_ | refine draw_plain ?_ | refine auIx (fun x hx => ?_)); conv => whnf)
                  all_goals trace_state
                  all_goals sorry
                · rw [if_neg hz] at q1
                  rw [if_neg (by omega)] at q2
                  have p1 : (ofR 3 (List.take n F)).2.2 = 0 := by rw [q1]
                  have p2 : (ofR 3 (List.take m G)).2.2 = 0 := by rw [q2]
                  have p3 : (ofR 3 (List.take n F)).2.2 = (ofR 3 (List.take m G)).2.2 := by first | rfl | rw [p1, p2]
                  have s1 : (ofR 3 (List.take n F)).2.1 = F := by rw [q1]
                  have s2 : (ofR 3 (List.take m G)).2.1 = G := by rw [q2]
                  have t2 : ((ofR 3 (List.take n F)).2.1.length : Int) = ((ofR 3 (List.take m G)).2.1.length : Int) := by first | rfl | (rw [s1, s2]; omega)
                  have t3 : ((ofR 3 (List.take n F)).2.1.length : Int) = (F.length : Int) := by rw [s1]
                  conv => whnf
                  repeat' first
                    | ((first | refine auIk ?_ | refine auIi ?_ | refine auT ?_ | refine auF ?_ | with_reducible first | refine auKt ?_ | refine auKf ?_ | refine auNt ?_ | refine auNf ?_ | refine auEt ?_ | refine auEf ?_); conv => whnf)
                    | ((with_reducible first | refine br_dec (fun h => ?_) (fun h => ?_) | refine br_ndec (fun h => ?_) (fun h => ?_) | refine br_ne (fun h => ?_) (fun h => ?_) | refine br_eq (fun h => ?_) (fun h => ?_)) <;> first | (exfalso; omega) | conv => whnf)
                    | (refine br_intro (fun h => ?_) (fun h => ?_) <;> conv => whnf)
                    | ((first | refine auNd ?_ | refine idx_nat (by omega) (fun x hx => ?_) | refine draw_plain ?_ | refine auIx (fun x hx => ?_)); conv => whnf)
                  refine .mk [.frz 0 [22] [(4, 1)]] ?_
                  conv => whnf
                  repeat' first
                    | ((first | refine auIk ?_ | refine auIi ?_ | refine auT ?_ | refine auF ?_ | with_reducible first | refine auKt ?_ | refine auKf ?_ | refine auNt ?_ | refine auNf ?_ | refine auEt ?_ | refine auEf ?_); conv => whnf)
                    | ((with_reducible first | refine br_dec (fun h => ?_) (fun h => ?_) | refine br_ndec (fun h => ?_) (fun h => ?_) | refine br_ne (fun h => ?_) (fun h => ?_) | refine br_eq (fun h => ?_) (fun h => ?_)) <;> first | (exfalso; omega) | conv => whnf)
                    | (refine br_intro (fun h => ?_) (fun h => ?_) <;> conv => whnf)
                    | ((first | refine auNd ?_ | refine idx_nat (by omega) (fun x hx => ?_) | refine draw_plain ?_ | refine auIx (fun x hx => ?_)); conv => whnf)
                  refine .mk [.frz 1 [22] [(2, 1)]] ?_
                  conv => whnf
                  repeat' first
                    | ((first | refine auIk ?_ | refine auIi ?_ | refine auT ?_ | refine auF ?_ | with_reducible first | refine auKt ?_ | refine auKf ?_ | refine auNt ?_ | refine auNf ?_ | refine auEt ?_ | refine auEf ?_); conv => whnf)
                    | ((with_reducible first | refine br_dec (fun h => ?_) (fun h => ?_) | refine br_ndec (fun h => ?_) (fun h => ?_) | refine br_ne (fun h => ?_) (fun h => ?_) | refine br_eq (fun h => ?_) (fun h => ?_)) <;> first | (exfalso; omega) | conv => whnf)
                    | (refine br_intro (fun h => ?_) (fun h => ?_) <;> conv => whnf)
                    | ((first | refine auNd ?_ | refine idx_nat (by omega) (fun x hx => ?_) | refine frz_auto ?_ | refine draw_plain ?_ | refine auIx (fun x hx => ?_)); conv => whnf)
                  apply loop_same8 [] [21] (fun vs => ∃ i : Nat, vs = [.int .i64 (i : Int)] ∧ i ≤ F.length) (fun vs => match vs with | [.int _ k] => F.length - k.toNat | _ => 0)
                  conv => whnf
                  refine ⟨⟨⟨0, rfl, by omega⟩, rfl⟩, ?_⟩
                  rintro vs h' - ⟨⟨i, rfl, hi5⟩, rfl⟩
                  by_cases hil5 : i < F.length
                  · obtain ⟨x, hx⟩ : ∃ x, F[i]? = some x := ⟨_, List.getElem?_eq_getElem hil5⟩
                    obtain ⟨x', hx'⟩ : ∃ x, G[i]? = some x := ⟨_, List.getElem?_eq_getElem (by omega)⟩
                    have x1 : (ofR 3 (List.take n F)).2.1[i]? = some x := by rw [s1]; exact hx
                    have x2 : (ofR 3 (List.take m G)).2.1[i]? = some x' := by rw [s2]; exact hx'
                    obtain ⟨x3, x4⟩ := fork_at hY1 hY2 hc hx hx'
                    conv => whnf
                    repeat' first
                      | ((first | refine auIk ?_ | refine auIi ?_ | refine auT ?_ | refine auF ?_ | with_reducible first | refine auKt ?_ | refine auKf ?_ | refine auNt ?_ | refine auNf ?_ | refine auEt ?_ | refine auEf ?_); conv => whnf)
                      | ((with_reducible first | refine br_dec (fun h => ?_) (fun h => ?_) | refine br_ndec (fun h => ?_) (fun h => ?_) | refine br_ne (fun h => ?_) (fun h => ?_) | refine br_eq (fun h => ?_) (fun h => ?_)) <;> first | (exfalso; omega) | conv => whnf)
                      | (refine br_intro (fun h => ?_) (fun h => ?_) <;> conv => whnf)
                      | ((first | refine auNd ?_ | refine idx_nat (by omega) (fun x hx => ?_) | refine frz_auto ?_ | refine draw_plain ?_ | refine auIx (fun x hx => ?_)); conv => whnf)
                    refine back_intro (by conv => whnf) rfl ⟨⟨i + 1, rfl, by omega⟩, rfl⟩ ?_
                    show F.length - ((i : Int) + 1).toNat < F.length - (i : Int).toNat
                    omega
                  · have x5 := eqE_refl ((⟨#[]⟩, ⟨#[]⟩, false, (0 : Int), ()) : entT.El)
                    conv => whnf
                    repeat' first
                      | ((first | refine auIk ?_ | refine auIi ?_ | refine auT ?_ | refine auF ?_ | with_reducible first | refine auKt ?_ | refine auKf ?_ | refine auNt ?_ | refine auNf ?_ | refine auEt ?_ | refine auEf ?_); conv => whnf)
                      | ((with_reducible first | refine br_dec (fun h => ?_) (fun h => ?_) | refine br_ndec (fun h => ?_) (fun h => ?_) | refine br_ne (fun h => ?_) (fun h => ?_) | refine br_eq (fun h => ?_) (fun h => ?_)) <;> first | (exfalso; omega) | conv => whnf)
                      | (refine br_intro (fun h => ?_) (fun h => ?_) <;> conv => whnf)
                      | ((first | refine auNd ?_ | refine idx_nat (by omega) (fun x hx => ?_) | refine frz_auto ?_ | refine draw_plain ?_ | refine auIx (fun x hx => ?_)); conv => whnf)
          · refine loop_inv [] [15] (fun vs h => ∃ (i g1 m : Nat) (G : List entT.El), vs = [.int .i64 (i : Int)] ∧ ((h = H4 F [] g0 0 W g (.tosl 3 g 0 c) (.own 0 g0 n) y ∧ G = W) ∨ h = H4 F G g0 g1 W g (.own 1 g1 m) (.own 0 g0 n) y) ∧ i ≤ l.length ∧ k ≤ i ∧ m = G.length ∧ m ≤ i ∧ G = ((l.take i).drop k).foldl addF W ∧ okL8 G) (fun vs _ => match vs with | [.int _ j] => l.length - j.toNat | _ => 0) ?_
            conv => whnf
            refine ⟨⟨k, 0, c, W, rfl, .inl ⟨rfl, rfl⟩, hk2, Nat.le_refl _, hc, hci, by rw [List.drop_of_length_le (by rw [List.length_take]; omega)]; rfl, hok⟩, ?_⟩
            rintro vs h' - ⟨i, g1, m, G, rfl, hh, hi, hki, hm, hmi, hG, hokG⟩
            by_cases hil : i < l.length
            · obtain ⟨x, hx⟩ : ∃ x, l[i]? = some x := ⟨_, List.getElem?_eq_getElem (by omega)⟩
              have h100 : (m : Int) ≠ 100 := by omega
              have hG2 := fold_from (f := addF) (W := W) hki hx
              rw [← hG] at hG2
              have hok2 := addF_ok (x := x) hokG
              rcases hh with ⟨rfl, hGW⟩ | rfl
              · have hmc : m = c := by rw [hm, hGW, hc]
                rw [hmc] at hm h100
                rw [hGW] at hm hG2 hok2
                rcases fadd_cases hm x with ⟨e1, e2⟩ | ⟨e0, w, d, ⟨hd, rfl, rfl⟩ | ⟨hd, rfl, rfl⟩, e1, ⟨e3, e2⟩ | ⟨e3, y', hy', e4, e2⟩ | ⟨e3, y', hy', e4, e2⟩⟩
                all_goals rw [e2] at hG2 hok2
                all_goals try have hy0' : W[0 + ((c : Int) - 1).toNat]? = some y' := by rw [Nat.zero_add]; exact hy'
                all_goals (conv => whnf)
                repeat' first
                  | ((first | refine auIk ?_ | refine auIi ?_ | refine auT ?_ | refine auF ?_ | with_reducible first | refine auKt ?_ | refine auKf ?_ | refine auNt ?_ | refine auNf ?_ | refine auEt ?_ | refine auEf ?_); conv => whnf)
                  | ((with_reducible first | refine br_dec (fun h => ?_) (fun h => ?_) | refine br_ndec (fun h => ?_) (fun h => ?_) | refine br_ne (fun h => ?_) (fun h => ?_) | refine br_eq (fun h => ?_) (fun h => ?_)) <;> first | (exfalso; omega) | conv => whnf)
                  | (refine br_intro (fun h => ?_) (fun h => ?_) <;> conv => whnf)
                  | ((first | refine auNd ?_ | refine idx_nat (by omega) (fun x hx => ?_) | refine frz_auto ?_ | refine draw_plain ?_ | refine auIx (fun x hx => ?_)); conv => whnf)
                all_goals first
                  | exact absurd (show (1 : Nat) = 0 from h) (by decide)
                  | (refine back_intro (by conv => whnf) rfl ⟨i + 1, 0, c, W, rfl, .inl ⟨rfl, rfl⟩, by omega, by omega, hm, by omega, hG2.symm, hok⟩ ?_
                     show l.length - ((i : Int) + 1).toNat < l.length - (i : Int).toNat
                     omega)
                  | (refine backP.mk [.mvc 2 1 1] ?_
                     conv => whnf
                     refine ⟨⟨rfl, rfl⟩, ?_⟩
                     conv => whnf)
                repeat' first
                  | ((first | refine auIk ?_ | refine auIi ?_ | refine auT ?_ | refine auF ?_ | with_reducible first | refine auKt ?_ | refine auKf ?_ | refine auNt ?_ | refine auNf ?_ | refine auEt ?_ | refine auEf ?_); conv => whnf)
                  | ((with_reducible first | refine br_dec (fun h => ?_) (fun h => ?_) | refine br_ndec (fun h => ?_) (fun h => ?_) | refine br_ne (fun h => ?_) (fun h => ?_) | refine br_eq (fun h => ?_) (fun h => ?_)) <;> first | (exfalso; omega) | conv => whnf)
                  | (refine br_intro (fun h => ?_) (fun h => ?_) <;> conv => whnf)
                  | ((first | refine auNd ?_ | refine idx_nat (by omega) (fun x hx => ?_) | refine frz_auto ?_ | refine draw_plain ?_ | refine auIx (fun x hx => ?_)); conv => whnf)
                all_goals refine backQ_in (by conv => whnf) rfl ⟨i + 1, 1, c + 1, _, rfl, .inr ?_, by omega, by omega, by rw [hm, List.length_append]; rfl, by omega, hG2.symm, hok2⟩ ?_
                all_goals first
                  | exact H4_mv (app_80 hm _) (len_80 hm _)
                  | (show l.length - ((i : Int) + 1).toNat < l.length - (i : Int).toNat
                     omega)
              · rcases fadd_cases hm x with ⟨e1, e2⟩ | ⟨e0, w, d, ⟨hd, rfl, rfl⟩ | ⟨hd, rfl, rfl⟩, e1, ⟨e3, e2⟩ | ⟨e3, y', hy', e4, e2⟩ | ⟨e3, y', hy', e4, e2⟩⟩
                all_goals rw [e2] at hG2 hok2
                all_goals (conv => whnf)
                repeat' first
                  | ((first | refine auIk ?_ | refine auIi ?_ | refine auT ?_ | refine auF ?_ | with_reducible first | refine auKt ?_ | refine auKf ?_ | refine auNt ?_ | refine auNf ?_ | refine auEt ?_ | refine auEf ?_); conv => whnf)
                  | ((with_reducible first | refine br_dec (fun h => ?_) (fun h => ?_) | refine br_ndec (fun h => ?_) (fun h => ?_) | refine br_ne (fun h => ?_) (fun h => ?_) | refine br_eq (fun h => ?_) (fun h => ?_)) <;> first | (exfalso; omega) | conv => whnf)
                  | (refine br_intro (fun h => ?_) (fun h => ?_) <;> conv => whnf)
                  | ((first | refine auNd ?_ | refine idx_nat (by omega) (fun x hx => ?_) | refine frz_auto ?_ | refine draw_plain ?_ | refine auIx (fun x hx => ?_)); conv => whnf)
                all_goals first
                  | (refine back_intro (by conv => whnf) rfl ⟨i + 1, g1, m, G, rfl, .inr rfl, by omega, by omega, hm, by omega, hG2.symm, hokG⟩ ?_
                     show l.length - ((i : Int) + 1).toNat < l.length - (i : Int).toNat
                     omega)
                  | (refine back_intro (by conv => whnf) rfl ⟨i + 1, g1 + 1, m + 1, _, rfl, .inr (H4_eq (app_8 hm _)), by omega, by omega, by rw [hm, List.length_append]; rfl, by omega, hG2.symm, hok2⟩ ?_
                     show l.length - ((i : Int) + 1).toNat < l.length - (i : Int).toNat
                     omega)
            · obtain rfl : i = l.length := by omega
              rw [List.take_length] at hG
              obtain ⟨Y, hY1, hY2⟩ := adds_fork (W := W) (l.drop k) []
              rw [List.append_nil, ← hF] at hY1
              rw [List.map_nil, List.append_nil, ← hG] at hY2
              have hL1 : (List.take n F) = F := by first | (rw [hFW, List.drop_zero, hc, List.take_length]) | (rw [hn, List.take_length])
              have hlen : F.length = G.length := by rw [hY1, hY2, List.length_append, List.length_append, List.length_map]
              have q1 : ofR 3 (List.take n F) = if F.length = 0 then (0, [], 4) else (3, F, 0) := by rw [hL1]; exact ofR_8 hokF (by omega)
              rcases hh with ⟨rfl, hGW⟩ | rfl
              · have hL2 : List.take c (List.drop 0 W) = G := by rw [hGW, List.drop_zero, hc, List.take_length]
                have q2 : ofR 3 (List.take c (List.drop 0 W)) = if G.length = 0 then (0, [], 4) else (3, G, 0) := by rw [hL2]; exact ofR_8 hokG (by omega)
                have t1 : (((List.take n F)).length : Int) = n := by first | (rw [hL1]; omega) | (rw [hL1, hFW]; omega)
                by_cases hz : F.length = 0
                · exfalso
                  have := congrArg List.length hY1
                  rw [List.length_append] at this
                  omega
                · rw [if_neg hz] at q1
                  rw [if_neg (by omega)] at q2
                  have p1 : (ofR 3 (List.take n F)).2.2 = 0 := by rw [q1]
                  have p2 : (ofR 3 (List.take c (List.drop 0 W))).2.2 = 0 := by rw [q2]
                  have p3 : (ofR 3 (List.take n F)).2.2 = (ofR 3 (List.take c (List.drop 0 W))).2.2 := by first | rfl | rw [p1, p2]
                  have s1 : (ofR 3 (List.take n F)).2.1 = F := by rw [q1]
                  have s2 : (ofR 3 (List.take c (List.drop 0 W))).2.1 = G := by rw [q2]
                  have t2 : ((ofR 3 (List.take n F)).2.1.length : Int) = ((ofR 3 (List.take c (List.drop 0 W))).2.1.length : Int) := by first | rfl | (rw [s1, s2]; omega)
                  have t3 : ((ofR 3 (List.take n F)).2.1.length : Int) = (F.length : Int) := by rw [s1]
                  conv => whnf
                  repeat' first
                    | ((first | refine auIk ?_ | refine auIi ?_ | refine auT ?_ | refine auF ?_ | with_reducible first | refine auKt ?_ | refine auKf ?_ | refine auNt ?_ | refine auNf ?_ | refine auEt ?_ | refine auEf ?_); conv => whnf)
                    | ((with_reducible first | refine br_dec (fun h => ?_) (fun h => ?_) | refine br_ndec (fun h => ?_) (fun h => ?_) | refine br_ne (fun h => ?_) (fun h => ?_) | refine br_eq (fun h => ?_) (fun h => ?_)) <;> first | (exfalso; omega) | conv => whnf)
                    | (refine br_intro (fun h => ?_) (fun h => ?_) <;> conv => whnf)
                    | ((first | refine auNd ?_ | refine idx_nat (by omega) (fun x hx => ?_) | refine draw_plain ?_ | refine auIx (fun x hx => ?_)); conv => whnf)
                  refine .mk [.frz 0 [22] [(4, 1)]] ?_
                  conv => whnf
                  repeat' first
                    | ((first | refine auIk ?_ | refine auIi ?_ | refine auT ?_ | refine auF ?_ | with_reducible first | refine auKt ?_ | refine auKf ?_ | refine auNt ?_ | refine auNf ?_ | refine auEt ?_ | refine auEf ?_); conv => whnf)
                    | ((with_reducible first | refine br_dec (fun h => ?_) (fun h => ?_) | refine br_ndec (fun h => ?_) (fun h => ?_) | refine br_ne (fun h => ?_) (fun h => ?_) | refine br_eq (fun h => ?_) (fun h => ?_)) <;> first | (exfalso; omega) | conv => whnf)
                    | (refine br_intro (fun h => ?_) (fun h => ?_) <;> conv => whnf)
                    | ((first | refine auNd ?_ | refine idx_nat (by omega) (fun x hx => ?_) | refine draw_plain ?_ | refine auIx (fun x hx => ?_)); conv => whnf)
                  refine .mk [.frz 3 [22] [(2, 1)]] ?_
                  conv => whnf
                  repeat' first
                    | ((first | refine auIk ?_ | refine auIi ?_ | refine auT ?_ | refine auF ?_ | with_reducible first | refine auKt ?_ | refine auKf ?_ | refine auNt ?_ | refine auNf ?_ | refine auEt ?_ | refine auEf ?_); conv => whnf)
                    | ((with_reducible first | refine br_dec (fun h => ?_) (fun h => ?_) | refine br_ndec (fun h => ?_) (fun h => ?_) | refine br_ne (fun h => ?_) (fun h => ?_) | refine br_eq (fun h => ?_) (fun h => ?_)) <;> first | (exfalso; omega) | conv => whnf)
                    | (refine br_intro (fun h => ?_) (fun h => ?_) <;> conv => whnf)
                    | ((first | refine auNd ?_ | refine idx_nat (by omega) (fun x hx => ?_) | refine frz_auto ?_ | refine draw_plain ?_ | refine auIx (fun x hx => ?_)); conv => whnf)
                  apply loop_same8 [] [21] (fun vs => ∃ i : Nat, vs = [.int .i64 (i : Int)] ∧ i ≤ F.length) (fun vs => match vs with | [.int _ k] => F.length - k.toNat | _ => 0)
                  conv => whnf
                  refine ⟨⟨⟨0, rfl, by omega⟩, rfl⟩, ?_⟩
                  rintro vs h' - ⟨⟨i, rfl, hi5⟩, rfl⟩
                  by_cases hil5 : i < F.length
                  · obtain ⟨x, hx⟩ : ∃ x, F[i]? = some x := ⟨_, List.getElem?_eq_getElem hil5⟩
                    obtain ⟨x', hx'⟩ : ∃ x, G[i]? = some x := ⟨_, List.getElem?_eq_getElem (by omega)⟩
                    have x1 : (ofR 3 (List.take n F)).2.1[i]? = some x := by rw [s1]; exact hx
                    have x2 : (ofR 3 (List.take c (List.drop 0 W))).2.1[i]? = some x' := by rw [s2]; exact hx'
                    obtain ⟨x3, x4⟩ := fork_at hY1 hY2 hc hx hx'
                    conv => whnf
                    repeat' first
                      | ((first | refine auIk ?_ | refine auIi ?_ | refine auT ?_ | refine auF ?_ | with_reducible first | refine auKt ?_ | refine auKf ?_ | refine auNt ?_ | refine auNf ?_ | refine auEt ?_ | refine auEf ?_); conv => whnf)
                      | ((with_reducible first | refine br_dec (fun h => ?_) (fun h => ?_) | refine br_ndec (fun h => ?_) (fun h => ?_) | refine br_ne (fun h => ?_) (fun h => ?_) | refine br_eq (fun h => ?_) (fun h => ?_)) <;> first | (exfalso; omega) | conv => whnf)
                      | (refine br_intro (fun h => ?_) (fun h => ?_) <;> conv => whnf)
                      | ((first | refine auNd ?_ | refine idx_nat (by omega) (fun x hx => ?_) | refine frz_auto ?_ | refine draw_plain ?_ | refine auIx (fun x hx => ?_)); conv => whnf)
                    refine back_intro (by conv => whnf) rfl ⟨⟨i + 1, rfl, by omega⟩, rfl⟩ ?_
                    show F.length - ((i : Int) + 1).toNat < F.length - (i : Int).toNat
                    omega
                  · have x5 := eqE_refl y
                    have x6 : (ofR 3 (List.take n F)).2.1[((c : Int) - 1).toNat]? = some y := by rw [s1]; exact fork_last hY1 hc hc1 hy
                    have x7 : (0 : Int) < (c : Int) := by omega
                    conv => whnf
                    repeat' first
                      | ((first | refine auIk ?_ | refine auIi ?_ | refine auT ?_ | refine auF ?_ | with_reducible first | refine auKt ?_ | refine auKf ?_ | refine auNt ?_ | refine auNf ?_ | refine auEt ?_ | refine auEf ?_); conv => whnf)
                      | ((with_reducible first | refine br_dec (fun h => ?_) (fun h => ?_) | refine br_ndec (fun h => ?_) (fun h => ?_) | refine br_ne (fun h => ?_) (fun h => ?_) | refine br_eq (fun h => ?_) (fun h => ?_)) <;> first | (exfalso; omega) | conv => whnf)
                      | (refine br_intro (fun h => ?_) (fun h => ?_) <;> conv => whnf)
                      | ((first | refine auNd ?_ | refine idx_nat (by omega) (fun x hx => ?_) | refine frz_auto ?_ | refine draw_plain ?_ | refine auIx (fun x hx => ?_)); conv => whnf)
              · have hL2 : List.take m G = G := by rw [hm, List.take_length]
                have q2 : ofR 3 (List.take m G) = if G.length = 0 then (0, [], 4) else (3, G, 0) := by rw [hL2]; exact ofR_8 hokG (by omega)
                have t1 : (((List.take n F)).length : Int) = n := by first | (rw [hL1]; omega) | (rw [hL1, hFW]; omega)
                by_cases hz : F.length = 0
                · exfalso
                  have := congrArg List.length hY1
                  rw [List.length_append] at this
                  omega
                · rw [if_neg hz] at q1
                  rw [if_neg (by omega)] at q2
                  have p1 : (ofR 3 (List.take n F)).2.2 = 0 := by rw [q1]
                  have p2 : (ofR 3 (List.take m G)).2.2 = 0 := by rw [q2]
                  have p3 : (ofR 3 (List.take n F)).2.2 = (ofR 3 (List.take m G)).2.2 := by first | rfl | rw [p1, p2]
                  have s1 : (ofR 3 (List.take n F)).2.1 = F := by rw [q1]
                  have s2 : (ofR 3 (List.take m G)).2.1 = G := by rw [q2]
                  have t2 : ((ofR 3 (List.take n F)).2.1.length : Int) = ((ofR 3 (List.take m G)).2.1.length : Int) := by first | rfl | (rw [s1, s2]; omega)
                  have t3 : ((ofR 3 (List.take n F)).2.1.length : Int) = (F.length : Int) := by rw [s1]
                  conv => whnf
                  repeat' first
                    | ((first | refine auIk ?_ | refine auIi ?_ | refine auT ?_ | refine auF ?_ | with_reducible first | refine auKt ?_ | refine auKf ?_ | refine auNt ?_ | refine auNf ?_ | refine auEt ?_ | refine auEf ?_); conv => whnf)
                    | ((with_reducible first | refine br_dec (fun h => ?_) (fun h => ?_) | refine br_ndec (fun h => ?_) (fun h => ?_) | refine br_ne (fun h => ?_) (fun h => ?_) | refine br_eq (fun h => ?_) (fun h => ?_)) <;> first | (exfalso; omega) | conv => whnf)
                    | (refine br_intro (fun h => ?_) (fun h => ?_) <;> conv => whnf)
                    | ((first | refine auNd ?_ | refine idx_nat (by omega) (fun x hx => ?_) | refine draw_plain ?_ | refine auIx (fun x hx => ?_)); conv => whnf)
                  refine .mk [.frz 0 [22] [(4, 1)]] ?_
                  conv => whnf
                  repeat' first
                    | ((first | refine auIk ?_ | refine auIi ?_ | refine auT ?_ | refine auF ?_ | with_reducible first | refine auKt ?_ | refine auKf ?_ | refine auNt ?_ | refine auNf ?_ | refine auEt ?_ | refine auEf ?_); conv => whnf)
                    | ((with_reducible first | refine br_dec (fun h => ?_) (fun h => ?_) | refine br_ndec (fun h => ?_) (fun h => ?_) | refine br_ne (fun h => ?_) (fun h => ?_) | refine br_eq (fun h => ?_) (fun h => ?_)) <;> first | (exfalso; omega) | conv => whnf)
                    | (refine br_intro (fun h => ?_) (fun h => ?_) <;> conv => whnf)
                    | ((first | refine auNd ?_ | refine idx_nat (by omega) (fun x hx => ?_) | refine draw_plain ?_ | refine auIx (fun x hx => ?_)); conv => whnf)
                  refine .mk [.frz 1 [22] [(2, 1)]] ?_
                  conv => whnf
                  repeat' first
                    | ((first | refine auIk ?_ | refine auIi ?_ | refine auT ?_ | refine auF ?_ | with_reducible first | refine auKt ?_ | refine auKf ?_ | refine auNt ?_ | refine auNf ?_ | refine auEt ?_ | refine auEf ?_); conv => whnf)
                    | ((with_reducible first | refine br_dec (fun h => ?_) (fun h => ?_) | refine br_ndec (fun h => ?_) (fun h => ?_) | refine br_ne (fun h => ?_) (fun h => ?_) | refine br_eq (fun h => ?_) (fun h => ?_)) <;> first | (exfalso; omega) | conv => whnf)
                    | (refine br_intro (fun h => ?_) (fun h => ?_) <;> conv => whnf)
                    | ((first | refine auNd ?_ | refine idx_nat (by omega) (fun x hx => ?_) | refine frz_auto ?_ | refine draw_plain ?_ | refine auIx (fun x hx => ?_)); conv => whnf)
                  apply loop_same8 [] [21] (fun vs => ∃ i : Nat, vs = [.int .i64 (i : Int)] ∧ i ≤ F.length) (fun vs => match vs with | [.int _ k] => F.length - k.toNat | _ => 0)
                  conv => whnf
                  refine ⟨⟨⟨0, rfl, by omega⟩, rfl⟩, ?_⟩
                  rintro vs h' - ⟨⟨i, rfl, hi5⟩, rfl⟩
                  by_cases hil5 : i < F.length
                  · obtain ⟨x, hx⟩ : ∃ x, F[i]? = some x := ⟨_, List.getElem?_eq_getElem hil5⟩
                    obtain ⟨x', hx'⟩ : ∃ x, G[i]? = some x := ⟨_, List.getElem?_eq_getElem (by omega)⟩
                    have x1 : (ofR 3 (List.take n F)).2.1[i]? = some x := by rw [s1]; exact hx
                    have x2 : (ofR 3 (List.take m G)).2.1[i]? = some x' := by rw [s2]; exact hx'
                    obtain ⟨x3, x4⟩ := fork_at hY1 hY2 hc hx hx'
                    conv => whnf
                    repeat' first
                      | ((first | refine auIk ?_ | refine auIi ?_ | refine auT ?_ | refine auF ?_ | with_reducible first | refine auKt ?_ | refine auKf ?_ | refine auNt ?_ | refine auNf ?_ | refine auEt ?_ | refine auEf ?_); conv => whnf)
                      | ((with_reducible first | refine br_dec (fun h => ?_) (fun h => ?_) | refine br_ndec (fun h => ?_) (fun h => ?_) | refine br_ne (fun h => ?_) (fun h => ?_) | refine br_eq (fun h => ?_) (fun h => ?_)) <;> first | (exfalso; omega) | conv => whnf)
                      | (refine br_intro (fun h => ?_) (fun h => ?_) <;> conv => whnf)
                      | ((first | refine auNd ?_ | refine idx_nat (by omega) (fun x hx => ?_) | refine frz_auto ?_ | refine draw_plain ?_ | refine auIx (fun x hx => ?_)); conv => whnf)
                    refine back_intro (by conv => whnf) rfl ⟨⟨i + 1, rfl, by omega⟩, rfl⟩ ?_
                    show F.length - ((i : Int) + 1).toNat < F.length - (i : Int).toNat
                    omega
                  · have x5 := eqE_refl y
                    have x6 : (ofR 3 (List.take n F)).2.1[((c : Int) - 1).toNat]? = some y := by rw [s1]; exact fork_last hY1 hc hc1 hy
                    have x7 : (0 : Int) < (c : Int) := by omega
                    conv => whnf
                    repeat' first
                      | ((first | refine auIk ?_ | refine auIi ?_ | refine auT ?_ | refine auF ?_ | with_reducible first | refine auKt ?_ | refine auKf ?_ | refine auNt ?_ | refine auNf ?_ | refine auEt ?_ | refine auEf ?_); conv => whnf)
                      | ((with_reducible first | refine br_dec (fun h => ?_) (fun h => ?_) | refine br_ndec (fun h => ?_) (fun h => ?_) | refine br_ne (fun h => ?_) (fun h => ?_) | refine br_eq (fun h => ?_) (fun h => ?_)) <;> first | (exfalso; omega) | conv => whnf)
                      | (refine br_intro (fun h => ?_) (fun h => ?_) <;> conv => whnf)
                      | ((first | refine auNd ?_ | refine idx_nat (by omega) (fun x hx => ?_) | refine frz_auto ?_ | refine draw_plain ?_ | refine auIx (fun x hx => ?_)); conv => whnf)
end Go.Proofs.Ytkjoofinfhdcaaa
