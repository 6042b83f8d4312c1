/-
  Whether calls are more than are looked at.
  The law of plays.
  From a law's contract to its row: every argument reads behind the call as it read before.
-/
import Derived.Test.YtkjoofinfhdcaaaBu
import Derived.Test.YtkjoofinfhdcaaaB8
import Derived.Test.YtkjoofinfhdcaaaRows
import Derived.Test.YtkjoofinfhdcaaaE5
import Derived.ProofKit
namespace Go.Proofs.Ytkjoofinfhdcaaa
open Av Bk

abbrev caT : Ty := .st [.int .u8, entT, .int .i64]
def bigK (x : caT.El) : Bool := decide (100 < (x.2.1.1.size : Int)) || decide (100 < (x.2.1.2.1.size : Int))
def farL (l : List caT.El) : Bool := (l.take 70).any bigK || decide (60 < (l.length : Int))
def spFar : DSpec
 | [.lst (.st [.int .u8, .st [.str, .str, .bool, .int .i64], .int .i64]) l] => some (True, .bool (farL l))
 | _ => none
theorem farL_at {l : List caT.El} {i : Nat} {x : caT.El} (hx : l[i]? = some x) (hi : i < 70) (h : bigK x = true) : farL l = true := by
 unfold farL
 rw [Bool.or_eq_true]
 left
 rw [List.any_eq_true]
 exact ⟨x, List.mem_of_getElem? (i := i) (by rw [List.getElem?_take, if_pos hi]; exact hx), h⟩
theorem farL_end {l : List caT.El} {i : Nat} (hall : ∀ y ∈ l.take i, bigK y = false) (hi : l.length ≤ i ∨ i = 70) : farL l = decide (60 < (l.length : Int)) := by
 have : (l.take 70).any bigK = false := by
  rw [List.any_eq_false]
  intro y hy
  rw [hall y ?_]
  ·simp
  ·rcases hi with hi | rfl
   ·rw [List.take_of_length_le hi]
    exact List.mem_of_mem_take hy
   ·exact hy
 unfold farL
 rw [this]
 rfl
set_option maxRecDepth 100000 in
theorem fnOk_farC : FnOk Try.prog 24 Try.f24 := ⟨by rfl, by kernel_rfl, by
 show okCode _ _ = true ∧ drawsOk _ = true
 exact ⟨by kernel_rfl, by kernel_rfl⟩⟩
noncomputable def cxv : Cx := ⟨tb, [], []⟩
set_option maxRecDepth 100000 in
set_option maxHeartbeats 4000000 in
theorem farC_ok : SpecOk Try.prog 24 spFar := by
  refine spec_body (C := cxv) mixed tbOk SpecsOk.nil (callN_ok (C := cxv) mixed tbOk SpecsOk.nil FnsOk.nil 0) fnOk_farC ?_
  intro ys p r h hp
  unfold spFar at h
  split at h
  · rename_i l
    cases h
    conv => whnf
    repeat' first | ((first | refine auTq ?_ | refine auFq ?_ | refine auIk ?_ | refine auIi ?_ | refine auT ?_ | refine auF ?_ | with_reducible first | refine auKt ?_ | refine auKf ?_ | refine auNt ?_ | refine auNf ?_ | refine auEt ?_ | refine auEf ?_); conv => whnf) | ((with_reducible first | refine br_dec ?_ ?_ | refine br_ndec ?_ ?_ | refine br_ne ?_ ?_ | refine br_eq ?_ ?_) <;> intro h <;> first | (exfalso; omega) | conv => whnf) | (refine br_intro ?_ ?_ <;> intro h <;> conv => whnf) | ((first | refine auNd ?_ | refine idx_nat (by omega) (fun x hx => ?_) | refine frz_auto ?_ | refine draw_plain ?_ | refine auIx (fun x hx => ?_)); conv => whnf) | (refine both.mk ?_ ?_ <;> conv => whnf) | ((first | refine bx_idx ?_ | refine bx_intro (fun b hb => ?_)); conv => whnf)
    refine loop_inv [] [3] (fun vs h => ∃ i : Nat, vs = [.int .i64 (i : Int)] ∧ h = [] ∧ i ≤ l.length ∧ i ≤ 70 ∧ ∀ y ∈ l.take i, bigK y = false) (fun vs _ => match vs with | [.int _ k] => l.length - k.toNat | _ => 0) ?_
    conv => whnf
    refine ⟨⟨0, rfl, rfl, by omega, by omega, by simp⟩, ?_⟩
    rintro vs h' - ⟨i, rfl, rfl, hi, h70, hall⟩
    by_cases hil : i < l.length
    · obtain ⟨x, hx⟩ : ∃ x, l[i]? = some x := ⟨_, List.getElem?_eq_getElem hil⟩
      conv => whnf
      repeat' first | ((first | refine auTq ?_ | refine auFq ?_ | refine auIk ?_ | refine auIi ?_ | refine auT ?_ | refine auF ?_ | with_reducible first | refine auKt ?_ | refine auKf ?_ | refine auNt ?_ | refine auNf ?_ | refine auEt ?_ | refine auEf ?_); conv => whnf) | ((with_reducible first | refine br_dec ?_ ?_ | refine br_ndec ?_ ?_ | refine br_ne ?_ ?_ | refine br_eq ?_ ?_) <;> intro h <;> first | (exfalso; omega) | conv => whnf) | (refine br_intro ?_ ?_ <;> intro h <;> conv => whnf) | ((first | refine auNd ?_ | refine idx_nat (by omega) (fun x hx => ?_) | refine frz_auto ?_ | refine draw_plain ?_ | refine auIx (fun x hx => ?_)); conv => whnf) | (refine both.mk ?_ ?_ <;> conv => whnf) | ((first | refine bx_idx ?_ | refine bx_intro (fun b hb => ?_)); conv => whnf)

      all_goals first
        | (rw [farL_at hx (by omega) (by clear hall; simp [bigK]; omega)]; done)
        | (rw [farL_end hall (.inr (by omega))]; done)
        | (refine back_intro (by conv => whnf) rfl ⟨i + 1, rfl, rfl, by omega, by omega, take_succ_all hall hx (by clear hall; simp [bigK]; omega)⟩ ?_
           show l.length - ((i : Int) + 1).toNat < l.length - (i : Int).toNat
           omega)
    · conv => whnf
      repeat' first | ((first | refine auTq ?_ | refine auFq ?_ | refine auIk ?_ | refine auIi ?_ | refine auT ?_ | refine auF ?_ | with_reducible first | refine auKt ?_ | refine auKf ?_ | refine auNt ?_ | refine auNf ?_ | refine auEt ?_ | refine auEf ?_); conv => whnf) | ((with_reducible first | refine br_dec ?_ ?_ | refine br_ndec ?_ ?_ | refine br_ne ?_ ?_ | refine br_eq ?_ ?_) <;> intro h <;> first | (exfalso; omega) | conv => whnf) | (refine br_intro ?_ ?_ <;> intro h <;> conv => whnf) | ((first | refine auNd ?_ | refine idx_nat (by omega) (fun x hx => ?_) | refine frz_auto ?_ | refine draw_plain ?_ | refine auIx (fun x hx => ?_)); conv => whnf) | (refine both.mk ?_ ?_ <;> conv => whnf) | ((first | refine bx_idx ?_ | refine bx_intro (fun b hb => ?_)); conv => whnf)

      all_goals (rw [farL_end hall (.inl (by omega))])
  · cases h
end Go.Proofs.Ytkjoofinfhdcaaa
namespace Go.Proofs.Ytkjoofinfhdcaaa
open Av Bk

inductive InvB (i : Nat) (vs : List AV) (h : Hp) : Prop where
 | n1 (b1 : BM) (oB1 oA1 : AObj) (hv : vs = [.csl 18 1 1, .csl 19 1 1, .int .i64 (i : Int)]) (hh : h = [.arr 25 entT [] false 0, .resv, .resv, .resv, .resv, .resv, .resv, .resv, .resv, .resv, .resv, .resv, .resv, .resv, .resv, .resv, oB1, RO b1, .cells 34 [.ptr 16 0], .cells 50 [.ptr 17 0], oA1, .dead]) (w1 : BW b1) (r1 : BRel 20 oB1 oA1 b1) : InvB i vs h
 | n2 (c d : Nat) (b1 : BM) (oB1 oA1 : AObj) (b2 : BM) (oB2 oA2 : AObj) (hv : vs = [.csl 10 2 (2 + c), .csl 13 2 (2 + d), .int .i64 (i : Int)]) (hh : h = [.arr 25 entT [] false 0, oB2, oA2, .resv, .resv, .resv, .resv, RO b2, .resv, .resv, .cells 34 ([.ptr 16 0, .ptr 1 0] ++ List.replicate (c * 1) AV.any), .resv, .resv, .cells 50 ([.ptr 17 0, .ptr 7 0] ++ List.replicate (d * 1) AV.any), .resv, .resv, oB1, RO b1, .dead, .dead, oA1, .dead]) (w1 : BW b1) (r1 : BRel 20 oB1 oA1 b1) (w2 : BW b2) (r2 : BRel 2 oB2 oA2 b2) : InvB i vs h
 | n3 (c d : Nat) (b1 : BM) (oB1 oA1 : AObj) (b2 : BM) (oB2 oA2 : AObj) (b3 : BM) (oB3 oA3 : AObj) (hv : vs = [.csl 11 3 (3 + c), .csl 14 3 (3 + d), .int .i64 (i : Int)]) (hh : h = [.arr 25 entT [] false 0, oB2, oA2, oB3, oA3, .resv, .resv, RO b2, RO b3, .resv, .dead, .cells 34 ([.ptr 16 0, .ptr 1 0, .ptr 3 0] ++ List.replicate (c * 1) AV.any), .resv, .dead, .cells 50 ([.ptr 17 0, .ptr 7 0, .ptr 8 0] ++ List.replicate (d * 1) AV.any), .resv, oB1, RO b1, .dead, .dead, oA1, .dead]) (w1 : BW b1) (r1 : BRel 20 oB1 oA1 b1) (w2 : BW b2) (r2 : BRel 2 oB2 oA2 b2) (w3 : BW b3) (r3 : BRel 4 oB3 oA3 b3) : InvB i vs h
 | n4 (c d : Nat) (b1 : BM) (oB1 oA1 : AObj) (b2 : BM) (oB2 oA2 : AObj) (b3 : BM) (oB3 oA3 : AObj) (b4 : BM) (oB4 oA4 : AObj) (hv : vs = [.csl 12 4 (4 + c), .csl 15 4 (4 + d), .int .i64 (i : Int)]) (hh : h = [.arr 25 entT [] false 0, oB2, oA2, oB3, oA3, oB4, oA4, RO b2, RO b3, RO b4, .dead, .dead, .cells 34 ([.ptr 16 0, .ptr 1 0, .ptr 3 0, .ptr 5 0] ++ List.replicate (c * 1) AV.any), .dead, .dead, .cells 50 ([.ptr 17 0, .ptr 7 0, .ptr 8 0, .ptr 9 0] ++ List.replicate (d * 1) AV.any), oB1, RO b1, .dead, .dead, oA1, .dead]) (w1 : BW b1) (r1 : BRel 20 oB1 oA1 b1) (w2 : BW b2) (r2 : BRel 2 oB2 oA2 b2) (w3 : BW b3) (r3 : BRel 4 oB3 oA3 b3) (w4 : BW b4) (r4 : BRel 6 oB4 oA4 b4) : InvB i vs h
abbrev BB : Hp := [.arr 25 entT [] false 0, .resv, .resv, .resv, .resv, .resv, .resv, .resv, .resv, .resv, .resv, .resv, .resv, .resv, .resv, .resv]
theorem BB_no : NoBxR BB := by
 intro o ho
 rcases List.mem_cons.1 ho with rfl | ho
 ·exact .inr ⟨_, _, .inr rfl⟩
 ·exact .inl (List.eq_of_mem_replicate (n := 15) ho)
theorem bw_or {b b' : BM} {x : entT.El} {id : Int} (h : b' = b.addN x ∨ b' = b.sealN id ∨ b' = b) (hw : BW b) : BW b' := by
 rcases h with rfl | rfl | rfl
 ·exact bw_add hw x
 ·exact bw_seal hw id
 ·exact hw
theorem bw_new {m : Int} (h1 : 1 ≤ m) (h2 : m ≤ 5000) : BW ⟨m, [], false⟩ := ⟨h1, h2, by show (0 : Int) ≤ m; omega, okL8_nil⟩
theorem low_any (n L : Nat) : ∀ cs : List AV, (idsVs cs).all (fun n => Nat.blt n L) = true → (idsVs (cs ++ List.replicate n AV.any)).all (fun n => Nat.blt n L) = true
 | [], _ => by
  induction n with
  | zero => rfl
  | succ n ih => exact ih
 | c :: cs, h => by
  rw [List.cons_append]
  simp only [idsVs, List.all_append, Bool.and_eq_true] at h ⊢
  exact ⟨h.1, low_any n L cs h.2⟩
inductive LowAll (L : Nat) : Hp → Prop where
 | nil : LowAll L []
 | cons {o : AObj} {h : Hp} (h1 : lowO L o = true) (h2 : LowAll L h) : LowAll L (o :: h)
theorem cut_low {L : Nat} {vs : List AV} {h : Hp} (h1 : (idsVs vs).all (fun n => Nat.blt n L) = true) (h2 : LowAll L (h.take L)) : cutOk L vs h = true := by
 unfold cutOk
 rw [h1, Bool.true_and]
 generalize h.take L = t at h2
 induction h2 with
 | nil => rfl
 | cons h1 _ ih =>
  rw [List.all_cons, ih, Bool.and_true]
  exact h1
theorem seal_same {b : BM} (hw : BW b) (id : Int) : (!((b.sealR id).1 == (b.sealR id).1 && sameL entT (b.sealR id).2 (b.sealR id).2)) = false ∧ (b.sealE id == b.sealE id) = true ∧ (b.sealR id).2.length ≤ 4611686018427387904 :=
 ⟨by rw [beq_self_eq_true, same_refl]; rfl, beq_self_eq_true _, by have := sealR_len b id; have := hw.len; have := hw.hi; omega⟩
set_option maxRecDepth 100000 in
theorem fnOk_rNew6 : FnOk Try.prog 25 Try.f25 := ⟨by rfl, by kernel_rfl, by
 show okCode _ _ = true ∧ drawsOk _ = true
 exact ⟨by kernel_rfl, by kernel_rfl⟩⟩
set_option maxRecDepth 100000 in
theorem fnOk_lPb : FnOk Try.prog 7 Try.f7 := ⟨by rfl, by kernel_rfl, by
 show okCode _ _ = true ∧ drawsOk _ = true
 exact ⟨by kernel_rfl, by kernel_rfl⟩⟩
noncomputable def lPb_C : Cx := ⟨tb, [(16, Try.f16), (25, Try.f25)], [(10, .d spAwake), (24, .d spFar), (13, .d spRSame)]⟩
theorem lPb_D : SpecsOk Try.prog lPb_C.specs := .cons awake_ok (.cons farC_ok (.cons r6Same_ok .nil))
theorem lPb_F : FnsOk Try.prog lPb_C.fns := .cons fnOk_bNew (.cons fnOk_rNew6 .nil)
def lPb_L : List (FuncId × LocA) := [(26, dsA), (27, bFkA), (28, rFkA), (19, bSealA), (29, rSealA), (30, akA)]
theorem lPb_Lk : LocsOk Try.prog lPb_L := .cons does_ok (.cons bFk_ok (.cons rFk_ok (.cons bSeal_ok (.cons rSeal_ok (.cons ak_ok .nil)))))
abbrev lPb_T : List Ty := [.int .i64, .sl caT]
abbrev lPb_FN := fnOk_lPb
set_option maxRecDepth 100000 in
set_option maxHeartbeats 4000000 in
theorem lPb : ∀ es : Ty.Els lPb_T, tyOks lPb_T es → bodyA lPb_C (callM lPb_C lPb_L 2) Try.f7 (avTs lPb_T es) BB (fun v _ => v = .bool true) := by
 rintro ⟨most, l, _⟩ ⟨-, ⟨-, hty⟩, -⟩
 show bodyA _ _ _ [.int .i64 most, .lst caT l] BB _
 cases hF : farL l with
 | true =>
  conv => whnf
  repeat' first | ((first | refine auTq ?_ | refine auFq ?_ | refine auIk ?_ | refine auIi ?_ | refine auT ?_ | refine auF ?_ | with_reducible first | refine auKt ?_ | refine auKf ?_ | refine auNt ?_ | refine auNf ?_ | refine auEt ?_ | refine auEf ?_); conv => whnf) | ((with_reducible first | refine br_dec ?_ ?_ | refine br_ndec ?_ ?_ | refine br_ne ?_ ?_ | refine br_eq ?_ ?_) <;> intro h <;> first | (exfalso; omega) | conv => whnf) | (refine br_intro ?_ ?_ <;> intro h <;> conv => whnf) | ((first | refine auNd ?_ | refine idx_nat (by omega) (fun x hx => ?_) | refine frz_auto ?_ | refine draw_plain ?_ | refine auIx (fun x hx => ?_)); conv => whnf) | (refine both.mk ?_ ?_ <;> conv => whnf) | ((first | refine bx_idx ?_ | refine bx_intro (fun b hb => ?_)); conv => whnf)
 | false =>
  have hlen : l.length ≤ 60 := by
   unfold farL at hF
   rw [Bool.or_eq_false_iff] at hF
   have := of_decide_eq_false hF.2
   omega
  by_cases hm : 1 ≤ (most : Int) ∧ (most : Int) ≤ 5000
  ·obtain ⟨hm1, hm2⟩ := hm
   conv => whnf
   repeat' first | ((first | refine auTq ?_ | refine auFq ?_ | refine auIk ?_ | refine auIi ?_ | refine auT ?_ | refine auF ?_ | with_reducible first | refine auKt ?_ | refine auKf ?_ | refine auNt ?_ | refine auNf ?_ | refine auEt ?_ | refine auEf ?_); conv => whnf) | ((with_reducible first | refine br_dec ?_ ?_ | refine br_ndec ?_ ?_ | refine br_ne ?_ ?_ | refine br_eq ?_ ?_) <;> intro h <;> first | (exfalso; omega) | conv => whnf) | (refine br_intro ?_ ?_ <;> intro h <;> conv => whnf) | ((first | refine auNd ?_ | refine idx_nat (by omega) (fun x hx => ?_) | refine frz_auto ?_ | refine draw_plain ?_ | refine auIx (fun x hx => ?_)); conv => whnf) | (refine both.mk ?_ ?_ <;> conv => whnf) | ((first | refine bx_idx ?_ | refine bx_intro (fun b hb => ?_)); conv => whnf)
   refine loop_inv [.cell 16 1 25 entT, .cell 17 1 25 entT, .frz 21 [] [(17, 1)]] [9, 10, 11] (fun vs h => ∃ i : Nat, i ≤ l.length ∧ InvB i vs h) (fun vs _ => match vs with | [_, _, .int _ k] => l.length - k.toNat | _ => 0) ?_
   conv => whnf
   repeat' first | ((first | refine auTq ?_ | refine auFq ?_ | refine auIk ?_ | refine auIi ?_ | refine auT ?_ | refine auF ?_ | with_reducible first | refine auKt ?_ | refine auKf ?_ | refine auNt ?_ | refine auNf ?_ | refine auEt ?_ | refine auEf ?_); conv => whnf) | ((with_reducible first | refine br_dec ?_ ?_ | refine br_ndec ?_ ?_ | refine br_ne ?_ ?_ | refine br_eq ?_ ?_) <;> intro h <;> first | (exfalso; omega) | conv => whnf) | (refine br_intro ?_ ?_ <;> intro h <;> conv => whnf) | ((first | refine auNd ?_ | refine idx_nat (by omega) (fun x hx => ?_) | refine frz_auto ?_ | refine draw_plain ?_ | refine auIx (fun x hx => ?_)); conv => whnf) | (refine both.mk ?_ ?_ <;> conv => whnf) | ((first | refine bx_idx ?_ | refine bx_intro (fun b hb => ?_)); conv => whnf)
   refine ⟨⟨0, Nat.zero_le _, .n1 ⟨most, [], false⟩ _ _ rfl rfl (bw_new hm1 hm2) (.own 0 rfl rfl)⟩, ?_⟩
   rintro vs h' - ⟨i, hi, hI⟩
   rcases hI with ⟨b1, oB1, oA1, rfl, rfl, w1, r1⟩ | ⟨c, d, b1, oB1, oA1, b2, oB2, oA2, rfl, rfl, w1, r1, w2, r2⟩ | ⟨c, d, b1, oB1, oA1, b2, oB2, oA2, b3, oB3, oA3, rfl, rfl, w1, r1, w2, r2, w3, r3⟩ | ⟨c, d, b1, oB1, oA1, b2, oB2, oA2, b3, oB3, oA3, b4, oB4, oA4, rfl, rfl, w1, r1, w2, r2, w3, r3, w4, r4⟩
   ·by_cases hil : i < l.length
    ·obtain ⟨x, hx⟩ : ∃ x, l[i]? = some x := ⟨_, List.getElem?_eq_getElem hil⟩
     have hwh : 0 ≤ (x.1 : Int) ∧ (x.1 : Int) ≤ 255 := (hty x (List.mem_of_getElem? hx)).1
     conv => whnf
     repeat' first | ((first | refine auTq ?_ | refine auFq ?_ | refine auIk ?_ | refine auIi ?_ | refine auT ?_ | refine auF ?_ | with_reducible first | refine auKt ?_ | refine auKf ?_ | refine auNt ?_ | refine auNf ?_ | refine auEt ?_ | refine auEf ?_); conv => whnf) | ((with_reducible first | refine br_dec ?_ ?_ | refine br_ndec ?_ ?_ | refine br_ne ?_ ?_ | refine br_eq ?_ ?_) <;> intro h <;> first | (exfalso; omega) | conv => whnf) | (refine br_intro ?_ ?_ <;> intro h <;> conv => whnf) | ((first | refine auNd ?_ | refine idx_nat (by omega) (fun x hx => ?_) | refine frz_auto ?_ | refine draw_plain ?_ | refine auIx (fun x hx => ?_)); conv => whnf) | (refine both.mk ?_ ?_ <;> conv => whnf) | ((first | refine bx_idx ?_ | refine bx_intro (fun b hb => ?_)); conv => whnf)
     refine loop_turns 2 ?_
     conv => whnf
     repeat' first | ((first | refine auTq ?_ | refine auFq ?_ | first | (refine frP.nk [16, 20, 17] ?_; (conv => whnf); refine dsP.mk b1 x.2.1 x.1 x.2.2.1 _ _ rfl rfl w1 hwh (r1.ren (by rfl)) ?_; rintro c1 oC1 oD1 hb1 q1) | (refine need_in ⟨hwh.1, by decide⟩ ?_) | (refine frP.nk [16, 20, 1, 2] ?_; (conv => whnf); refine bFkP.mk c1 _ _ rfl rfl (bw_or hb1 w1) ((q1.ren (by rfl)).ren (by rfl)) ?_; rintro oE1 oE2 oE3 oE4 e1 e2) | (refine frP.mk [17, 7] ?_; (conv => whnf); refine rFkP.mk c1 rfl rfl (bw_or hb1 w1) ?_) | (refine need_in ⟨by simp <;> omega, by omega, by simp, by omega, ⟨by decide, by decide⟩⟩ ?_) | (refine apnP.mk (e := 34) 10 rfl ?_; intro k1) | (refine apnP.mk (e := 50) 13 rfl ?_; intro k2) | refine auIk ?_ | refine auIi ?_ | refine auT ?_ | refine auF ?_ | with_reducible first | refine auKt ?_ | refine auKf ?_ | refine auNt ?_ | refine auNf ?_ | refine auEt ?_ | refine auEf ?_); conv => whnf) | ((with_reducible first | refine br_dec ?_ ?_ | refine br_ndec ?_ ?_ | refine br_ne ?_ ?_ | refine br_eq ?_ ?_) <;> intro h <;> first | (exfalso; omega) | conv => whnf) | (refine br_intro ?_ ?_ <;> intro h <;> conv => whnf) | ((first | refine auNd ?_ | refine idx_nat (by omega) (fun x hx => ?_) | refine frz_auto ?_ | refine draw_plain ?_ | refine auIx (fun x hx => ?_)); conv => whnf) | (refine both.mk ?_ ?_ <;> conv => whnf) | ((first | refine bx_idx ?_ | refine bx_intro (fun b hb => ?_)); conv => whnf)
     all_goals first
      | (refine back_intro (by conv => whnf) (by (refine cut_low (by rfl) ?_; repeat (first | exact .nil | (refine .cons (by first | rfl | exact ((q1.ren (by rfl)).low (by rfl)).1 | exact ((q1.ren (by rfl)).low (by rfl)).2) ?_)))) ⟨i + 1, by omega, .n1 c1 _ _ rfl rfl (bw_or hb1 w1) (q1.ren (by rfl))⟩ ?_; show l.length - ((i : Int) + 1).toNat < l.length - (i : Int).toNat; omega)
      | (refine back_intro (by conv => whnf) (by (refine cut_low (by rfl) ?_; repeat (first | exact .nil | (refine .cons (by first | rfl | exact ((e1.ren (by rfl)).low (by rfl)).1 | exact ((e1.ren (by rfl)).low (by rfl)).2 | exact ((e2.ren (by rfl)).low (by rfl)).1 | exact ((e2.ren (by rfl)).low (by rfl)).2 | exact low_any _ _ [.ptr 16 0, .ptr 1 0] rfl | exact low_any _ _ [.ptr 17 0, .ptr 7 0] rfl) ?_)))) ⟨i + 1, by omega, .n2 k1 k2 c1 _ _ c1 _ _ rfl rfl (bw_or hb1 w1) (e1.ren (by rfl)) (bw_or hb1 w1) (e2.ren (by rfl))⟩ ?_; show l.length - ((i : Int) + 1).toNat < l.length - (i : Int).toNat; omega)
    ·obtain ⟨ss1, se1, sl1⟩ := seal_same w1 1
     conv => whnf
     repeat' first | ((first | refine auTq ?_ | refine auFq ?_ | refine auIk ?_ | refine auIi ?_ | refine auT ?_ | refine auF ?_ | with_reducible first | refine auKt ?_ | refine auKf ?_ | refine auNt ?_ | refine auNf ?_ | refine auEt ?_ | refine auEf ?_); conv => whnf) | ((with_reducible first | refine br_dec ?_ ?_ | refine br_ndec ?_ ?_ | refine br_ne ?_ ?_ | refine br_eq ?_ ?_) <;> intro h <;> first | (exfalso; omega) | conv => whnf) | (refine br_intro ?_ ?_ <;> intro h <;> conv => whnf) | ((first | refine auNd ?_ | refine idx_nat (by omega) (fun x hx => ?_) | refine frz_auto ?_ | refine draw_plain ?_ | refine auIx (fun x hx => ?_)); conv => whnf) | (refine both.mk ?_ ?_ <;> conv => whnf) | ((first | refine bx_idx ?_ | refine bx_intro (fun b hb => ?_)); conv => whnf)
     refine loop_turns 2 ?_
     conv => whnf
     repeat' first | ((first | refine auTq ?_ | refine auFq ?_ | first | (refine frP.nk [16, 20] ?_; (conv => whnf); refine ⟨1, bP.mk b1 _ _ rfl rfl w1 (r1.ren (by rfl)) ?_⟩; rintro oS1 oT1 s1) | (refine frP.mk [17] ?_; (conv => whnf); refine ⟨1, rP.mk b1 rfl rfl w1 ?_⟩) | (refine frP.nk [16, 20, 17] ?_; (conv => whnf); refine akP.mk (b1.sealN 1) _ _ rfl rfl (bw_seal w1 1) ((s1.ren (by rfl)).ren (by rfl)) ?_; rintro oU1 oV1 u1) | refine auIk ?_ | refine auIi ?_ | refine auT ?_ | refine auF ?_ | with_reducible first | refine auKt ?_ | refine auKf ?_ | refine auNt ?_ | refine auNf ?_ | refine auEt ?_ | refine auEf ?_); conv => whnf) | ((with_reducible first | refine br_dec ?_ ?_ | refine br_ndec ?_ ?_ | refine br_ne ?_ ?_ | refine br_eq ?_ ?_) <;> intro h <;> first | (exfalso; omega) | conv => whnf) | (refine br_intro ?_ ?_ <;> intro h <;> conv => whnf) | ((first | refine auNd ?_ | refine idx_nat (by omega) (fun x hx => ?_) | refine frz_auto ?_ | refine draw_plain ?_ | refine auIx (fun x hx => ?_)); conv => whnf) | (refine both.mk ?_ ?_ <;> conv => whnf) | ((first | refine bx_idx ?_ | refine bx_intro (fun b hb => ?_)); conv => whnf)
   ·by_cases hil : i < l.length
    ·obtain ⟨x, hx⟩ : ∃ x, l[i]? = some x := ⟨_, List.getElem?_eq_getElem hil⟩
     have hwh : 0 ≤ (x.1 : Int) ∧ (x.1 : Int) ≤ 255 := (hty x (List.mem_of_getElem? hx)).1
     conv => whnf
     repeat' first | ((first | refine auTq ?_ | refine auFq ?_ | refine auIk ?_ | refine auIi ?_ | refine auT ?_ | refine auF ?_ | with_reducible first | refine auKt ?_ | refine auKf ?_ | refine auNt ?_ | refine auNf ?_ | refine auEt ?_ | refine auEf ?_); conv => whnf) | ((with_reducible first | refine br_dec ?_ ?_ | refine br_ndec ?_ ?_ | refine br_ne ?_ ?_ | refine br_eq ?_ ?_) <;> intro h <;> first | (exfalso; omega) | conv => whnf) | (refine br_intro ?_ ?_ <;> intro h <;> conv => whnf) | ((first | refine auNd ?_ | refine idx_nat (by omega) (fun x hx => ?_) | refine frz_auto ?_ | refine draw_plain ?_ | refine auIx (fun x hx => ?_)); conv => whnf) | (refine both.mk ?_ ?_ <;> conv => whnf) | ((first | refine bx_idx ?_ | refine bx_intro (fun b hb => ?_)); conv => whnf)
     refine loop_turns 3 ?_
     conv => whnf
     repeat' first | ((first | refine auTq ?_ | refine auFq ?_ | first | (refine frP.nk [16, 20, 17] ?_; (conv => whnf); refine dsP.mk b1 x.2.1 x.1 x.2.2.1 _ _ rfl rfl w1 hwh (r1.ren (by rfl)) ?_; rintro c1 oC1 oD1 hb1 q1) | (refine frP.nk [1, 2, 7] ?_; (conv => whnf); refine dsP.mk b2 x.2.1 x.1 x.2.2.1 _ _ rfl rfl w2 hwh (r2.ren (by rfl)) ?_; rintro c2 oC2 oD2 hb2 q2) | (refine need_in ⟨hwh.1, by decide⟩ ?_) | (refine frP.nk [1, 2, 3, 4] ?_; (conv => whnf); refine bFkP.mk c2 _ _ rfl rfl (bw_or hb2 w2) ((q2.ren (by rfl)).ren (by rfl)) ?_; rintro oE1 oE2 oE3 oE4 e1 e2) | (refine frP.mk [7, 8] ?_; (conv => whnf); refine rFkP.mk c2 rfl rfl (bw_or hb2 w2) ?_) | (refine need_in ⟨by simp <;> omega, by omega, by simp, by omega, ⟨by decide, by decide⟩⟩ ?_) | (refine apnP.mk (e := 34) 11 rfl ?_; intro k1) | (refine apnP.mk (e := 50) 14 rfl ?_; intro k2) | refine auIk ?_ | refine auIi ?_ | refine auT ?_ | refine auF ?_ | with_reducible first | refine auKt ?_ | refine auKf ?_ | refine auNt ?_ | refine auNf ?_ | refine auEt ?_ | refine auEf ?_); conv => whnf) | ((with_reducible first | refine br_dec ?_ ?_ | refine br_ndec ?_ ?_ | refine br_ne ?_ ?_ | refine br_eq ?_ ?_) <;> intro h <;> first | (exfalso; omega) | conv => whnf) | (refine br_intro ?_ ?_ <;> intro h <;> conv => whnf) | ((first | refine auNd ?_ | refine idx_nat (by omega) (fun x hx => ?_) | refine frz_auto ?_ | refine draw_plain ?_ | refine auIx (fun x hx => ?_)); conv => whnf) | (refine both.mk ?_ ?_ <;> conv => whnf) | ((first | refine bx_idx ?_ | refine bx_intro (fun b hb => ?_)); conv => whnf)
     all_goals first
      | (refine back_intro (by conv => whnf) (by (refine cut_low (by rfl) ?_; repeat (first | exact .nil | (refine .cons (by first | rfl | exact ((q1.ren (by rfl)).low (by rfl)).1 | exact ((q1.ren (by rfl)).low (by rfl)).2 | exact ((q2.ren (by rfl)).low (by rfl)).1 | exact ((q2.ren (by rfl)).low (by rfl)).2 | exact low_any _ _ [.ptr 16 0, .ptr 1 0] rfl | exact low_any _ _ [.ptr 17 0, .ptr 7 0] rfl) ?_)))) ⟨i + 1, by omega, .n2 c d c1 _ _ c2 _ _ rfl rfl (bw_or hb1 w1) (q1.ren (by rfl)) (bw_or hb2 w2) (q2.ren (by rfl))⟩ ?_; show l.length - ((i : Int) + 1).toNat < l.length - (i : Int).toNat; omega)
      | (refine back_intro (by conv => whnf) (by (refine cut_low (by rfl) ?_; repeat (first | exact .nil | (refine .cons (by first | rfl | exact ((q1.ren (by rfl)).low (by rfl)).1 | exact ((q1.ren (by rfl)).low (by rfl)).2 | exact ((e1.ren (by rfl)).low (by rfl)).1 | exact ((e1.ren (by rfl)).low (by rfl)).2 | exact ((e2.ren (by rfl)).low (by rfl)).1 | exact ((e2.ren (by rfl)).low (by rfl)).2 | exact low_any _ _ [.ptr 16 0, .ptr 1 0, .ptr 3 0] rfl | exact low_any _ _ [.ptr 17 0, .ptr 7 0, .ptr 8 0] rfl) ?_)))) ⟨i + 1, by omega, .n3 k1 k2 c1 _ _ c2 _ _ c2 _ _ rfl rfl (bw_or hb1 w1) (q1.ren (by rfl)) (bw_or hb2 w2) (e1.ren (by rfl)) (bw_or hb2 w2) (e2.ren (by rfl))⟩ ?_; show l.length - ((i : Int) + 1).toNat < l.length - (i : Int).toNat; omega)
    ·obtain ⟨ss1, se1, sl1⟩ := seal_same w1 1
     obtain ⟨ss2, se2, sl2⟩ := seal_same w2 1
     conv => whnf
     repeat' first | ((first | refine auTq ?_ | refine auFq ?_ | refine auIk ?_ | refine auIi ?_ | refine auT ?_ | refine auF ?_ | with_reducible first | refine auKt ?_ | refine auKf ?_ | refine auNt ?_ | refine auNf ?_ | refine auEt ?_ | refine auEf ?_); conv => whnf) | ((with_reducible first | refine br_dec ?_ ?_ | refine br_ndec ?_ ?_ | refine br_ne ?_ ?_ | refine br_eq ?_ ?_) <;> intro h <;> first | (exfalso; omega) | conv => whnf) | (refine br_intro ?_ ?_ <;> intro h <;> conv => whnf) | ((first | refine auNd ?_ | refine idx_nat (by omega) (fun x hx => ?_) | refine frz_auto ?_ | refine draw_plain ?_ | refine auIx (fun x hx => ?_)); conv => whnf) | (refine both.mk ?_ ?_ <;> conv => whnf) | ((first | refine bx_idx ?_ | refine bx_intro (fun b hb => ?_)); conv => whnf)
     refine loop_turns 3 ?_
     conv => whnf
     repeat' first | ((first | refine auTq ?_ | refine auFq ?_ | first | (refine frP.nk [16, 20] ?_; (conv => whnf); refine ⟨1, bP.mk b1 _ _ rfl rfl w1 (r1.ren (by rfl)) ?_⟩; rintro oS1 oT1 s1) | (refine frP.mk [17] ?_; (conv => whnf); refine ⟨1, rP.mk b1 rfl rfl w1 ?_⟩) | (refine frP.nk [16, 20, 17] ?_; (conv => whnf); refine akP.mk (b1.sealN 1) _ _ rfl rfl (bw_seal w1 1) ((s1.ren (by rfl)).ren (by rfl)) ?_; rintro oU1 oV1 u1) | (refine frP.nk [1, 2] ?_; (conv => whnf); refine ⟨1, bP.mk b2 _ _ rfl rfl w2 (r2.ren (by rfl)) ?_⟩; rintro oS2 oT2 s2) | (refine frP.mk [7] ?_; (conv => whnf); refine ⟨1, rP.mk b2 rfl rfl w2 ?_⟩) | (refine frP.nk [1, 2, 7] ?_; (conv => whnf); refine akP.mk (b2.sealN 1) _ _ rfl rfl (bw_seal w2 1) ((s2.ren (by rfl)).ren (by rfl)) ?_; rintro oU2 oV2 u2) | refine auIk ?_ | refine auIi ?_ | refine auT ?_ | refine auF ?_ | with_reducible first | refine auKt ?_ | refine auKf ?_ | refine auNt ?_ | refine auNf ?_ | refine auEt ?_ | refine auEf ?_); conv => whnf) | ((with_reducible first | refine br_dec ?_ ?_ | refine br_ndec ?_ ?_ | refine br_ne ?_ ?_ | refine br_eq ?_ ?_) <;> intro h <;> first | (exfalso; omega) | conv => whnf) | (refine br_intro ?_ ?_ <;> intro h <;> conv => whnf) | ((first | refine auNd ?_ | refine idx_nat (by omega) (fun x hx => ?_) | refine frz_auto ?_ | refine draw_plain ?_ | refine auIx (fun x hx => ?_)); conv => whnf) | (refine both.mk ?_ ?_ <;> conv => whnf) | ((first | refine bx_idx ?_ | refine bx_intro (fun b hb => ?_)); conv => whnf)
   ·by_cases hil : i < l.length
    ·obtain ⟨x, hx⟩ : ∃ x, l[i]? = some x := ⟨_, List.getElem?_eq_getElem hil⟩
     have hwh : 0 ≤ (x.1 : Int) ∧ (x.1 : Int) ≤ 255 := (hty x (List.mem_of_getElem? hx)).1
     conv => whnf
     repeat' first | ((first | refine auTq ?_ | refine auFq ?_ | refine auIk ?_ | refine auIi ?_ | refine auT ?_ | refine auF ?_ | with_reducible first | refine auKt ?_ | refine auKf ?_ | refine auNt ?_ | refine auNf ?_ | refine auEt ?_ | refine auEf ?_); conv => whnf) | ((with_reducible first | refine br_dec ?_ ?_ | refine br_ndec ?_ ?_ | refine br_ne ?_ ?_ | refine br_eq ?_ ?_) <;> intro h <;> first | (exfalso; omega) | conv => whnf) | (refine br_intro ?_ ?_ <;> intro h <;> conv => whnf) | ((first | refine auNd ?_ | refine idx_nat (by omega) (fun x hx => ?_) | refine frz_auto ?_ | refine draw_plain ?_ | refine auIx (fun x hx => ?_)); conv => whnf) | (refine both.mk ?_ ?_ <;> conv => whnf) | ((first | refine bx_idx ?_ | refine bx_intro (fun b hb => ?_)); conv => whnf)
     refine loop_turns 4 ?_
     conv => whnf
     repeat' first | ((first | refine auTq ?_ | refine auFq ?_ | first | (refine frP.nk [16, 20, 17] ?_; (conv => whnf); refine dsP.mk b1 x.2.1 x.1 x.2.2.1 _ _ rfl rfl w1 hwh (r1.ren (by rfl)) ?_; rintro c1 oC1 oD1 hb1 q1) | (refine frP.nk [1, 2, 7] ?_; (conv => whnf); refine dsP.mk b2 x.2.1 x.1 x.2.2.1 _ _ rfl rfl w2 hwh (r2.ren (by rfl)) ?_; rintro c2 oC2 oD2 hb2 q2) | (refine frP.nk [3, 4, 8] ?_; (conv => whnf); refine dsP.mk b3 x.2.1 x.1 x.2.2.1 _ _ rfl rfl w3 hwh (r3.ren (by rfl)) ?_; rintro c3 oC3 oD3 hb3 q3) | (refine need_in ⟨hwh.1, by decide⟩ ?_) | (refine frP.nk [3, 4, 5, 6] ?_; (conv => whnf); refine bFkP.mk c3 _ _ rfl rfl (bw_or hb3 w3) ((q3.ren (by rfl)).ren (by rfl)) ?_; rintro oE1 oE2 oE3 oE4 e1 e2) | (refine frP.mk [8, 9] ?_; (conv => whnf); refine rFkP.mk c3 rfl rfl (bw_or hb3 w3) ?_) | (refine need_in ⟨by simp <;> omega, by omega, by simp, by omega, ⟨by decide, by decide⟩⟩ ?_) | (refine apnP.mk (e := 34) 12 rfl ?_; intro k1) | (refine apnP.mk (e := 50) 15 rfl ?_; intro k2) | refine auIk ?_ | refine auIi ?_ | refine auT ?_ | refine auF ?_ | with_reducible first | refine auKt ?_ | refine auKf ?_ | refine auNt ?_ | refine auNf ?_ | refine auEt ?_ | refine auEf ?_); conv => whnf) | ((with_reducible first | refine br_dec ?_ ?_ | refine br_ndec ?_ ?_ | refine br_ne ?_ ?_ | refine br_eq ?_ ?_) <;> intro h <;> first | (exfalso; omega) | conv => whnf) | (refine br_intro ?_ ?_ <;> intro h <;> conv => whnf) | ((first | refine auNd ?_ | refine idx_nat (by omega) (fun x hx => ?_) | refine frz_auto ?_ | refine draw_plain ?_ | refine auIx (fun x hx => ?_)); conv => whnf) | (refine both.mk ?_ ?_ <;> conv => whnf) | ((first | refine bx_idx ?_ | refine bx_intro (fun b hb => ?_)); conv => whnf)
     all_goals first
      | (refine back_intro (by conv => whnf) (by (refine cut_low (by rfl) ?_; repeat (first | exact .nil | (refine .cons (by first | rfl | exact ((q1.ren (by rfl)).low (by rfl)).1 | exact ((q1.ren (by rfl)).low (by rfl)).2 | exact ((q2.ren (by rfl)).low (by rfl)).1 | exact ((q2.ren (by rfl)).low (by rfl)).2 | exact ((q3.ren (by rfl)).low (by rfl)).1 | exact ((q3.ren (by rfl)).low (by rfl)).2 | exact low_any _ _ [.ptr 16 0, .ptr 1 0, .ptr 3 0] rfl | exact low_any _ _ [.ptr 17 0, .ptr 7 0, .ptr 8 0] rfl) ?_)))) ⟨i + 1, by omega, .n3 c d c1 _ _ c2 _ _ c3 _ _ rfl rfl (bw_or hb1 w1) (q1.ren (by rfl)) (bw_or hb2 w2) (q2.ren (by rfl)) (bw_or hb3 w3) (q3.ren (by rfl))⟩ ?_; show l.length - ((i : Int) + 1).toNat < l.length - (i : Int).toNat; omega)
      | (refine back_intro (by conv => whnf) (by (refine cut_low (by rfl) ?_; repeat (first | exact .nil | (refine .cons (by first | rfl | exact ((q1.ren (by rfl)).low (by rfl)).1 | exact ((q1.ren (by rfl)).low (by rfl)).2 | exact ((q2.ren (by rfl)).low (by rfl)).1 | exact ((q2.ren (by rfl)).low (by rfl)).2 | exact ((e1.ren (by rfl)).low (by rfl)).1 | exact ((e1.ren (by rfl)).low (by rfl)).2 | exact ((e2.ren (by rfl)).low (by rfl)).1 | exact ((e2.ren (by rfl)).low (by rfl)).2 | exact low_any _ _ [.ptr 16 0, .ptr 1 0, .ptr 3 0, .ptr 5 0] rfl | exact low_any _ _ [.ptr 17 0, .ptr 7 0, .ptr 8 0, .ptr 9 0] rfl) ?_)))) ⟨i + 1, by omega, .n4 k1 k2 c1 _ _ c2 _ _ c3 _ _ c3 _ _ rfl rfl (bw_or hb1 w1) (q1.ren (by rfl)) (bw_or hb2 w2) (q2.ren (by rfl)) (bw_or hb3 w3) (e1.ren (by rfl)) (bw_or hb3 w3) (e2.ren (by rfl))⟩ ?_; show l.length - ((i : Int) + 1).toNat < l.length - (i : Int).toNat; omega)
    ·obtain ⟨ss1, se1, sl1⟩ := seal_same w1 1
     obtain ⟨ss2, se2, sl2⟩ := seal_same w2 1
     obtain ⟨ss3, se3, sl3⟩ := seal_same w3 1
     conv => whnf
     repeat' first | ((first | refine auTq ?_ | refine auFq ?_ | refine auIk ?_ | refine auIi ?_ | refine auT ?_ | refine auF ?_ | with_reducible first | refine auKt ?_ | refine auKf ?_ | refine auNt ?_ | refine auNf ?_ | refine auEt ?_ | refine auEf ?_); conv => whnf) | ((with_reducible first | refine br_dec ?_ ?_ | refine br_ndec ?_ ?_ | refine br_ne ?_ ?_ | refine br_eq ?_ ?_) <;> intro h <;> first | (exfalso; omega) | conv => whnf) | (refine br_intro ?_ ?_ <;> intro h <;> conv => whnf) | ((first | refine auNd ?_ | refine idx_nat (by omega) (fun x hx => ?_) | refine frz_auto ?_ | refine draw_plain ?_ | refine auIx (fun x hx => ?_)); conv => whnf) | (refine both.mk ?_ ?_ <;> conv => whnf) | ((first | refine bx_idx ?_ | refine bx_intro (fun b hb => ?_)); conv => whnf)
     refine loop_turns 4 ?_
     conv => whnf
     repeat' first | ((first | refine auTq ?_ | refine auFq ?_ | first | (refine frP.nk [16, 20] ?_; (conv => whnf); refine ⟨1, bP.mk b1 _ _ rfl rfl w1 (r1.ren (by rfl)) ?_⟩; rintro oS1 oT1 s1) | (refine frP.mk [17] ?_; (conv => whnf); refine ⟨1, rP.mk b1 rfl rfl w1 ?_⟩) | (refine frP.nk [16, 20, 17] ?_; (conv => whnf); refine akP.mk (b1.sealN 1) _ _ rfl rfl (bw_seal w1 1) ((s1.ren (by rfl)).ren (by rfl)) ?_; rintro oU1 oV1 u1) | (refine frP.nk [1, 2] ?_; (conv => whnf); refine ⟨1, bP.mk b2 _ _ rfl rfl w2 (r2.ren (by rfl)) ?_⟩; rintro oS2 oT2 s2) | (refine frP.mk [7] ?_; (conv => whnf); refine ⟨1, rP.mk b2 rfl rfl w2 ?_⟩) | (refine frP.nk [1, 2, 7] ?_; (conv => whnf); refine akP.mk (b2.sealN 1) _ _ rfl rfl (bw_seal w2 1) ((s2.ren (by rfl)).ren (by rfl)) ?_; rintro oU2 oV2 u2) | (refine frP.nk [3, 4] ?_; (conv => whnf); refine ⟨1, bP.mk b3 _ _ rfl rfl w3 (r3.ren (by rfl)) ?_⟩; rintro oS3 oT3 s3) | (refine frP.mk [8] ?_; (conv => whnf); refine ⟨1, rP.mk b3 rfl rfl w3 ?_⟩) | (refine frP.nk [3, 4, 8] ?_; (conv => whnf); refine akP.mk (b3.sealN 1) _ _ rfl rfl (bw_seal w3 1) ((s3.ren (by rfl)).ren (by rfl)) ?_; rintro oU3 oV3 u3) | refine auIk ?_ | refine auIi ?_ | refine auT ?_ | refine auF ?_ | with_reducible first | refine auKt ?_ | refine auKf ?_ | refine auNt ?_ | refine auNf ?_ | refine auEt ?_ | refine auEf ?_); conv => whnf) | ((with_reducible first | refine br_dec ?_ ?_ | refine br_ndec ?_ ?_ | refine br_ne ?_ ?_ | refine br_eq ?_ ?_) <;> intro h <;> first | (exfalso; omega) | conv => whnf) | (refine br_intro ?_ ?_ <;> intro h <;> conv => whnf) | ((first | refine auNd ?_ | refine idx_nat (by omega) (fun x hx => ?_) | refine frz_auto ?_ | refine draw_plain ?_ | refine auIx (fun x hx => ?_)); conv => whnf) | (refine both.mk ?_ ?_ <;> conv => whnf) | ((first | refine bx_idx ?_ | refine bx_intro (fun b hb => ?_)); conv => whnf)
   ·by_cases hil : i < l.length
    ·obtain ⟨x, hx⟩ : ∃ x, l[i]? = some x := ⟨_, List.getElem?_eq_getElem hil⟩
     have hwh : 0 ≤ (x.1 : Int) ∧ (x.1 : Int) ≤ 255 := (hty x (List.mem_of_getElem? hx)).1
     conv => whnf
     repeat' first | ((first | refine auTq ?_ | refine auFq ?_ | refine auIk ?_ | refine auIi ?_ | refine auT ?_ | refine auF ?_ | with_reducible first | refine auKt ?_ | refine auKf ?_ | refine auNt ?_ | refine auNf ?_ | refine auEt ?_ | refine auEf ?_); conv => whnf) | ((with_reducible first | refine br_dec ?_ ?_ | refine br_ndec ?_ ?_ | refine br_ne ?_ ?_ | refine br_eq ?_ ?_) <;> intro h <;> first | (exfalso; omega) | conv => whnf) | (refine br_intro ?_ ?_ <;> intro h <;> conv => whnf) | ((first | refine auNd ?_ | refine idx_nat (by omega) (fun x hx => ?_) | refine frz_auto ?_ | refine draw_plain ?_ | refine auIx (fun x hx => ?_)); conv => whnf) | (refine both.mk ?_ ?_ <;> conv => whnf) | ((first | refine bx_idx ?_ | refine bx_intro (fun b hb => ?_)); conv => whnf)
     refine loop_turns 5 ?_
     conv => whnf
     repeat' first | ((first | refine auTq ?_ | refine auFq ?_ | first | (refine frP.nk [16, 20, 17] ?_; (conv => whnf); refine dsP.mk b1 x.2.1 x.1 x.2.2.1 _ _ rfl rfl w1 hwh (r1.ren (by rfl)) ?_; rintro c1 oC1 oD1 hb1 q1) | (refine frP.nk [1, 2, 7] ?_; (conv => whnf); refine dsP.mk b2 x.2.1 x.1 x.2.2.1 _ _ rfl rfl w2 hwh (r2.ren (by rfl)) ?_; rintro c2 oC2 oD2 hb2 q2) | (refine frP.nk [3, 4, 8] ?_; (conv => whnf); refine dsP.mk b3 x.2.1 x.1 x.2.2.1 _ _ rfl rfl w3 hwh (r3.ren (by rfl)) ?_; rintro c3 oC3 oD3 hb3 q3) | (refine frP.nk [5, 6, 9] ?_; (conv => whnf); refine dsP.mk b4 x.2.1 x.1 x.2.2.1 _ _ rfl rfl w4 hwh (r4.ren (by rfl)) ?_; rintro c4 oC4 oD4 hb4 q4) | (refine need_in ⟨hwh.1, by decide⟩ ?_) | refine auIk ?_ | refine auIi ?_ | refine auT ?_ | refine auF ?_ | with_reducible first | refine auKt ?_ | refine auKf ?_ | refine auNt ?_ | refine auNf ?_ | refine auEt ?_ | refine auEf ?_); conv => whnf) | ((with_reducible first | refine br_dec ?_ ?_ | refine br_ndec ?_ ?_ | refine br_ne ?_ ?_ | refine br_eq ?_ ?_) <;> intro h <;> first | (exfalso; omega) | conv => whnf) | (refine br_intro ?_ ?_ <;> intro h <;> conv => whnf) | ((first | refine auNd ?_ | refine idx_nat (by omega) (fun x hx => ?_) | refine frz_auto ?_ | refine draw_plain ?_ | refine auIx (fun x hx => ?_)); conv => whnf) | (refine both.mk ?_ ?_ <;> conv => whnf) | ((first | refine bx_idx ?_ | refine bx_intro (fun b hb => ?_)); conv => whnf)
     all_goals first
      | (refine back_intro (by conv => whnf) (by (refine cut_low (by rfl) ?_; repeat (first | exact .nil | (refine .cons (by first | rfl | exact ((q1.ren (by rfl)).low (by rfl)).1 | exact ((q1.ren (by rfl)).low (by rfl)).2 | exact ((q2.ren (by rfl)).low (by rfl)).1 | exact ((q2.ren (by rfl)).low (by rfl)).2 | exact ((q3.ren (by rfl)).low (by rfl)).1 | exact ((q3.ren (by rfl)).low (by rfl)).2 | exact ((q4.ren (by rfl)).low (by rfl)).1 | exact ((q4.ren (by rfl)).low (by rfl)).2 | exact low_any _ _ [.ptr 16 0, .ptr 1 0, .ptr 3 0, .ptr 5 0] rfl | exact low_any _ _ [.ptr 17 0, .ptr 7 0, .ptr 8 0, .ptr 9 0] rfl) ?_)))) ⟨i + 1, by omega, .n4 c d c1 _ _ c2 _ _ c3 _ _ c4 _ _ rfl rfl (bw_or hb1 w1) (q1.ren (by rfl)) (bw_or hb2 w2) (q2.ren (by rfl)) (bw_or hb3 w3) (q3.ren (by rfl)) (bw_or hb4 w4) (q4.ren (by rfl))⟩ ?_; show l.length - ((i : Int) + 1).toNat < l.length - (i : Int).toNat; omega)
    ·obtain ⟨ss1, se1, sl1⟩ := seal_same w1 1
     obtain ⟨ss2, se2, sl2⟩ := seal_same w2 1
     obtain ⟨ss3, se3, sl3⟩ := seal_same w3 1
     obtain ⟨ss4, se4, sl4⟩ := seal_same w4 1
     conv => whnf
     repeat' first | ((first | refine auTq ?_ | refine auFq ?_ | refine auIk ?_ | refine auIi ?_ | refine auT ?_ | refine auF ?_ | with_reducible first | refine auKt ?_ | refine auKf ?_ | refine auNt ?_ | refine auNf ?_ | refine auEt ?_ | refine auEf ?_); conv => whnf) | ((with_reducible first | refine br_dec ?_ ?_ | refine br_ndec ?_ ?_ | refine br_ne ?_ ?_ | refine br_eq ?_ ?_) <;> intro h <;> first | (exfalso; omega) | conv => whnf) | (refine br_intro ?_ ?_ <;> intro h <;> conv => whnf) | ((first | refine auNd ?_ | refine idx_nat (by omega) (fun x hx => ?_) | refine frz_auto ?_ | refine draw_plain ?_ | refine auIx (fun x hx => ?_)); conv => whnf) | (refine both.mk ?_ ?_ <;> conv => whnf) | ((first | refine bx_idx ?_ | refine bx_intro (fun b hb => ?_)); conv => whnf)
     refine loop_turns 5 ?_
     conv => whnf
     repeat' first | ((first | refine auTq ?_ | refine auFq ?_ | first | (refine frP.nk [16, 20] ?_; (conv => whnf); refine ⟨1, bP.mk b1 _ _ rfl rfl w1 (r1.ren (by rfl)) ?_⟩; rintro oS1 oT1 s1) | (refine frP.mk [17] ?_; (conv => whnf); refine ⟨1, rP.mk b1 rfl rfl w1 ?_⟩) | (refine frP.nk [16, 20, 17] ?_; (conv => whnf); refine akP.mk (b1.sealN 1) _ _ rfl rfl (bw_seal w1 1) ((s1.ren (by rfl)).ren (by rfl)) ?_; rintro oU1 oV1 u1) | (refine frP.nk [1, 2] ?_; (conv => whnf); refine ⟨1, bP.mk b2 _ _ rfl rfl w2 (r2.ren (by rfl)) ?_⟩; rintro oS2 oT2 s2) | (refine frP.mk [7] ?_; (conv => whnf); refine ⟨1, rP.mk b2 rfl rfl w2 ?_⟩) | (refine frP.nk [1, 2, 7] ?_; (conv => whnf); refine akP.mk (b2.sealN 1) _ _ rfl rfl (bw_seal w2 1) ((s2.ren (by rfl)).ren (by rfl)) ?_; rintro oU2 oV2 u2) | (refine frP.nk [3, 4] ?_; (conv => whnf); refine ⟨1, bP.mk b3 _ _ rfl rfl w3 (r3.ren (by rfl)) ?_⟩; rintro oS3 oT3 s3) | (refine frP.mk [8] ?_; (conv => whnf); refine ⟨1, rP.mk b3 rfl rfl w3 ?_⟩) | (refine frP.nk [3, 4, 8] ?_; (conv => whnf); refine akP.mk (b3.sealN 1) _ _ rfl rfl (bw_seal w3 1) ((s3.ren (by rfl)).ren (by rfl)) ?_; rintro oU3 oV3 u3) | (refine frP.nk [5, 6] ?_; (conv => whnf); refine ⟨1, bP.mk b4 _ _ rfl rfl w4 (r4.ren (by rfl)) ?_⟩; rintro oS4 oT4 s4) | (refine frP.mk [9] ?_; (conv => whnf); refine ⟨1, rP.mk b4 rfl rfl w4 ?_⟩) | (refine frP.nk [5, 6, 9] ?_; (conv => whnf); refine akP.mk (b4.sealN 1) _ _ rfl rfl (bw_seal w4 1) ((s4.ren (by rfl)).ren (by rfl)) ?_; rintro oU4 oV4 u4) | refine auIk ?_ | refine auIi ?_ | refine auT ?_ | refine auF ?_ | with_reducible first | refine auKt ?_ | refine auKf ?_ | refine auNt ?_ | refine auNf ?_ | refine auEt ?_ | refine auEf ?_); conv => whnf) | ((with_reducible first | refine br_dec ?_ ?_ | refine br_ndec ?_ ?_ | refine br_ne ?_ ?_ | refine br_eq ?_ ?_) <;> intro h <;> first | (exfalso; omega) | conv => whnf) | (refine br_intro ?_ ?_ <;> intro h <;> conv => whnf) | ((first | refine auNd ?_ | refine idx_nat (by omega) (fun x hx => ?_) | refine frz_auto ?_ | refine draw_plain ?_ | refine auIx (fun x hx => ?_)); conv => whnf) | (refine both.mk ?_ ?_ <;> conv => whnf) | ((first | refine bx_idx ?_ | refine bx_intro (fun b hb => ?_)); conv => whnf)
  ·conv => whnf
   repeat' first | ((first | refine auTq ?_ | refine auFq ?_ | refine auIk ?_ | refine auIi ?_ | refine auT ?_ | refine auF ?_ | with_reducible first | refine auKt ?_ | refine auKf ?_ | refine auNt ?_ | refine auNf ?_ | refine auEt ?_ | refine auEf ?_); conv => whnf) | ((with_reducible first | refine br_dec ?_ ?_ | refine br_ndec ?_ ?_ | refine br_ne ?_ ?_ | refine br_eq ?_ ?_) <;> intro h <;> first | (exfalso; omega) | conv => whnf) | (refine br_intro ?_ ?_ <;> intro h <;> conv => whnf) | ((first | refine auNd ?_ | refine idx_nat (by omega) (fun x hx => ?_) | refine frz_auto ?_ | refine draw_plain ?_ | refine auIx (fun x hx => ?_)); conv => whnf) | (refine both.mk ?_ ?_ <;> conv => whnf) | ((first | refine bx_idx ?_ | refine bx_intro (fun b hb => ?_)); conv => whnf)
   all_goals exact (hm ⟨Int.not_lt.1 ‹_›, Int.not_lt.1 ‹_›⟩).elim
end Go.Proofs.Ytkjoofinfhdcaaa
namespace Go.Proofs.Ytkjoofinfhdcaaa
open Go.ChangeShapes Go.WideShapes Go.ChangeAt Go.RowKit Go.Joins Go.Deep Av

theorem Try.own : ownKnob Try.prog.godebug = none := by kernel_rfl
theorem Try.laidOut : laidOutB Try.prog = true := by kernel_rfl

section
variable {H : Type} {enc : TypeId × Value → H} {w : World}

theorem all_below {W W' : World} (hb : Below W.heap.size W W') : ∀ (ts : List TypeId) (vs : List Value) (ds : List (DataW H)) (ps : List MemPlace), (∀ t ∈ ts, Try.prog.readableRec t = true ∧ t < Try.prog.types.size) →
  DataW.TrodAll enc Try.prog W 0 (fun _ => true) true ts vs ds ps → (∀ x ∈ ps, x.block < W.heap.size) → DataW.TrodAll enc Try.prog W' 0 (fun b => decide (b < W.heap.size)) true ts vs ds ps
 | [], vs, ds, ps, _, h, _ => by
  obtain ⟨rfl, rfl, rfl⟩ := trodAll_nil h
  exact trodAll_mk0
 | t :: ts, vs, ds, ps, hr, h, hlt => by
  obtain ⟨v, vs', d, ds', p, q, rfl, rfl, rfl, h1, h2⟩ := trodAll_cons h
  obtain ⟨r1, r2⟩ := hr t (by simp)
  exact trodAll_cons_mk (Below.trod Try.laidOut r1 r2 h1 hb (fun x hx => hlt x (by simp [hx]))) (all_below hb ts vs' ds' q (fun t' ht' => hr t' (by simp [ht'])) h2 (fun x hx => hlt x (by simp [hx])))

theorem law_post {f : Func} {s : ChangeSpec} {W W' : World} {args : Array Value} {ds gs : List (DataW H)} {before : List MemPlace} (hW : DataW.Whole enc Try.prog f.params.toList s.vars false W args.toList ds gs before)
  (hv : s.vars = []) (hres : (s.fn H (ds ++ [])).results = [.lit (.bool true)]) (hargs : (s.fn H (ds ++ [])).args = ds) (hvs : (s.fn H (ds ++ [])).vars = []) (hR : f.resultTypes = #[4])
  (hr : ∀ t ∈ f.params.toList, Try.prog.readableRec t = true ∧ t < Try.prog.types.size) (hb : Below W.heap.size W W') :
  s.post enc Try.prog f false true false false W args (.bool true) W' := by
 have hlt := hW.lt
 have hW' := hW
 obtain ⟨p, q, hA, hV, rfl, _, _⟩ := hW
 rw [hv] at hV
 obtain ⟨rfl, rfl⟩ := trodVars_none hV
 refine ⟨ds, [], p ++ [], [], p, [], hW', ?_, ?_, ?_, hb.frame _, fun h => by cases h⟩
 ·rw [hres, hR]
  exact trodAll_mk1 (shut_bool Try.underlying4 true)
 ·rw [hargs]
  exact all_below hb _ _ _ _ hr hA (fun x hx => hlt x (by simp [hx]))
 ·rw [hv, hvs]
  exact rfl


theorem trodAll_len {W : World} {base : Nat} {spare : Nat → Bool} {held : Bool} : ∀ {ts : List TypeId} {vs : List Value} {ds : List (DataW H)} {ps : List MemPlace}, DataW.TrodAll enc Try.prog W base spare held ts vs ds ps → ds.length = ts.length
 | [], vs, ds, ps, h => by
  obtain ⟨rfl, rfl, rfl⟩ := trodAll_nil h
  rfl
 | t :: ts, vs, ds, ps, h => by
  obtain ⟨v, vs', D, ds', p, q, rfl, rfl, rfl, h1, h2⟩ := trodAll_cons h
  simp only [List.length_cons, trodAll_len h2]
theorem arr_get {α : Type} {a : Array α} {j : Nat} {x : α} (h : a.toList[j]? = some x) : a[j]? = some x := by simpa using h
end
end Go.Proofs.Ytkjoofinfhdcaaa
